/- Rx, part 11: make, append, min, max, functions as values. -/
import Derived.Test.YtlncjconodmjjaaDoorOps5
namespace Go.Rx
set_option linter.unusedVariables false
set_option linter.unusedSimpArgs false
section
variable {C : Ctx} {S : AS} {E : Env} {a : Act} {w : World} {G : Gl}
theorem dom_new (S : AS) (nid : Nat) (o : Obj) (l : List (Nat × Obj)) : Dom (S.setObjs ((nid, o) :: l)) nid := by unfold Dom; rw [obj_cons]; simp
theorem makeSlice_ok {t : TypeId} {ti : TI} {nid : Nat} {x y : Operand} {e : Eff} (hty : TyOK C.P G) (h : RepE C S E a w) (hn : S.obj nid = none) (ht : TIOK C.P G.ty t ti) {o : Oper} (ho : o.op = .makeSlice t x y)
    (he : (evMakeSlice G nid ti (S.ev x) (S.ev y)).sat (· = e)) : OpWP C S a w o e := by
  have hx := h.ev x
  have hy := h.ev y
  obtain ⟨d, hd, htd⟩ := ht.desc
  unfold evMakeSlice at he
  split at he
  · rename_i n c hex hey
    rw [hex] at hx
    rw [hey] at hy
    simp only [RepV] at hx hy
    split at he
    · rename_i el htt
      rw [htt] at htd
      cases d <;> simp [tdOf] at htd
      rename_i el'
      subst htd
      split at he
      · rename_i te hg
        split at he
        · rename_i hdat
          obtain ⟨h1, h2, h3, h4, he⟩ := he
          cases he
          have h1 : 0 ≤ n := by simpa using h1
          have h2 : n ≤ c := by simpa using h2
          have h3 : (te.bytes : Int) * c ≤ 140737488355328 := by simpa using h3
          have h4 : c ≤ 140737488355328 := by simpa using h4
          obtain ⟨i, z, hi, hz, hzs, his, hib, hok⟩ := zero_run (hty _ _ hg)
          have hzd := zero_data hok hdat
          have hshs : te.sh.size = te.size := by rw [← hzs]; have := (hzd (Al C S E w) w).length; simpa using this.symm
          have hrun := run_make (P := C.P) w t el' i z hd hi hz .i64 .i64 n c h1 h2 (by rw [hib]; omega) (by omega)
          rw [his] at hrun
          have hrows : RowsL (fun x c => PC (Al C S E w) w te.sh x c) (List.replicate n.toNat te.sh.dflt) ((madeCells z.cells (c.toNat * te.size)).toList.take (n.toNat * te.size)) := by
            by_cases hs0 : te.size = 0
            · have hz0 : z.cells.toList = [] := List.eq_nil_of_length_eq_zero (by simpa [hs0] using hzs)
              rw [hs0, Nat.mul_zero, List.take_zero]
              have := hzd (Al C S E w) w
              rw [hz0] at this
              have e0 : ∀ k, repV [] k = [] := fun k => by induction k with | zero => rfl | succ k ih => simp [repV, ih]
              have q := rows_rep this n.toNat
              rw [e0] at q
              exact q
            · have hmade := made_rep z.cells (by omega) c.toNat
              rw [hzs] at hmade
              rw [hmade]
              have q := RowsL.take (fun x c (h : PC (Al C S E w) w te.sh x c) => h.length) n.toNat (rows_rep (hzd (Al C S E w) w) c.toNat)
              rw [hshs, List.take_replicate, Nat.min_eq_left (by omega)] at q
              exact q
          obtain ⟨E', s1, s2, s3⟩ := h.newRow hn (et := el') (cur := madeCells z.cells (c.toNat * te.size)) (cap := c.toNat) hrows (by simp [hshs]) (by rw [size_madeCells, hshs]) (by simp; omega) (by unfold maxLen; omega)
          refine OpWP.run (x := .slice (some ⟨w.heap.size, 0, none⟩) n.toNat c.toNat) (w' := w.alloc (.cells (madeCells z.cells (c.toNat * te.size)) el')) ?_ s1 ?_
          · simp [execOp, ho, hx, hy, hrun]
          · simp only [RepV]
            exact ⟨dom_new _ _ _ _, by rw [s3]; simp⟩
        · cases he
      · cases he
    · cases he
  · cases he
theorem makeFunc_ok {f : FuncId} {x y : Array Operand} (h : RepE C S E a w) {o : Oper} (ho : o.op = .makeFunc (.func f) x y) {rd : List Nat} {dec : List (Nat × Bool)} :
    OpWP C S a w o ⟨.fn f (x.toList.map S.ev) (y.toList.map S.ev), [], rd, dec⟩ := by
  refine OpWP.pure h (x := .func (.func f) (x.map a.eval) (y.map a.eval)) (by simp [execOp, ho, Instr.makeFunc]) ?_
  simp only [RepV]
  exact ⟨x.toList.map a.eval, y.toList.map a.eval, by rw [← Array.toList_map, ← Array.toList_map], h.evs _, h.evs _⟩
theorem mm_min {P : Program} {w : World} : ∀ {l : List AV} {vs : List Value} {D : Nat → Prop} {E : Env} {A : Nat → Prop} {k : IntKind} {n : Int} {v : AV}, mmGo false k n l = some v → RepL D E A w l vs → ∃ x, (vs.foldlM Builtin.min2 (.int k n)).run P w = .ok x w ∧ RepV D E A w v x
  | [], _, _, _, _, _, _, _, h, hl => by simp only [RepL] at hl; subst hl; cases h; exact ⟨_, by simp; rfl, by simp [RepV]⟩
  | u :: l, vs, D, E, A, k, n, v, h, hl => by
    simp only [RepL] at hl
    obtain ⟨x, t, rfl, h1, h2⟩ := hl
    cases u <;> first | (simp [mmGo] at h; done) | skip
    rename_i k' b
    simp only [RepV] at h1
    subst h1
    simp only [mmGo] at h
    split at h
    · rename_i q _
      subst q
      obtain ⟨y, h3, h4⟩ := mm_min (P := P) h h2
      refine ⟨y, ?_, h4⟩
      have : (if b < n then b else n) = min n b := by omega
      simp [Builtin.min2, this, h3]
    · cases h
theorem mm_max {P : Program} {w : World} : ∀ {l : List AV} {vs : List Value} {D : Nat → Prop} {E : Env} {A : Nat → Prop} {k : IntKind} {n : Int} {v : AV}, mmGo true k n l = some v → RepL D E A w l vs → ∃ x, (vs.foldlM Builtin.max2 (.int k n)).run P w = .ok x w ∧ RepV D E A w v x
  | [], _, _, _, _, _, _, _, h, hl => by simp only [RepL] at hl; subst hl; cases h; exact ⟨_, by simp; rfl, by simp [RepV]⟩
  | u :: l, vs, D, E, A, k, n, v, h, hl => by
    simp only [RepL] at hl
    obtain ⟨x, t, rfl, h1, h2⟩ := hl
    cases u <;> first | (simp [mmGo] at h; done) | skip
    rename_i k' b
    simp only [RepV] at h1
    subst h1
    simp only [mmGo] at h
    split at h
    · rename_i q _
      subst q
      obtain ⟨y, h3, h4⟩ := mm_max (P := P) h h2
      refine ⟨y, ?_, h4⟩
      have : (if n < b then b else n) = max n b := by omega
      simp [Builtin.max2, this, h3]
    · cases h
theorem minmax_ok {mx : Bool} {xs : Array Operand} {ats : Array TypeId} {v : AV} (h : RepE C S E a w) {o : Oper} (ho : o.op = .call ⟨.builtin (match mx with | true => .max | false => .min), xs, ats⟩) (he : minmax mx (xs.toList.map S.ev) = some v) {rd : List Nat} {dec : List (Nat × Bool)} :
    OpWP C S a w o ⟨v, [], rd, dec⟩ := by
  have hl := h.evs xs.toList
  unfold minmax at he
  split at he
  · rename_i k n r heq
    rw [heq] at hl
    simp only [RepL, RepV] at hl
    obtain ⟨x, t, hv, rfl, h2⟩ := hl
    have hv' : (xs.map a.eval).toList = .int k n :: t := by simpa using hv
    cases mx with
    | true =>
      obtain ⟨y, h3, h4⟩ := mm_max (P := C.P) he h2
      refine OpWP.pure h (x := y) ?_ h4
      simp [execOp, ho, resolve, invoke, builtin, Builtin.max_, hv, h3]
    | false =>
      obtain ⟨y, h3, h4⟩ := mm_min (P := C.P) he h2
      refine OpWP.pure h (x := y) ?_ h4
      simp [execOp, ho, resolve, invoke, builtin, Builtin.min_, hv, h3]
  · cases he

/-! ### append -/
theorem RepE.drew (h : RepE C S E a w) : RepE C S E a w.drew := by
  have := h.step (S' := S) (E' := E) (w' := w.drew) (fun _ => rfl) (later_drew _) (fun _ _ _ => rfl) (fun id hd => ⟨hd, rfl, rfl, rfl⟩) (fun b _ _ h3 id o ho hw => h3 id o ho hw) (fun _ _ => rfl) (fun _ id o ho => .inl ⟨ho, fun _ => rfl⟩) h.h.inj
  exact this.1
theorem Ext.refl {D : Nat → Prop} {A : Nat → Prop} : Ext D E A w D E A w := ⟨fun id hd => ⟨hd, rfl, rfl, rfl⟩, fun b hb => ⟨hb, fun _ _ q => q⟩⟩
/-- An object is given up for good. -/
theorem RepE.kill (h : RepE C S E a w) {id : Nat} (hd : Dom S id) : RepE C (S.setObjs [(id, .gone)]) E a w ∧ Ext (Dom S) E (Al C S E w) w (Dom (S.setObjs [(id, .gone)])) E (Al C (S.setObjs [(id, .gone)]) E w) w := by
  have old : ∀ i o, (S.setObjs [(id, .gone)]).obj i = some o → Owns E i o → S.obj i = some o := by
    intro i o hi hw
    rw [obj_cons] at hi
    split at hi
    · cases hi; exact hw.elim
    · exact hi
  refine h.step (fun _ => rfl) (Later.refl _) (fun _ _ _ => rfl) (fun i hi => ⟨by unfold Dom at *; rw [obj_cons]; split <;> simp [obj_nil, hi], rfl, rfl, rfl⟩)
    (fun b _ _ h3 i o hi hw => h3 i o (old i o hi hw) hw) (fun _ _ => rfl) (fun ext i o hi => ?_) (fun i j o1 o2 hi hwi hj hwj hβ => h.h.inj i j o1 o2 (old i o1 hi hwi) hwi (old j o2 hj hwj) hwj hβ)
  rw [obj_cons] at hi
  split at hi
  · cases hi
    exact .inr ⟨trivial, fun q => q.elim⟩
  · exact .inl ⟨hi, fun _ => rfl⟩
/-- A list that is nil. -/
theorem RepE.newNil (h : RepE C S E a w) {id : Nat} (hid : S.obj id = none) {en : Bool} {e : Sh} {et : TypeId} :
    ∃ E', RepE C (S.setObjs [(id, .grow en e et [])]) E' a w ∧ E'.σ id = .slice none 0 0 := by
  have hne : ∀ i, Dom S i → i ≠ id := fun i hi q => hi (q ▸ hid)
  have hσ : (E.upd id 0 (none, 0, 0) 0).σ id = .slice none 0 0 := by simp
  have old : ∀ i o, (S.setObjs [(id, .grow en e et [])]).obj i = some o → Owns (E.upd id 0 (none, 0, 0) 0) i o → S.obj i = some o ∧ i ≠ id ∧ Owns E i o := by
    intro i o hi hw
    rw [obj_cons] at hi
    split at hi
    · rename_i q
      subst q
      cases hi
      exact absurd hσ hw
    · rename_i q
      exact ⟨hi, q, (Owns.env (upd_ne E q).2.1).1 hw⟩
  refine ⟨_, (h.step (S' := S.setObjs [(id, .grow en e et [])]) (E' := E.upd id 0 (none, 0, 0) 0) (w' := w) (fun _ => rfl) (Later.refl _) (fun _ _ _ => rfl)
    (fun i hi => ⟨by unfold Dom at *; rw [obj_cons]; split <;> simp [obj_nil, hi], upd_ne E (hne i hi)⟩) (fun b _ _ h3 i o hi hw => ?_) (fun _ _ => rfl) (fun ext i o hi => ?_) (fun i j o1 o2 hi hwi hj hwj hβ => ?_)).1, hσ⟩
  · obtain ⟨q1, q2, q3⟩ := old i o hi hw
    rw [(upd_ne E q2).1]
    exact h3 i o q1 q3
  · rw [obj_cons] at hi
    split at hi
    · rename_i q
      subst q
      cases hi
      exact .inr ⟨⟨by simp, .inl ⟨hσ, rfl⟩⟩, fun q => absurd hσ q⟩
    · exact .inl ⟨hi, fun _ => rfl⟩
  · obtain ⟨q1, q2, q3⟩ := old i o1 hi hwi
    obtain ⟨r1, r2, r3⟩ := old j o2 hj hwj
    rw [(upd_ne E q2).1, (upd_ne E r2).1] at hβ
    exact h.h.inj i j o1 o2 q1 q3 r1 r3 hβ
/-- A row passes to another number, and is written. -/
theorem RepE.pass (h : RepE C S E a w) {id nid : Nat} (hn : S.obj nid = none) {en : Bool} {e : Sh} {et : TypeId} {xs ys : List e.T} (hid : S.obj id = some (.grow en e et xs)) (hO : Owns E id (.grow en e et xs)) {w' : World} (hlat : Later w w') (hsz : w'.heap.size = w.heap.size)
    (hw : ∀ k, k ≠ E.β id → w'.heap[k]? = w.heap[k]?) {cur : Array Value} {cells : List Value} {cap : Nat} (hh : w'.heap[E.β id]? = some (.cells cur et (0, 0))) (hr : RowsL (fun x c => PC (Al C S E w) w e x c) ys cells)
    (ht : cur.toList.take (ys.length * e.size) = cells) (hc : cur.size = cap * e.size) (hl : ys.length ≤ cap) (hm : cap ≤ maxLen) :
    ∃ E', RepE C (S.setObjs [(nid, .grow en e et ys), (id, .gone)]) E' a w' ∧ E'.σ nid = .slice (some ⟨E.β id, 0, none⟩) ys.length cap := by
  have hne : ∀ i, Dom S i → i ≠ nid := fun i hi q => hi (q ▸ hn)
  have hin : id ≠ nid := hne id (by unfold Dom; rw [hid]; simp)
  obtain ⟨E', hE'⟩ : ∃ E', E' = E.upd nid (E.β id) (some ⟨E.β id, 0, none⟩, ys.length, cap) ys.length := ⟨_, rfl⟩
  have hσ : E'.σ nid = .slice (some ⟨E.β id, 0, none⟩) ys.length cap := by rw [hE']; simp
  have hβn : E'.β nid = E.β id := by rw [hE']; simp
  have hEne : ∀ i, i ≠ nid → E'.β i = E.β i ∧ E'.σ i = E.σ i ∧ E'.ln i = E.ln i := fun i q => by rw [hE']; exact upd_ne E q
  have look : ∀ i, (S.setObjs [(nid, .grow en e et ys), (id, .gone)]).obj i = if i = nid then some (.grow en e et ys) else if i = id then some .gone else S.obj i := by
    intro i
    rw [obj_cons, obj_cons, obj_nil]
  have old : ∀ i o, (S.setObjs [(nid, .grow en e et ys), (id, .gone)]).obj i = some o → Owns E' i o → (i = nid ∧ o = .grow en e et ys) ∨ (i ≠ nid ∧ i ≠ id ∧ S.obj i = some o ∧ Owns E i o) := by
    intro i o hi hw
    rw [look] at hi
    split at hi
    · cases hi; exact .inl ⟨by assumption, rfl⟩
    · rename_i q
      split at hi
      · cases hi; exact hw.elim
      · rename_i q'
        exact .inr ⟨q, q', hi, (Owns.env (hEne i q).2.1).1 hw⟩
  have hAw : ∀ b, Al C S E w b → w'.heap[b]? = w.heap[b]? := fun b hb => hw b (Ne.symm (h.h.apart hid hO hb))
  refine ⟨E', (h.step (S' := S.setObjs [(nid, .grow en e et ys), (id, .gone)]) (E' := E') (w' := w') (fun _ => rfl) hlat (fun b h1 h2 => hw b (h.h.away hid hO h1 h2)) (fun i hi => ⟨by unfold Dom at *; rw [look]; split <;> (try split) <;> simp_all, hEne i (hne i hi)⟩) (fun b h1 h2 h3 i o hi hwi => ?_) hAw (fun ext i o hi => ?_) (fun i j o1 o2 hi hwi hj hwj hβ => ?_)).1, hσ⟩
  · rcases old i o hi hwi with ⟨q1, q2⟩ | ⟨q1, q2, q3, q4⟩
    · rw [q1, hβn]
      exact h3 id _ hid hO
    · rw [(hEne i q1).1]
      exact h3 i o q3 q4
  · rw [look] at hi
    split at hi
    · rename_i q
      subst q
      cases hi
      refine .inr ⟨⟨by rw [hE']; simp, .inr ⟨cap, cur, cells, by rw [hσ, hβn], by rw [hβn]; exact hh, hl, hm, hc, hr.imp (fun _ _ => ext.pc), ht⟩⟩, fun _ => ?_⟩
      rw [hβn, hsz]
      have := h.h.fresh id _ hid hO
      exact ⟨this.1, this.2.imp (fun q => q) (fun q => ⟨q.1, q.2⟩)⟩
    · rename_i q
      split at hi
      · cases hi
        exact .inr ⟨trivial, fun q => q.elim⟩
      · rename_i q'
        refine .inl ⟨hi, fun hwi => hw _ (fun q2 => q' (h.h.inj i id o _ hi hwi hid hO q2))⟩
  · rcases old i o1 hi hwi with ⟨q1, q2⟩ | ⟨q1, q2, q3, q4⟩ <;> rcases old j o2 hj hwj with ⟨r1, r2⟩ | ⟨r1, r2, r3, r4⟩
    · rw [q1, r1]
    · rw [q1, hβn, (hEne j r1).1] at hβ
      exact absurd (h.h.inj id j _ o2 hid hO r3 r4 hβ).symm r2
    · rw [r1, hβn, (hEne i q1).1] at hβ
      exact absurd (h.h.inj i id o1 _ q3 q4 hid hO hβ) q2
    · rw [(hEne i q1).1, (hEne j r1).1] at hβ
      exact h.h.inj i j o1 o2 q3 q4 r3 r4 hβ
end
end Go.Rx

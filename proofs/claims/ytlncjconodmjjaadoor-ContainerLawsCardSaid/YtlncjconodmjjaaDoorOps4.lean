/- Rx, part 9: new memory: variables, literals, make, append. -/
import Derived.Test.YtlncjconodmjjaaDoorOps3
namespace Go.Rx
set_option linter.unusedVariables false
set_option linter.unusedSimpArgs false
theorem dataN_sound {m : Nat} {S : AS} {E : Env} {A A' : Nat → Prop} {w : World} (hR : ∀ id o, S.obj id = some o → RepO (Dom S) E A w id o) (hA : ∀ b, A b → A' b) (e : Sh) : ∀ (n : Nat) (l : List AV) (vs : List Value) (d : DC (.sl e)),
    dataN m S.obj e n l = some d → RepL (Dom S) E A w l vs →
    (∀ id o, id ∈ d.vis → S.obj id = some o → Owns E id o → (∀ e xs, o ≠ .arr e xs) → A' (E.β id)) →
    RowsL (fun x c => PC A' w e x c) d.x vs ∧ d.x.length = n
  | 0, l, vs, d, h, hl, hv => by
    cases l with
    | cons v r => cases h
    | nil =>
      cases h
      simp only [RepL] at hl
      subst hl
      exact ⟨rfl, rfl⟩
  | n + 1, l, vs, d, h, hl, hv => by
    simp only [dataN] at h
    split at h
    · rename_i d1 h1
      split at h
      · rename_i d2 h2
        cases h
        obtain ⟨c1, r1, rfl, hr1, p1⟩ := data_sound hR hA e l vs d1 h1 hl (fun id o hi => hv id o (by simp [hi]))
        obtain ⟨q1, q2⟩ := dataN_sound hR hA e n _ _ d2 h2 hr1 (fun id o hi => hv id o (by simp [hi]))
        exact ⟨⟨c1, r1, rfl, p1, q1⟩, by simp [q2]⟩
      · cases h
    · cases h
theorem dataN_free {m : Nat} {h : Nat → Option Obj} (e : Sh) : ∀ (n : Nat) (l : List AV) (d : DC (.sl e)), dataN m h e n l = some d → ∀ id o, id ∈ d.vis → h id = some o → FreeM m id o
  | 0, l, d, q => by
    cases l with
    | cons v r => cases q
    | nil => cases q; intro id o hi; cases hi
  | n + 1, l, d, q => by
    simp only [dataN] at q
    split at q
    · rename_i d1 h1
      split at q
      · rename_i d2 h2
        cases q
        intro id o hi ho
        rcases List.mem_append.1 hi with hi | hi
        · exact data_free e l d1 h1 id o hi ho
        · exact dataN_free e n _ d2 h2 id o hi ho
      · cases q
    · cases q
theorem dataN_agree {m : Nat} {h h' : Nat → Option Obj} (e : Sh) : ∀ (n : Nat) (l : List AV) (d : DC (.sl e)), dataN m h e n l = some d → (∀ id, id ∈ d.vis → h' id = h id) → dataN m h' e n l = some d
  | 0, l, d, q, _ => by
    cases l with
    | cons v r => cases q
    | nil => exact q
  | n + 1, l, d, q, hv => by
    simp only [dataN] at q ⊢
    split at q
    · rename_i d1 h1
      split at q
      · rename_i d2 h2
        cases q
        rw [data_agree e l d1 h1 (fun id hi => hv id (by simp [hi]))]
        simp only
        rw [dataN_agree e n _ d2 h2 (fun id hi => hv id (by simp [hi]))]
      · cases q
    · cases q
section
variable {C : Ctx} {S : AS} {E : Env} {a : Act} {w : World} {G : Gl}
theorem RepE.dataN (h : RepE C S E a w) {m : Nat} (hm : m = C.m) {e : Sh} {n : Nat} {l : List AV} {vs : List Value} {d : DC (.sl e)} (hd : dataN m S.obj e n l = some d) (hl : RepL (Dom S) E (Al C S E w) w l vs) :
    RepE C (S.setObjs (frz S.obj d.vis)) E a w ∧ Ext (Dom S) E (Al C S E w) w (Dom (S.setObjs (frz S.obj d.vis))) E (Al C (S.setObjs (frz S.obj d.vis)) E w) w ∧
      RowsL (fun x c => PC (Al C (S.setObjs (frz S.obj d.vis)) E w) w e x c) d.x vs ∧ d.x.length = n := by
  obtain ⟨h1, h2, h3⟩ := h.release d.vis (fun id o hi ho => Free.of hm (dataN_free e n l d hd id o hi ho))
  exact ⟨h1, h2, dataN_sound h.h.objs (fun b hb => (h2.a b hb).1) e n l vs d hd hl h3⟩

/-- What is laid new at an object's own number: a list. -/
theorem RepE.newRow (h : RepE C S E a w) {id : Nat} (hid : S.obj id = none) {e : Sh} {et : TypeId} {xs : List e.T} {cells : List Value} {cur : Array Value} {cap : Nat} (hr : RowsL (fun x c => PC (Al C S E w) w e x c) xs cells)
    (ht : cur.toList.take (xs.length * e.size) = cells) (hc : cur.size = cap * e.size) (hl : xs.length ≤ cap) (hm : cap ≤ maxLen) :
    ∃ E', RepE C (S.setObjs [(id, .grow false e et xs)]) E' a (w.alloc (.cells cur et)) ∧ Ext (Dom S) E (Al C S E w) w (Dom (S.setObjs [(id, .grow false e et xs)])) E' (Al C (S.setObjs [(id, .grow false e et xs)]) E' (w.alloc (.cells cur et))) (w.alloc (.cells cur et)) ∧
      E'.σ id = .slice (some ⟨w.heap.size, 0, none⟩) xs.length cap := by
  have := h.alloc hid (.grow false e et xs) (.cells cur et) ⟨_, _, rfl⟩ (some ⟨w.heap.size, 0, none⟩, xs.length, cap) xs.length (by
    intro D' A' ext _
    refine ⟨by simp, .inr ⟨cap, cur, cells, by simp, ?_, hl, hm, hc, hr.imp (fun _ _ => ext.pc), ht⟩⟩
    simp only [upd_β]
    exact heap_alloc_new w _)
  exact ⟨_, this.1, this.2, by simp⟩
theorem RepE.newArr (h : RepE C S E a w) {id : Nat} (hid : S.obj id = none) {e : Sh} {et : TypeId} {xs : List e.T} {cells : List Value} (hr : RowsL (fun x c => PC (Al C S E w) w e x c) xs cells) :
    ∃ E', RepE C (S.setObjs [(id, .arr e xs)]) E' a (w.alloc (.cells cells.toArray et)) ∧ E'.β id = w.heap.size ∧ Dom (S.setObjs [(id, .arr e xs)]) id := by
  have := h.alloc hid (.arr e xs) (.cells cells.toArray et) ⟨_, _, rfl⟩ (none, 0, 0) xs.length (by
    intro D' A' ext _
    refine ⟨by simp, cells, et, ?_, hr.imp (fun _ _ => ext.pc)⟩
    simp only [upd_β]
    exact heap_alloc_new w _)
  exact ⟨_, this.1, by simp, by unfold Dom; rw [obj_cons]; simp⟩
theorem RepE.newCells (h : RepE C S E a w) {id : Nat} (hid : S.obj id = none) {et : TypeId} {cs : List AV} {vs : List Value} (hr : RepL (Dom S) E (Al C S E w) w cs vs) :
    ∃ E', RepE C (S.setObjs [(id, .cells cs)]) E' a (w.alloc (.cells vs.toArray et)) ∧ E'.β id = w.heap.size ∧ Dom (S.setObjs [(id, .cells cs)]) id := by
  have := h.alloc hid (.cells cs) (.cells vs.toArray et) ⟨_, _, rfl⟩ (none, 0, 0) 0 (by
    intro D' A' ext _
    refine ⟨vs, et, ?_, ext.repL hr⟩
    simp only [upd_β]
    exact heap_alloc_new w _)
  exact ⟨_, this.1, by simp, by unfold Dom; rw [obj_cons]; simp⟩

theorem zero_run {P : Program} {t : TypeId} {ti : TI} (ht : TIOK P G.ty t ti) : ∃ i z, P.info? t = some i ∧ i.zero = some z ∧ z.cells.size = ti.size ∧ i.size = ti.size ∧ i.bytes = ti.bytes ∧ ZeroOK G.ty ti z.cells.toList := by
  obtain ⟨i, hi, h1, h2⟩ := ht.info
  obtain ⟨z, h3, h4, h5⟩ := ht.zero i hi
  exact ⟨i, z, hi, h3, h4, h1, h2, h5⟩
theorem zero_data {ti : TI} {zs : List Value} (h : ZeroOK G.ty ti zs) (hd : ti.dat = true) : ∀ A w, PC A w ti.sh ti.sh.dflt zs := by
  unfold TI.dat at hd
  split at hd
  · cases hd
  · rename_i hnd
    unfold ZeroOK at h
    rw [hnd] at h
    cases htd : ti.td <;> rw [htd] at h hd <;> first | exact h | cases hd
/-- The row of an array's type. -/
theorem zero_arr {ti : TI} {zs : List Value} (h : ZeroOK G.ty ti zs) {n : Nat} {e : TypeId} (htt : ti.td = .arr n e) : ∀ te, G.ty e = some te → n * te.size = ti.size ∧ (te.td ≠ .fn → ∀ A w, RowsL (fun x c => PC A w te.sh x c) (List.replicate n te.sh.dflt) zs) := by
  unfold ZeroOK at h
  have : ti.nds = false := by unfold TI.nds; rw [htt]
  rw [this, htt] at h
  exact h
theorem dat_fn {ti : TI} (hd : ti.dat = true) : ti.td ≠ .fn := by
  intro q
  unfold TI.dat at hd
  split at hd
  · cases hd
  · rw [q] at hd; cases hd
theorem alloc_ok {t : TypeId} {ti : TI} {e : Eff} {nid : Nat} (hty : TyOK C.P G) (h : RepE C S E a w) (hn : S.obj nid = none) (ht : TIOK C.P G.ty t ti) {o : Oper} (ho : o.op = .alloc t)
    (he : (evAlloc G nid ti).sat (· = e)) : OpWP C S a w o e := by
  obtain ⟨i, z, hi, hz, hzs, his, hib, hok⟩ := zero_run ht
  have hrun : (execOp a.eval o).run C.P w = .ok (.value (.pointer (some ⟨w.heap.size, 0, none⟩))) (w.alloc (.cells z.cells t)) := by
    simp [execOp, ho, Instr.alloc, zeroValue, typeInfo, hi, hz, newVar, newRow]
  have hcells : z.cells = z.cells.toList.toArray := by simp
  unfold evAlloc at he
  split at he
  · rename_i n el htt
    split at he
    · rename_i te hg
      split at he
      · rename_i hdata
        cases he
        obtain ⟨hns, hrows⟩ := zero_arr hok htt te hg
        have hrows := hrows (dat_fn hdata) (Al C S E w) w
        obtain ⟨E', r1, r2, r3⟩ := h.newArr hn (et := t) hrows
        rw [← hcells] at r1
        refine OpWP.run hrun r1 ?_
        simp only [RepV]
        exact ⟨r3, by rw [r2]⟩
      · cases he
    · cases he
  · split at he
    · rename_i hcb
      cases he
      have hdata : ti.dat = true := by
        unfold zeroAV at hcb
        split at hcb
        · assumption
        · split at hcb
          · simp [rep, cellsB, AV.cellB] at hcb
          · simp [cellsB, AV.cellB] at hcb
      have hz' : zeroAV ti = enc ti.sh ti.sh.dflt := by unfold zeroAV; rw [hdata]
      obtain ⟨E', r1, r2, r3⟩ := h.newCells hn (et := t) (cs := zeroAV ti) (vs := z.cells.toList) (by rw [hz']; exact enc_ok (zero_data hok hdata _ _))
      rw [← hcells] at r1
      refine OpWP.run hrun r1 ?_
      simp only [RepV]
      exact ⟨r3, by rw [r2]⟩
    · cases he
theorem box_ok {t : TypeId} {ti : TI} {x : Operand} {e : Eff} {nid : Nat} (hm : G.m = C.m) (h : RepE C S E a w) (hn : S.obj nid = none) {o : Oper} (ho : o.op = .box t x)
    (he : (newObj G S nid ti (S.ev x)).sat (· = e)) : OpWP C S a w o e := by
  have hx := h.ev x
  have hrun : (execOp a.eval o).run C.P w = .ok (.value (.pointer (some ⟨w.heap.size, 0, none⟩))) (w.alloc (.cells (a.eval x).cells t)) := by
    simp [execOp, ho, Instr.box, newVar, newRow]
  have hcells : (a.eval x).cells = (a.eval x).cells.toList.toArray := by simp
  unfold newObj at he
  split at he
  · rename_i n el l htt hl
    split at he
    · rename_i te hg
      split at he
      · rename_i d hd
        cases he
        rw [hl] at hx
        simp only [RepV] at hx
        obtain ⟨vs, hv, hx2⟩ := hx
        obtain ⟨r1, r2, r3, _⟩ := h.dataN hm hd hx2
        have hn' : (S.setObjs (frz S.obj d.vis)).obj nid = none := by
          rw [obj_frz]
          split
          · rw [hn]
          · exact hn
        obtain ⟨E', s1, s2, s3⟩ := r1.newArr hn' (et := t) r3
        refine OpWP.run (w' := w.alloc (.cells vs.toArray t)) (by rw [hrun, hv]; rfl) s1 ?_
        simp only [RepV]
        exact ⟨s3, by rw [s2]⟩
      · cases he
    · cases he
  · cases he
  · split at he
    · rename_i hcb
      cases he
      obtain ⟨E', r1, r2, r3⟩ := h.newCells hn (et := t) (cellsAV_ok hx hcb)
      rw [← hcells] at r1
      refine OpWP.run hrun r1 ?_
      simp only [RepV]
      exact ⟨r3, by rw [r2]⟩
    · cases he
theorem rows_false {A : Nat → Prop} : ∀ n : Nat, RowsL (fun (x : Bool) c => PC A w .bool x c) (List.replicate n false) (List.replicate n (.bool false))
  | 0 => rfl
  | n + 1 => ⟨[.bool false], List.replicate n (.bool false), rfl, rfl, rows_false n⟩
theorem evBox_ok {t : TypeId} {ti : TI} {x : Operand} {e : Eff} {nid : Nat} (hm : G.m = C.m) (h : RepE C S E a w) (hn : S.obj nid = none) {o : Oper} (ho : o.op = .box t x)
    (he : (evBox G S nid ti (S.ev x)).sat (· = e)) : OpWP C S a w o e := by
  unfold evBox at he
  split at he
  · rename_i n heq
    cases he
    have hx := h.ev x
    rw [heq] at hx
    simp only [RepV] at hx
    have hrun : (execOp a.eval o).run C.P w = .ok (.value (.pointer (some ⟨w.heap.size, 0, none⟩))) (w.alloc (.cells (a.eval x).cells t)) := by
      simp [execOp, ho, Instr.box, newVar, newRow]
    obtain ⟨E', s1, s2, s3⟩ := h.newArr (e := .bool) (xs := List.replicate n false) hn (et := t) (rows_false (w := w) (A := Al C S E w) n)
    refine OpWP.run (w' := w.alloc (.cells (List.replicate n (.bool false)).toArray t)) (by rw [hrun, hx]; rfl) s1 ?_
    simp only [RepV]
    exact ⟨s3, by rw [s2]⟩
  · split at he
    · exact box_ok hm h hn ho he
    · cases he
end
end Go.Rx

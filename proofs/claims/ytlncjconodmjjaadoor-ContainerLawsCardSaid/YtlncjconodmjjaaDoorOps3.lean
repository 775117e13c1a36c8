/- Rx, part 8: addresses, parts, slices of slices. -/
import Derived.Test.YtlncjconodmjjaaDoorOps2
namespace Go.Rx
set_option linter.unusedVariables false
set_option linter.unusedSimpArgs false
section
variable {C : Ctx} {S : AS} {E : Env} {a : Act} {w : World} {G : Gl}
/-- All that the evaluator is told of the program is so. -/
def TyOK (P : Program) (G : Gl) : Prop := ∀ t ti, G.ty t = some ti → TIOK P G.ty t ti

theorem st_field {P : Program} {t : TypeId} {ti : TI} (ht : TIOK P G.ty t ti) {f : Nat} {p : Nat × TypeId} (hf : fieldOf ti f = some p) : ∃ fs fld, P.underlying t = some (.struct fs) ∧ fs[f]? = some fld ∧ fld.offset = p.1 ∧ fld.type = p.2 := by
  obtain ⟨d, hd, htd⟩ := ht.desc
  unfold fieldOf at hf
  split at hf
  · rename_i fs hfs
    rw [hfs] at htd
    cases d <;> simp [tdOf] at htd
    rename_i flds
    subst htd
    rw [List.getElem?_map] at hf
    cases hx : flds.toList[f]? with
    | none => rw [hx] at hf; cases hf
    | some fld =>
      rw [hx] at hf
      cases hf
      exact ⟨flds, fld, hd, by simpa using hx, rfl, rfl⟩
  · cases hf
theorem fieldAddr_ok {t : TypeId} {ti : TI} {x : Operand} {f : Nat} {e : Eff} (hty : TyOK C.P G) (h : RepE C S E a w) (ht : TIOK C.P G.ty t ti) {o : Oper} (ho : o.op = .fieldAddr t x f)
    (he : (evFieldAddr G ti f (S.ev x)).sat (· = e)) : OpWP C S a w o e := by
  have hx := h.ev x
  unfold evFieldAddr at he
  split at he
  · cases he
  rename_i p hp
  obtain ⟨fs, fld, hd, hfs, hoff, hfty⟩ := st_field ht hp
  have run : ∀ {b off : Nat}, (match G.ty p.2 with | some tf => Nat.blt 0 tf.size | none => false) = true → a.eval x = .pointer (some ⟨b, off, none⟩) →
      (execOp a.eval o).run C.P w = .ok (.value (.pointer (some ⟨b, off + p.1, none⟩))) w := by
    intro b off hsz hv
    cases hg : G.ty p.2 with
    | none => rw [hg] at hsz; cases hsz
    | some tf =>
      rw [hg] at hsz
      have h1 := sizeOf_ok (hty _ _ hg) w
      have h2 : ¬ tf.size = 0 := by
        have : 0 < tf.size := Nat.le_of_ble_eq_true hsz
        omega
      simp [execOp, ho, Instr.fieldAt, run_underlying hd, hfs, hv, Instr.sureAddr, fieldPlace, hfty, h1, h2, hoff, Addr.add_lit]
  split at he <;> (try (cases he; done)) <;> rename_i hsz heq <;> rw [heq] at hx <;> simp only [RepV] at hx <;> cases he
  · refine OpWP.pure h (run hsz hx.2) ?_
    simp only [RepV]
    exact ⟨hx.1, trivial⟩
  · refine OpWP.pure h (run hsz hx.2.2) ?_
    simp only [RepV]
    exact ⟨hx.1, hx.2.1, by rw [Nat.add_assoc]⟩
  · obtain ⟨ad, cells, h1, h2, h3, h4, h5⟩ := hx
    refine OpWP.pure h (run hsz h5) ?_
    simp only [RepV]
    exact ⟨ad, cells, h1, h2, h3, h4, by simp only [Nat.add_assoc]⟩
  · obtain ⟨ad, c, h1, h2, h3, h4⟩ := hx
    refine OpWP.pure h (run hsz h4) ?_
    simp only [RepV]
    exact ⟨ad, c, h1, h2, h3, by simp only [Nat.add_assoc]⟩
theorem part_ok {D : Nat → Prop} {A : Nat → Prop} {P : Program} {t : TypeId} {ti : TI} (ht : TIOK P G.ty t ti) {off : Nat} {cs : List AV} {vs : List Value} {v : AV}
    (hp : pickCells ti.td.isAgg ti.size off cs = some v) (hc : RepL D E A w cs vs) : ∃ x, (part t vs.toArray off).run P w = .ok x w ∧ RepV D E A w v x := by
  unfold pickCells at hp
  simp only [part, Sem.run_bind, isAgg_ok ht, Result.andThen_ok]
  cases hagg : ti.td.isAgg with
  | true =>
    rw [hagg] at hp
    simp only at hp
    split at hp
    · rename_i hle
      cases hp
      have hle := Nat.le_of_ble_eq_true hle
      have hl := repL_length hc
      refine ⟨.agg ((vs.drop off).take ti.size).toArray, ?_, ?_⟩
      · simp [sizeOf_ok ht]
      · simp only [RepV]
        exact ⟨_, rfl, (repL_take ti.size (repL_take off hc).2).1⟩
    · cases hp
  | false =>
    rw [hagg] at hp
    simp only at hp
    obtain ⟨x, hx, hr⟩ := repL_get hc hp
    exact ⟨x, by simp [hx], hr⟩
theorem field_ok {t : TypeId} {ti : TI} {x : Operand} {f : Nat} {e : Eff} (hty : TyOK C.P G) (h : RepE C S E a w) (ht : TIOK C.P G.ty t ti) {o : Oper} (ho : o.op = .field t x f)
    (he : (evField G ti f (S.ev x)).sat (· = e)) : OpWP C S a w o e := by
  have hx := h.ev x
  unfold evField at he
  split at he
  · rename_i cs heq
    rw [heq] at hx
    simp only [RepV] at hx
    obtain ⟨vs, hx, hx2⟩ := hx
    split at he
    · cases he
    · rename_i p hp
      obtain ⟨fs, fld, hd, hfs, hoff, hfty⟩ := st_field ht hp
      split at he
      · cases he
      · rename_i tf hg
        split at he
        · rename_i v hv
          cases he
          obtain ⟨y, hy, hy2⟩ := part_ok (hty _ _ hg) hv hx2
          refine OpWP.pure h (x := y) ?_ hy2
          simp [execOp, ho, Instr.field, run_underlying hd, hfs, hx, asAgg, hfty, hoff, hy]
        · cases he
  · cases he
theorem pickOne_sat {i : Int} {e : Eff} : ∀ {cs : List AV} {j : Nat}, (pickOne i j cs).sat (· = e) → ∃ k v, i = ((j + k : Nat) : Int) ∧ cs[k]? = some v ∧ e = .pure v
  | [], _, h => h.elim
  | v :: r, j, h => by
    unfold pickOne at h
    rcases h with ⟨h1, h2⟩ | ⟨h1, h2⟩
    · exact ⟨0, v, by simpa using h1, rfl, h2.symm⟩
    · obtain ⟨k, v', h3, h4, h5⟩ := pickOne_sat h2
      exact ⟨k + 1, v', by rw [h3]; congr 1; omega, by simpa using h4, h5⟩
theorem index_ok {t : TypeId} {ti : TI} {x y : Operand} {e : Eff} (hty : TyOK C.P G) (h : RepE C S E a w) (ht : TIOK C.P G.ty t ti) {o : Oper} (ho : o.op = .index t x y)
    (he : (evIndex G ti (S.ev x) (S.ev y)).sat (· = e)) : OpWP C S a w o e := by
  have hx := h.ev x
  have hy := h.ev y
  obtain ⟨d, hd, htd⟩ := ht.desc
  unfold evIndex at he
  split at he
  · rename_i cs k i hex hey
    rw [hex] at hx
    rw [hey] at hy
    simp only [RepV] at hx hy
    obtain ⟨vs, hx, hx2⟩ := hx
    split at he
    · rename_i n el htt
      split at he
      · rename_i te hn hg
        split at he
        · rename_i hsz hag
          have hn := Nat.eq_of_beq_eq_true hn
          have hsz := Nat.eq_of_beq_eq_true hsz
          obtain ⟨j, v, h1, h2, h3⟩ := pickOne_sat he
          subst h3
          rw [htt] at htd
          cases d <;> simp [tdOf] at htd
          obtain ⟨rfl, rfl⟩ := htd
          have hj : j < cs.length := (List.getElem?_eq_some_iff.1 h2).1
          obtain ⟨z, hz, hz2⟩ := part_ok (hty _ _ hg) (off := j * te.size) (v := v) (by rw [hag, hsz]; simpa [pickCells] using h2) hx2
          refine OpWP.pure h (x := z) ?_ hz2
          have hi : (0 : Int) ≤ i ∧ i < (cs.length : Int) := by omega
          have hi2 : i.toNat = j := by omega
          simp [execOp, ho, Instr.index, hx, hy, asIntOf, run_underlying hd, hn, hi, hi2, sizeOf_ok (hty _ _ hg), hz]
        · cases he
      · cases he
    · cases he
  · cases he
theorem extract_ok {x : Operand} {i : Nat} {e : Eff} (h : RepE C S E a w) {o : Oper} (ho : o.op = .extract x i) (nid : Nat) (he : (evOp G S nid (.extract x i)).sat (· = e)) : OpWP C S a w o e := by
  have hx := h.ev x
  simp only [evOp] at he
  split at he
  · rename_i vs heq
    rw [heq] at hx
    simp only [RepV] at hx
    obtain ⟨l, hx, hx2⟩ := hx
    split at he
    · rename_i v hv
      cases he
      obtain ⟨y, hy, hy2⟩ := repL_get hx2 hv
      refine OpWP.pure h (x := y) ?_ hy2
      simp [execOp, ho, Instr.extract, hx, hy]
    · cases he
  · cases he
theorem elem_size {t : TypeId} {ti : TI} (hty : TyOK C.P G) (ht : TIOK C.P G.ty t ti) {n : Nat} (he : elemOK G ti n = true) :
    (∃ el, C.P.underlying t = some (.slice el) ∧ ti.td = .sl el ∧ ∀ w, (sizeOf el).run C.P w = .ok n w) ∨ (∃ k el, C.P.underlying t = some (.array k el) ∧ ti.td = .arr k el ∧ ∀ w, (sizeOf el).run C.P w = .ok n w) := by
  obtain ⟨d, hd, htd⟩ := ht.desc
  unfold elemOK at he
  split at he
  · rename_i el htt
    rw [htt] at htd
    cases d <;> simp [tdOf] at htd
    subst htd
    split at he
    · rename_i te hg
      have := Nat.eq_of_beq_eq_true he
      subst this
      exact .inl ⟨_, hd, htt, fun w => sizeOf_ok (hty _ _ hg) w⟩
    · cases he
  · rename_i k el htt
    rw [htt] at htd
    cases d <;> simp [tdOf] at htd
    obtain ⟨rfl, rfl⟩ := htd
    split at he
    · rename_i te hg
      have := Nat.eq_of_beq_eq_true he
      subst this
      exact .inr ⟨_, _, hd, htt, fun w => sizeOf_ok (hty _ _ hg) w⟩
    · cases he
  · cases he
theorem elem_slice {t : TypeId} {ti : TI} (hty : TyOK C.P G) (ht : TIOK C.P G.ty t ti) {n : Nat} (hs : isSl ti.td = true) (he : elemOK G ti n = true) :
    ∃ el, C.P.underlying t = some (.slice el) ∧ ∀ w, (sizeOf el).run C.P w = .ok n w := by
  rcases elem_size hty ht he with ⟨el, h1, _, h2⟩ | ⟨k, el, _, h1, _⟩
  · exact ⟨el, h1, h2⟩
  · rw [h1] at hs; cases hs
theorem sl_nonempty {A : Nat → Prop} {e : Sh} {xs : List e.T} {v : Value} (h : PC A w (.sl e) xs [v]) {i : Int} (h0 : 0 ≤ i) (h1 : i < (xs.length : Int)) :
    ∃ a cap cells, v = .slice (some a) xs.length cap ∧ a.spot = none ∧ A a.block ∧ RowsL (fun x c => PC A w e x c) xs cells ∧ At w a cells := by
  obtain ⟨ad, cap, e1, _, h2⟩ := h
  obtain ⟨a, e2, h3, h4, cells, h5, h6⟩ := h2 (by intro q; rw [q] at h1; simp at h1; omega)
  subst e2
  exact ⟨a, cap, cells, by simpa using e1, h3, h4, h5, h6⟩
theorem indexAddr_ok {t : TypeId} {ti : TI} {x y : Operand} {e : Eff} (hgl : G.gl = C.gl) (hty : TyOK C.P G) (h : RepE C S E a w) (ht : TIOK C.P G.ty t ti) {o : Oper} (ho : o.op = .indexAddr t x y)
    (he : (evIndexAddr G S ti (S.ev x) (S.ev y)).sat (· = e)) : OpWP C S a w o e := by
  have hx := h.ev x
  have hy := h.ev y
  have run : ∀ {k : IntKind} {i : Int} {n : Nat} {b off : Nat} {len cap : Nat}, isSl ti.td = true → elemOK G ti n = true → a.eval y = .int k i → a.eval x = .slice (some ⟨b, off, none⟩) len cap → 0 ≤ i → i < (len : Int) →
      (execOp a.eval o).run C.P w = .ok (.value (.pointer (some ⟨b, off + i.toNat * n, none⟩))) w := by
    intro k i n b off len cap hs hel hyv hxv h0 h1
    obtain ⟨el, hd, hsz⟩ := elem_slice hty ht hs hel
    simp [execOp, ho, Instr.indexAt, hxv, hyv, asIntOf, run_underlying hd, h0, h1, hsz, Addr.add_lit]
  unfold evIndexAddr at he
  split at he
  · rename_i e1 xs k i hex hey
    rw [hex] at hx
    rw [hey] at hy
    simp only [RepV] at hx hy
    split at he
    · rename_i hs hel
      obtain ⟨h0, h1, he⟩ := he
      cases he
      have h0 : 0 ≤ i := by simpa using h0
      have h1 : i < (xs.length : Int) := by simpa using h1
      obtain ⟨ad, cap, cells, hv, h3, h4, h5, h6⟩ := sl_nonempty hx h0 h1
      obtain ⟨b, off, spot⟩ := ad
      simp only at h3
      subst h3
      refine OpWP.pure h (run hs hel hy hv h0 h1) ?_
      simp only [RepV]
      exact ⟨⟨b, off, none⟩, cells, h4, h5, h6, by omega, rfl⟩
    · cases he
  · rename_i id k i hex hey
    rw [hex] at hx
    rw [hey] at hy
    simp only [RepV] at hx hy
    split at he
    · rename_i en e1 et xs hob
      split at he
      · rename_i hs hel
        obtain ⟨h0, h1, he⟩ := he
        cases he
        have h0 : 0 ≤ i := by simpa using h0
        have h1 : i < (xs.length : Int) := by simpa using h1
        obtain ⟨q1, q2⟩ := h.h.objs id _ hob
        rcases q2 with ⟨_, q3⟩ | ⟨cap, cur, cells, q3, _⟩
        · rw [q3] at h1; simp at h1; omega
        · refine OpWP.pure h (run hs hel hy (by rw [hx.2]; exact q3) h0 h1) ?_
          simp only [RepV]
          exact ⟨hx.1, by omega, by simp⟩
      · cases he
    · rename_i e1 xs hob
      split at he
      · rename_i hs hel
        obtain ⟨h0, h1, he⟩ := he
        cases he
        have h0 : 0 ≤ i := by simpa using h0
        have h1 : i < (xs.length : Int) := by simpa using h1
        obtain ⟨q1, q2, q3⟩ := h.h.objs id _ hob
        obtain ⟨cap, q3⟩ := q3 (by intro q; rw [q] at h1; simp at h1; omega)
        refine OpWP.pure h (run hs hel hy (by rw [hx.2]; exact q3) h0 h1) ?_
        simp only [RepV]
        exact ⟨hx.1, by omega, by simp⟩
      · cases he
    · cases he
  · rename_i id k i hex hey
    rw [hex] at hx
    rw [hey] at hy
    simp only [RepV] at hx hy
    split at he
    · rename_i e1 xs n el hob htt
      split at he
      · rename_i hn hel
        obtain ⟨h0, h1, h2, he⟩ := he
        cases he
        have h0 : 0 ≤ i := by simpa using h0
        have h1 : i < (n : Int) := by simpa using h1
        have h2 := Nat.le_of_ble_eq_true h2
        have hn : 1 < n := Nat.le_of_ble_eq_true hn
        obtain ⟨q1, _⟩ := h.h.objs id _ hob
        rcases elem_size hty ht hel with ⟨_, _, q, _⟩ | ⟨n', el', hd, q, hsz⟩
        · rw [q] at htt; cases htt
        · rw [q] at htt
          cases htt
          refine OpWP.pure h (x := .pointer (some ⟨E.β id, i.toNat * e1.size, none⟩)) ?_ ?_
          · simp [execOp, ho, Instr.indexAt, hx.2, hy, asIntOf, run_underlying hd, h0, h1, hsz, Addr.add_lit, Instr.sureAddr]
          · simp only [RepV]
            exact ⟨hx.1, by omega, by simp⟩
      · cases he
    · cases he
  · rename_i g k i hex hey
    rw [hex] at hx
    rw [hey] at hy
    simp only [RepV] at hx hy
    split at he
    · rename_i e1 xs n el hg htt
      split at he
      · rename_i hn hel
        obtain ⟨hl, h0, h1, he⟩ := he
        cases he
        have h0 : 0 ≤ i := by simpa using h0
        have h1 : i < (n : Int) := by simpa using h1
        have hn : 1 < n := Nat.le_of_ble_eq_true hn
        have hl := Nat.eq_of_beq_eq_true hl
        rw [hgl] at hg
        obtain ⟨g1, cells, g2, g3⟩ := h.h.gl g e1 xs hg
        rcases elem_size hty ht hel with ⟨_, _, q, _⟩ | ⟨n', el', hd, q, hsz⟩
        · rw [q] at htt; cases htt
        · rw [q] at htt
          cases htt
          refine OpWP.pure h (x := .pointer (some ⟨g, i.toNat * e1.size, none⟩)) ?_ ?_
          · simp [execOp, ho, Instr.indexAt, hx, hy, asIntOf, run_underlying hd, h0, h1, hsz, Addr.add_lit, Instr.sureAddr]
          · have hlt := (h.h.a0 g g1)
            have keep := h.h.keep g hlt.1 hlt.2
            have up : ∀ o v, C.w0.cell? ⟨g, o, none⟩ = some v → w.cell? ⟨g, o, none⟩ = some v := fun o v => cell_of_heap keep o v
            have upA : ∀ b, C.A0 b → ∀ o v, C.w0.cell? ⟨b, o, none⟩ = some v → w.cell? ⟨b, o, none⟩ = some v := fun b hb o v => cell_of_heap (h.h.keep b (h.h.a0 b hb).1 (h.h.a0 b hb).2) o v
            simp only [RepV]
            exact ⟨⟨g, 0, none⟩, cells, .inl g1, g2.imp (fun _ _ q => q.mono (fun b hb => .inl hb) upA), g3.mono up, by omega, by simp⟩
      · cases he
    · cases he
  · cases he
theorem RowsL.drop {T : Type} {R : T → List Value → Prop} {n : Nat} (hn : ∀ x c, R x c → c.length = n) : ∀ {xs : List T} {cs : List Value} (l : Nat), RowsL R xs cs → RowsL R (xs.drop l) (cs.drop (l * n))
  | [], _, l, h => by cases h; simp [RowsL]
  | x :: xs, _, 0, h => by simpa using h
  | x :: xs, cs, l + 1, ⟨c, r, e, h1, h2⟩ => by
    have := RowsL.drop hn l h2
    have e2 : cs.drop ((l + 1) * n) = r.drop (l * n) := by
      rw [e, Nat.succ_mul, Nat.add_comm (l * n) n, ← List.drop_drop, List.drop_append, hn _ _ h1]
      simp [List.drop_eq_nil_of_le (Nat.le_of_eq (hn _ _ h1))]
    rw [e2]
    simpa using this
theorem RowsL.take {T : Type} {R : T → List Value → Prop} {n : Nat} (hn : ∀ x c, R x c → c.length = n) : ∀ {xs : List T} {cs : List Value} (l : Nat), RowsL R xs cs → RowsL R (xs.take l) (cs.take (l * n))
  | [], _, l, h => by cases h; simp [RowsL]
  | x :: xs, _, 0, h => by simp [RowsL]
  | x :: xs, cs, l + 1, ⟨c, r, e, h1, h2⟩ => by
    have := RowsL.take hn l h2
    refine ⟨c, r.take (l * n), ?_, h1, this⟩
    rw [e, Nat.succ_mul, List.take_append, hn _ _ h1]
    rw [List.take_of_length_le (by rw [hn _ _ h1]; omega)]
    congr 2
    omega
theorem slice_ok {t : TypeId} {ti : TI} {x : Operand} {lo hi : Option Operand} {e : Eff} (hty : TyOK C.P G) (h : RepE C S E a w) (ht : TIOK C.P G.ty t ti) {o : Oper} (ho : o.op = .slice t x lo hi none)
    (he : (evSlice G S ti (S.ev x) (lo.map S.ev) (hi.map S.ev)).sat (· = e)) : OpWP C S a w o e := by
  have hx := h.ev x
  unfold evSlice at he
  split at he
  · cases he
  rename_i tb rd hsrc
  have hsl : PC (Al C S E w) w (.sl tb.e) tb.xs [a.eval x] := by
    unfold sliceSrc at hsrc
    split at hsrc
    · rename_i heq
      cases hsrc
      rw [heq] at hx
      simpa only [RepV] using hx
    · rename_i id heq
      split at hsrc
      · rename_i e1 xs hob
        cases hsrc
        rw [heq] at hx
        simp only [RepV] at hx
        rw [hx.2]
        exact (h.h.objs id _ hob).2.1
      · cases hsrc
    · cases hsrc
  split at he
  case h_2 => cases he
  rename_i hs hel
  obtain ⟨el, hd, hsz⟩ := elem_slice hty ht hs hel
  obtain ⟨ad, cap, hv, hcap, hrow⟩ := hsl
  have hv : a.eval x = .slice ad tb.xs.length cap := by simpa using hv
  -- the cut, in general
  have key : ∀ (l hh : Nat), l ≤ hh → hh ≤ tb.xs.length → PC (Al C S E w) w (.sl tb.e) ((tb.xs.take hh).drop l) [.slice (if cap = l then ad else ad.map (·.add (l * tb.e.size))) (hh - l) (cap - l)] := by
    intro l hh h1 h2
    refine ⟨if cap = l then ad else ad.map (·.add (l * tb.e.size)), cap - l, ?_, ?_, ?_⟩
    · rw [show List.length ((tb.xs.take hh).drop l) = hh - l by simp; omega]
    · rw [show List.length ((tb.xs.take hh).drop l) = hh - l by simp; omega]; omega
    · intro hne
      have hlt : l < hh := by
        apply Nat.lt_of_not_le
        intro q
        exact hne (List.drop_eq_nil_of_le (by simp; omega))
      obtain ⟨a1, e1, h3, h4, cells, h5, h6⟩ := hrow (by intro q; rw [q] at h2; simp at h2; omega)
      subst e1
      obtain ⟨b, off, spot⟩ := a1
      simp only at h3
      subst h3
      rw [if_neg (by omega)]
      refine ⟨⟨b, off + l * tb.e.size, none⟩, by simp [Addr.add_lit], rfl, h4, _, RowsL.drop (fun x c (h : PC (Al C S E w) w tb.e x c) => h.length) l (RowsL.take (fun x c h => h.length) hh h5), ?_⟩
      intro j v hj
      rw [List.getElem?_drop, List.getElem?_take] at hj
      split at hj
      · simp only [Nat.add_assoc]
        exact h6 _ _ hj
      · cases hj
  have fin : ∀ (l hh : Nat), l ≤ hh → hh ≤ tb.xs.length → (Instr.sliceBounds true tb.xs.length cap (lo.map a.eval) (hi.map a.eval) none).run C.P w = .ok (l, hh, cap) w → ∀ {v : AV}, RepV (Dom S) E (Al C S E w) w v (.slice (if cap = l then ad else ad.map (·.add (l * tb.e.size))) (hh - l) (cap - l)) → OpWP C S a w o ⟨v, [], rd, []⟩ := by
    intro l hh h1 h2 hb v hr
    refine OpWP.pure h (x := .slice (if cap = l then ad else ad.map (·.add (l * tb.e.size))) (hh - l) (cap - l)) ?_ hr
    simp [execOp, ho, Instr.sliceAt, run_underlying hd, Instr.slice, hv, hb, hsz]
  split at he
  · rename_i hlo hhi
    cases he
    have hlo : lo = none := by simpa using hlo
    have hhi : hi = none := by simpa using hhi
    subst hlo hhi
    refine fin 0 tb.xs.length (Nat.zero_le _) (Nat.le_refl _) (by simp [Instr.sliceBounds]) ?_
    simp only [RepV]
    have := key 0 tb.xs.length (Nat.zero_le _) (Nat.le_refl _)
    simpa using this
  · rename_i k l hlo hhi
    obtain ⟨h0, h1, he⟩ := he
    cases he
    have h0 : 0 ≤ l := by simpa using h0
    have h1 : l ≤ (tb.xs.length : Int) := by simpa using h1
    have hhi : hi = none := by simpa using hhi
    subst hhi
    cases lo with
    | none => cases hlo
    | some lx =>
      have hlo : S.ev lx = .int k l := by simpa using hlo
      have hl := h.ev lx
      rw [hlo] at hl
      simp only [RepV] at hl
      refine fin l.toNat tb.xs.length (by omega) (Nat.le_refl _) (by simp [Instr.sliceBounds, Instr.sliceBound, hl, asIntOf, h0, h1]) ?_
      simp only [RepV]
      have := key l.toNat tb.xs.length (by omega) (Nat.le_refl _)
      simpa using this
  · rename_i k hh hlo hhi
    obtain ⟨h0, h1, he⟩ := he
    cases he
    have h0 : 0 ≤ hh := by simpa using h0
    have h1 : hh ≤ (tb.xs.length : Int) := by simpa using h1
    have hlo : lo = none := by simpa using hlo
    subst hlo
    cases hi with
    | none => cases hhi
    | some hx' =>
      have hhi : S.ev hx' = .int k hh := by simpa using hhi
      have hl := h.ev hx'
      rw [hhi] at hl
      simp only [RepV] at hl
      refine fin 0 hh.toNat (Nat.zero_le _) (by omega) (by simp [Instr.sliceBounds, Instr.sliceBound, hl, asIntOf, h0, show hh ≤ (cap : Int) by omega]) ?_
      simp only [RepV]
      have := key 0 hh.toNat (Nat.zero_le _) (by omega)
      simpa using this
  · rename_i k l k' hh hlo hhi
    obtain ⟨h2, h3, h0, h1, he⟩ := he
    cases he
    have h0 : 0 ≤ l := by simpa using h0
    have h1 : l ≤ hh := by simpa using h1
    have h2 : 0 ≤ hh := by simpa using h2
    have h3 : hh ≤ (tb.xs.length : Int) := by simpa using h3
    cases lo with
    | none => cases hlo
    | some lx =>
      cases hi with
      | none => cases hhi
      | some hx' =>
        have hlo : S.ev lx = .int k l := by simpa using hlo
        have hhi : S.ev hx' = .int k' hh := by simpa using hhi
        have hl := h.ev lx
        have hl' := h.ev hx'
        rw [hlo] at hl
        rw [hhi] at hl'
        simp only [RepV] at hl hl'
        refine fin l.toNat hh.toNat (by omega) (by omega) (by simp [Instr.sliceBounds, Instr.sliceBound, hl, hl', asIntOf, h0, h2, show hh ≤ (cap : Int) by omega, show l ≤ max hh 0 by omega]) ?_
        simp only [RepV]
        exact key l.toNat hh.toNat (by omega) (by omega)
  · cases he
end
end Go.Rx

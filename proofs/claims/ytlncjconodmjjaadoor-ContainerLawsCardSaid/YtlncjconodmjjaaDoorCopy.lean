/- Rx, part 27: copy. -/
import Derived.Test.YtlncjconodmjjaaDoorOps7
import Derived.Laws.CopyRow
import Derived.Laws.IdiomCopy
namespace Go.Rx
set_option linter.unusedVariables false
set_option linter.unusedSimpArgs false
section
variable {C : Ctx} {S : AS} {E : Env} {a : Act} {w : World} {G : Gl}
theorem storeArr_ok {n : Nat} {ti : TI} {t : TypeId} {x y : Operand} {e : Eff} (hm : G.m = C.m) (h : RepE C S E a w) (ht : TIOK C.P G.ty t ti) {o : Oper} (ho : o.op = .store t x y)
    (he : (evStoreArr G.m S n ti (S.ev x) (S.ev y)).sat (· = e)) : OpWP C S a w o e := by
  have hx := h.ev x
  have hy := h.ev y
  unfold evStoreArr at he
  split at he
  case h_2 => cases he
  rename_i id heq
  rw [heq] at hx
  simp only [RepV] at hx
  split at he
  case h_2 => cases he
  rename_i e1 xs hob
  split at he
  case h_2 => cases he
  rename_i d hsz hcb hd
  split at he
  case h_2 => cases he
  rename_i hvis
  obtain ⟨h3, he⟩ := he
  cases he
  have h3 := Nat.eq_of_beq_eq_true h3
  have hsz := Nat.eq_of_beq_eq_true hsz
  have hcs := cellsAV_ok hy hcb
  have hlen : (a.eval y).cells.size = ti.size := by rw [← hsz, ← repL_length hcs]; simp
  have hone := cells_one hcs hcb
  obtain ⟨q1, cells, et, q2, q3⟩ := h.h.objs id _ hob
  obtain ⟨r1, r2, r3, r4⟩ := h.dataN hm hd hcs
  have l1 := q3.length (fun x c h => h.length)
  have l2 := r3.length (fun x c h => h.length)
  rw [r4, h3, ← l1] at l2
  have hyl : (a.eval y).cells.toList.length = ti.size := by simpa using hlen
  rw [hyl] at l2
  have hst := storeVar_ok ht (off := 0) (v := a.eval y) q2 hlen (by simp; omega) hone
  have hvis' : id ∉ d.vis := fun q => by rw [hasId_iff.2 q] at hvis; cases hvis
  have hob1 : (S.setObjs (frz S.obj d.vis)).obj id = some (.arr e1 xs) := by rw [obj_frz, if_neg hvis']; exact hob
  have hw := r1.write (o' := .arr e1 d.x) (w' := w.setRow (E.β id) _) hob1 trivial (fun q => q) (later_setRow _ _ _) (by simp) (fun k hk => setRow_other w _ _ _ hk) (by
    intro D' A' ext
    refine ⟨by rw [r4, h3]; exact q1, (a.eval y).cells.toList, et, ?_, r3.imp (fun _ _ => ext.pc)⟩
    have := setRow_heap w _ _ ((cells.toArray.toList.take 0 ++ (a.eval y).cells.toList ++ cells.toArray.toList.drop (0 + ti.size)).toArray) _ _ q2
    rw [this]
    congr 2
    simp [List.drop_eq_nil_of_le (Nat.le_of_eq l2.symm)])
  refine OpWP.unit (w' := _) (E' := E) ?_ hw.1 rfl
  simp [execOp, ho, Instr.storeAt, hx.2, Instr.sureAddr, hst]
theorem copy_ok {st : TypeId} {s x : Operand} {e : Eff} (hty : TyOK C.P G) (h : RepE C S E a w) {o : Oper} (ho : o.op = .call ⟨.builtin .copy, #[s, x], #[st, st]⟩)
    (he : (evCopy G S st (S.ev s) (S.ev x)).sat (· = e)) : OpWP C S a w o e := by
  have hs := h.ev s
  have hx := h.ev x
  unfold evCopy at he
  split at he
  case h_2 => cases he
  rename_i ts hts
  split at he
  case h_2 => cases he
  rename_i el htt
  split at he
  case h_2 => cases he
  rename_i te hg
  split at he
  case h_2 => cases he
  rename_i id hsv
  split at he
  case h_2 => cases he
  rename_i en e1 et xs hob
  split at he
  case h_2 => cases he
  rename_i d hd hb1 hb2
  split at he
  case h_2 => cases he
  rename_i hv
  obtain ⟨h3, he⟩ := he
  cases he
  have h3 : 0 < xs.length := by simpa using h3
  have hb1 := Nat.eq_of_beq_eq_true hb1
  have hb2 := Nat.eq_of_beq_eq_true hb2
  obtain ⟨i, z, hi, hz, hzs, his, hib, hok⟩ := zero_run (hty _ _ hg)
  obtain ⟨el', hu, htt'⟩ := isSl_under (hty _ _ hts) (by rw [htt]; rfl)
  rw [htt] at htt'
  cases htt'
  have hs1 : (C.P.info? el).map (·.size) = some 1 := by rw [hi]; simp [his, hb2]
  rw [hsv] at hs
  simp only [RepV] at hs
  obtain ⟨ad, cap', hxv, hxr⟩ := list_ok h hx hd
  have exec : ∀ {v : Value} {w' : World}, (Builtin.copy_ #[st, st] o.type #[a.eval s, a.eval x]).run C.P w = .ok v w' → (execOp a.eval o).run C.P w = .ok (.value v) w' := by
    intro v w' hr
    unfold execOp
    simp only [ho, resolve, invoke, builtin, Sem.run_bind, Sem.run_pure, Result.andThen_ok, List.map_toArray, List.map_cons, List.map_nil, hr]
  obtain ⟨q1, q2⟩ := h.h.objs id _ hob
  rcases q2 with ⟨_, q3⟩ | ⟨cap, cur, cells, q3, q4, q5, q6, q7, q8, q9⟩
  · rw [q3] at h3
    simp at h3
  have hcl := q8.length (fun x c h => h.length)
  rw [hb1, Nat.mul_one] at hcl q7 q9
  have hO : Owns E id (.grow en e1 et xs) := by simp only [Owns]; rw [q3]; simp
  by_cases hne : d.x = []
  · have hrun := run_copy_none (P := C.P) w st st o.type el (some ⟨E.β id, 0, none⟩) ad xs.length cap 0 cap' hu hs1 (by simp)
    have hxv0 : a.eval x = .slice ad 0 cap' := by rw [hxv, hne]; rfl
    rw [← hxv0, ← q3, ← hs.2] at hrun
    have hw := h.write (o' := .grow en e1 et (List.take xs.length d.x ++ List.drop (List.length d.x) xs)) (w' := w) hob hO (fun q => q) (Later.refl _) rfl (fun k _ => rfl) (by
      intro D' A' ext
      have : List.take xs.length d.x ++ List.drop (List.length d.x) xs = xs := by simp [hne]
      rw [this]
      exact ⟨q1, .inr ⟨cap, cur, cells, q3, q4, q5, q6, by rw [hb1, Nat.mul_one]; exact q7, q8.imp (fun x c q => ext.pc q), by rw [hb1, Nat.mul_one]; exact q9⟩⟩)
    refine OpWP.run (exec hrun) (E' := E) hw.1 ?_
    simp [RepV, hne, goInt]
  · obtain ⟨b, off, hadv, nws, r1, r2⟩ := hxr hne
    have hnl := r1.length (fun x c h => h.length)
    rw [hb1, Nat.mul_one] at hnl
    have hn : (nws.take xs.length).length = Nat.min (List.length d.x) xs.length := by
      rw [List.length_take, hnl]
      exact Nat.min_comm _ _
    have hrun := run_copy_row (P := C.P) w st st o.type el (E.β id) 0 xs.length cap ⟨b, off, none⟩ (List.length d.x) cap' cur et (nws.take xs.length) hu hs1 q4 hn
      (fun j v hj => by
        rw [List.getElem?_take] at hj
        split at hj
        · rw [Addr.add_lit]; exact r2 j v hj
        · cases hj)
      (by rw [hn]; have : Nat.min (List.length d.x) xs.length ≤ xs.length := Nat.min_le_right _ _; omega)
      (fun v hv => rows_one r1 v (List.mem_of_mem_take hv))
    rw [hadv] at hxv
    rw [← hxv, ← q3, ← hs.2] at hrun
    simp only [List.take_zero, List.nil_append, Nat.zero_add] at hrun
    have hsz : ((nws.take xs.length) ++ cur.toList.drop (nws.take xs.length).length).toArray.size = cur.size := by
      simp only [List.size_toArray, List.length_append, List.length_drop, Array.length_toList, List.length_take]
      omega
    have hw := h.write (o' := .grow en e1 et (List.take xs.length d.x ++ List.drop (List.length d.x) xs)) (w' := w.setRow (E.β id) ((nws.take xs.length) ++ cur.toList.drop (nws.take xs.length).length).toArray) hob hO (fun q => q) (later_setRow _ _ _) (by simp) (fun k hk => setRow_other w _ k _ hk) (by
      intro D' A' ext
      have hlen : (List.take xs.length d.x ++ List.drop (List.length d.x) xs).length = xs.length := by
        simp only [List.length_append, List.length_take, List.length_drop]
        omega
      refine ⟨by rw [hlen]; exact q1, .inr ⟨cap, _, nws.take xs.length ++ cells.drop (List.length d.x), by rw [hlen]; exact q3, setRow_heap w _ cur _ et _ q4, by rw [hlen]; exact q5, q6, by rw [hsz, hb1, Nat.mul_one]; exact q7, ?_, ?_⟩⟩
      · have t1 := RowsL.take (n := 1) (fun x c h => by rw [h.length, hb1]) xs.length r1
        have t2 := RowsL.drop (n := 1) (fun x c h => by rw [h.length, hb1]) (List.length d.x) q8
        rw [Nat.mul_one] at t1 t2
        exact (t1.append t2).imp (fun x c q => ext.pc q)
      · rw [hlen, hb1, Nat.mul_one]
        show List.take xs.length (nws.take xs.length ++ cur.toList.drop (nws.take xs.length).length) = _
        rw [List.take_append, List.take_take, Nat.min_self]
        congr 1
        rw [List.length_take, ← q9, hnl]
        by_cases c : List.length d.x ≤ xs.length
        · rw [show min xs.length (List.length d.x) = List.length d.x by omega, List.drop_take]
        · rw [show min xs.length (List.length d.x) = xs.length by omega, Nat.sub_self, List.take_zero, List.drop_eq_nil_of_le]
          simp
          omega)
    refine OpWP.run (exec hrun) (E' := E) hw.1 ?_
    simp only [RepV, goInt, List.length_take, hnl]
    congr 2
    omega
theorem slice2_ok {t : TypeId} {ti : TI} {x : Operand} {lo hi : Option Operand} {e : Eff} {nid : Nat} (hty : TyOK C.P G) (h : RepE C S E a w) (ht : TIOK C.P G.ty t ti) (hn : S.obj nid = none) {o : Oper} (ho : o.op = .slice t x lo hi none)
    (he : (evSlice2 G S nid ti (S.ev x) (lo.map S.ev) (hi.map S.ev)).sat (· = e)) : OpWP C S a w o e := by
  have hx := h.ev x
  unfold evSlice2 at he
  split at he
  case h_2 => exact slice_ok hty h ht ho he
  rename_i id hsv
  split at he
  case h_2 => exact slice_ok hty h ht ho he
  rename_i en e1 et xs hob
  unfold evSliceOwn at he
  split at he
  case h_2 => cases he
  rename_i hs hel
  obtain ⟨el, hd, hsz⟩ := elem_slice hty ht hs hel
  rw [hsv] at hx
  simp only [RepV] at hx
  obtain ⟨q1, q2⟩ := h.h.objs id _ hob
  split at he
  · rename_i k l hlo hhi
    obtain ⟨h0, h1, he⟩ := he
    cases he
    have h0 : 0 ≤ l := by simpa using h0
    have h1 : l ≤ (xs.length : Int) := by simpa using h1
    have hhi : hi = none := by simpa using hhi
    subst hhi
    cases lo with
    | none => cases hlo
    | some lx =>
      have hlo : S.ev lx = .int k l := by simpa using hlo
      have hl := h.ev lx
      rw [hlo] at hl
      simp only [RepV] at hl
      rcases q2 with ⟨q3, q4⟩ | ⟨cap, cur, cells, q3, q4, q5, q6, q7, q8, q9⟩
      · rw [q4] at h1 q1
        have hl0 : l = 0 := by simp at h1; omega
        subst hl0
        refine OpWP.pure h (x := .slice none 0 0) ?_ ?_
        · simp [execOp, ho, Instr.sliceAt, run_underlying hd, Instr.slice, hx.2, q3, Instr.sliceBounds, Instr.sliceBound, hl, asIntOf, hsz]
        · simp only [RepV]
          exact ⟨hx.1, none, 0, by rw [q1]; rfl, fun q => by rw [q1] at q; simp at q⟩
      · refine OpWP.pure h (x := .slice (if cap = l.toNat then some ⟨E.β id, 0, none⟩ else (some ⟨E.β id, 0, none⟩ : Option Addr).map (·.add (l.toNat * e1.size))) (xs.length - l.toNat) (cap - l.toNat)) ?_ ?_
        · have hb : l.toNat ≤ cap := by omega
          simp [execOp, ho, Instr.sliceAt, run_underlying hd, Instr.slice, hx.2, q3, Instr.sliceBounds, Instr.sliceBound, hl, asIntOf, hsz, h0, h1]
        · simp only [RepV]
          refine ⟨hx.1, _, _, by rw [q1], fun q => ?_⟩
          rw [q1] at q
          rw [if_neg (by omega)]
          simp [Addr.add_lit]
  · rename_i k hh hlo hhi
    obtain ⟨h0, h1, h2, he⟩ := he
    cases he
    have h0 : 0 ≤ hh := by simpa using h0
    have h1 : hh ≤ (xs.length : Int) := by simpa using h1
    have h2 : 0 < xs.length := by simpa using h2
    have hlo : lo = none := by simpa using hlo
    subst hlo
    cases hi with
    | none => cases hhi
    | some hx' =>
      have hhi : S.ev hx' = .int k hh := by simpa using hhi
      have hl := h.ev hx'
      rw [hhi] at hl
      simp only [RepV] at hl
      rcases q2 with ⟨_, q4⟩ | ⟨cap, cur, cells, q3, q4, q5, q6, q7, q8, q9⟩
      · rw [q4] at h2
        simp at h2
      · have hO : Owns E id (.grow en e1 et xs) := by simp only [Owns]; rw [q3]; simp
        have hcl := q8.length (fun x c h => h.length)
        have hlen : (xs.take hh.toNat).length = hh.toNat := by rw [List.length_take]; omega
        obtain ⟨E', r1, r2⟩ := h.pass hn hob hO (w' := w) (Later.refl _) rfl (fun _ _ => rfl) q4 (ys := xs.take hh.toNat) (cells := cells.take (hh.toNat * e1.size)) (RowsL.take (fun x c h => h.length) hh.toNat q8)
          (by rw [hlen, ← q9, List.take_take]; congr 1; have := Nat.mul_le_mul_right e1.size (show hh.toNat ≤ xs.length by omega); omega) (cap := cap) q7 (by rw [hlen]; omega) q6
        refine OpWP.run (w' := w) (x := .slice (some ⟨E.β id, 0, none⟩) hh.toNat cap) ?_ r1 ?_
        · have hcap : ¬ cap = 0 := by omega
          have hcap2 : ¬ (cap : Int) < hh := by omega
          simp [execOp, ho, Instr.sliceAt, run_underlying hd, Instr.slice, hx.2, q3, Instr.sliceBounds, Instr.sliceBound, hl, asIntOf, hsz, h0, h1, hcap, hcap2, Addr.add_lit]
        · simp only [RepV]
          exact ⟨dom_new _ _ _ _, by rw [r2, hlen]⟩
  · cases he
theorem clear_ok {st : TypeId} {x : Operand} {e : Eff} (hty : TyOK C.P G) (h : RepE C S E a w) {o : Oper} (ho : o.op = .call ⟨.builtin .clear, #[x], #[st]⟩)
    (he : (evClear G S st (S.ev x)).sat (· = e)) : OpWP C S a w o e := by
  have hx := h.ev x
  unfold evClear at he
  split at he
  case h_2 => cases he
  rename_i ts hts
  split at he
  case h_2 => cases he
  rename_i el htt
  split at he
  case h_2 => cases he
  rename_i te hg
  split at he
  case h_2 => cases he
  rename_i id sz lo hsv
  split at he
  case h_2 => cases he
  rename_i en e1 et xs hob
  split at he
  case h_2 => cases he
  rename_i hsh _ hb1 hb2
  obtain ⟨h3, he⟩ := he
  cases he
  have h3 : lo < xs.length := Nat.le_of_ble_eq_true h3
  simp only [Bool.and_eq_true] at hb2
  have hb1 := Nat.eq_of_beq_eq_true hb1
  have hb3 := Nat.eq_of_beq_eq_true hb2.1
  have hb4 := Nat.eq_of_beq_eq_true hb2.2.2
  obtain ⟨i, z, hi, hz, hzs, his, hib, hok⟩ := zero_run (hty _ _ hg)
  obtain ⟨el', hu, htt'⟩ := isSl_under (hty _ _ hts) (by rw [htt]; rfl)
  rw [htt] at htt'
  cases htt'
  have hzd := zero_data hok hb2.2.1
  rw [hsh] at hzd
  rw [hsv] at hx
  simp only [RepV] at hx
  obtain ⟨hD, ad, cp, hv, had⟩ := hx
  obtain ⟨q1, q2⟩ := h.h.objs id _ hob
  rw [q1] at hv had
  have exec : ∀ {v : Value} {w' : World}, (Builtin.clear_ #[st] o.type #[a.eval x]).run C.P w = .ok v w' → (execOp a.eval o).run C.P w = .ok (.value v) w' := by
    intro v w' hr
    unfold execOp
    simp only [ho, resolve, invoke, builtin, Sem.run_bind, Sem.run_pure, Result.andThen_ok, List.map_toArray, List.map_cons, List.map_nil, hr]
  have had := had h3
  subst had
  obtain ⟨v0, hv0⟩ : ∃ v0, z.cells = #[v0] := by
    have hz1 : z.cells.size = 1 := by rw [hzs, hb4]
    refine ⟨z.cells[0], ?_⟩
    apply Array.ext
    · simp [hz1]
    · intro k k1 k2
      have : k = 0 := by omega
      subst this
      rfl
  have hz0 : z.cells.toList = [v0] := by rw [hv0]
  rw [hz0] at hzd
  have hone : v0.oneCell' = true := cells_pc (hzd (fun _ => True) w) v0 (by simp)
  rcases q2 with ⟨_, q4⟩ | ⟨cap, cur, cells, q3, q4, q5, q6, q7, q8, q9⟩
  · rw [q4] at h3
    simp at h3
  have hcl := q8.length (fun x c h => h.length)
  rw [hb3, Nat.mul_one] at hcl q7 q9
  obtain ⟨n, hn⟩ : ∃ n, xs.length = lo + (n + 1) := ⟨xs.length - lo - 1, by omega⟩
  have hnn : xs.length - lo = n + 1 := by omega
  have hzc : (Builtin.zeroCells z.cells (n + 1)).toList = List.replicate (n + 1) v0 := by
    rw [hv0]
    simp [Builtin.zeroCells]
    apply List.ext_getElem
    · simp
    · intro i h1 h2
      simp [Nat.mod_one]
  have hvs : (List.replicate (n + 1) v0).length = n + 1 := List.length_replicate
  have hst := run_storeCells_at C.P (E.β id) (lo * sz) et (List.replicate (n + 1) v0) 0 cur w q4 (by rw [hvs, hb1, hb3]; omega) (fun v hv => by rw [List.eq_of_mem_replicate hv]; exact hone)
  rw [hb1, hb3, Nat.mul_one, Nat.add_zero, hvs] at hst
  have hrun : (Builtin.clear_ #[st] o.type #[a.eval x]).run C.P w = .ok (.tuple #[]) (w.setRow (E.β id) (cur.toList.take lo ++ List.replicate (n + 1) v0 ++ cur.toList.drop (lo + (n + 1))).toArray) := by
    rw [hv, hnn, hb1, hb3, Nat.mul_one]
    simp [Builtin.clear_, run_underlying hu, zeroValue, typeInfo, hi, hz, hzc, hst]
  have hO : Owns E id (.grow en e1 et xs) := by simp only [Owns]; rw [q3]; simp
  have hsz : (cur.toList.take lo ++ List.replicate (n + 1) v0 ++ cur.toList.drop (lo + (n + 1))).toArray.size = cur.size := by
    simp only [List.size_toArray, List.length_append, List.length_drop, Array.length_toList, List.length_take, List.length_replicate]
    omega
  have hw := h.write (o' := .grow en e1 et (xs.take lo ++ List.replicate (xs.length - lo) e1.dflt)) (w' := w.setRow (E.β id) (cur.toList.take lo ++ List.replicate (n + 1) v0 ++ cur.toList.drop (lo + (n + 1))).toArray) hob hO (fun q => q) (later_setRow _ _ _) (by simp) (fun k hk => setRow_other w _ k _ hk) (by
    intro D' A' ext
    have hlen : (xs.take lo ++ List.replicate (xs.length - lo) e1.dflt).length = xs.length := by
      simp only [List.length_append, List.length_take, List.length_replicate]
      omega
    refine ⟨by rw [hlen]; exact q1, .inr ⟨cap, _, cells.take lo ++ List.replicate (n + 1) v0, by rw [hlen]; exact q3, setRow_heap w _ cur _ et _ q4, by rw [hlen]; exact q5, q6, by rw [hsz, hb3, Nat.mul_one]; exact q7, ?_, ?_⟩⟩
    · have t1 := RowsL.take (n := 1) (fun x c h => by rw [h.length, hb3]) lo q8
      rw [Nat.mul_one] at t1
      have t2 : RowsL (fun x c => PC (Al C S E w) w e1 x c) (List.replicate (n + 1) e1.dflt) (List.replicate (n + 1) v0) := by
        have := rows_rep (hzd (Al C S E w) w) (n + 1)
        have e : ∀ k, repV [v0] k = List.replicate k v0 := by
          intro k
          induction k with
          | zero => rfl
          | succ k ih => simp only [repV, ih, List.replicate_succ]; rfl
        rw [e] at this
        exact this
      rw [hnn]
      exact (t1.append t2).imp (fun x c q => ext.pc q)
    · rw [hlen, hb3, Nat.mul_one]
      show List.take xs.length (cur.toList.take lo ++ List.replicate (n + 1) v0 ++ cur.toList.drop (lo + (n + 1))) = _
      have hl : (cur.toList.take lo ++ List.replicate (n + 1) v0).length = xs.length := by
        simp only [List.length_append, List.length_take, List.length_replicate, Array.length_toList]
        omega
      rw [← hl, List.take_left, ← q9, List.take_take, Nat.min_eq_left (by omega)])
  refine OpWP.run (exec hrun) (E' := E) hw.1 ?_
  simp only [RepV]
end
end Go.Rx

/- Rx, part 27: copy. -/
import Derived.Test.YtlniipeolfddoaaDoorOps7
import Derived.Laws.CopyRow
import Derived.Laws.IdiomCopy
namespace Go.Rx
set_option linter.unusedVariables false
set_option linter.unusedSimpArgs false
section
variable {C : Ctx} {S : AS} {E : Env} {a : Act} {w : World} {G : Gl}
theorem storeArr_ok {n : Nat} {ti : TI} {t : TypeId} {x y : Operand} {e : Eff} (hm : G.m = C.m) (h : RepE C S E a w) (ht : TIOK C.P G.ty t ti) {o : Oper} (ho : o.op = .store t x y)
    (he : (evStoreArr G.m S n ti (S.ev x) (S.ev y)).sat (· = e)) : OpWP C S a w o e := by
  have hx := h.ev x
  have hy := h.ev y
  unfold evStoreArr at he
  split at he
  case h_2 => cases he
  rename_i id heq
  rw [heq] at hx
  simp only [RepV] at hx
  split at he
  case h_2 => cases he
  rename_i e1 xs hob
  split at he
  case h_2 => cases he
  rename_i d hsz hcb hd
  split at he
  case h_2 => cases he
  rename_i hvis
  obtain ⟨h3, he⟩ := he
  cases he
  have h3 := Nat.eq_of_beq_eq_true h3
  have hsz := Nat.eq_of_beq_eq_true hsz
  have hcs := cellsAV_ok hy hcb
  have hlen : (a.eval y).cells.size = ti.size := by rw [← hsz, ← repL_length hcs]; simp
  have hone := cells_one hcs hcb
  obtain ⟨q1, cells, et, q2, q3⟩ := h.h.objs id _ hob
  obtain ⟨r1, r2, r3, r4⟩ := h.dataN hm hd hcs
  have l1 := q3.length (fun x c h => h.length)
  have l2 := r3.length (fun x c h => h.length)
  rw [r4, h3, ← l1] at l2
  have hyl : (a.eval y).cells.toList.length = ti.size := by simpa using hlen
  rw [hyl] at l2
  have hst := storeVar_ok ht (off := 0) (v := a.eval y) q2 hlen (by simp; omega) hone
  have hvis' : id ∉ d.vis := fun q => by rw [hasId_iff.2 q] at hvis; cases hvis
  have hob1 : (S.setObjs (frz S.obj d.vis)).obj id = some (.arr e1 xs) := by rw [obj_frz, if_neg hvis']; exact hob
  have hw := r1.write (o' := .arr e1 d.x) (w' := w.setRow (E.β id) _) hob1 trivial (fun q => q) (later_setRow _ _ _) (by simp) (fun k hk => setRow_other w _ _ _ hk) (by
    intro D' A' ext
    refine ⟨by rw [r4, h3]; exact q1, (a.eval y).cells.toList, et, ?_, r3.imp (fun _ _ => ext.pc)⟩
    have := setRow_heap w _ _ ((cells.toArray.toList.take 0 ++ (a.eval y).cells.toList ++ cells.toArray.toList.drop (0 + ti.size)).toArray) _ _ q2
    rw [this]
    congr 2
    simp [List.drop_eq_nil_of_le (Nat.le_of_eq l2.symm)])
  refine OpWP.unit (w' := _) (E' := E) ?_ hw.1 rfl
  simp [execOp, ho, Instr.storeAt, hx.2, Instr.sureAddr, hst]
theorem copy_ok {st : TypeId} {s x : Operand} {e : Eff} (hty : TyOK C.P G) (h : RepE C S E a w) {o : Oper} (ho : o.op = .call ⟨.builtin .copy, #[s, x], #[st, st]⟩)
    (he : (evCopy G S st (S.ev s) (S.ev x)).sat (· = e)) : OpWP C S a w o e := by
  have hs := h.ev s
  have hx := h.ev x
  unfold evCopy at he
  split at he
  case h_2 => cases he
  rename_i ts hts
  split at he
  case h_2 => cases he
  rename_i el htt
  split at he
  case h_2 => cases he
  rename_i te hg
  split at he
  case h_2 => cases he
  rename_i id hsv
  split at he
  case h_2 => cases he
  rename_i en e1 et xs hob
  split at he
  case h_2 => cases he
  rename_i d hd hb1 hb2
  split at he
  case h_2 => cases he
  rename_i hv
  obtain ⟨h3, he⟩ := he
  cases he
  have h3 : 0 < xs.length := by simpa using h3
  have hb1 := Nat.eq_of_beq_eq_true hb1
  have hb2 := Nat.eq_of_beq_eq_true hb2
  obtain ⟨i, z, hi, hz, hzs, his, hib, hok⟩ := zero_run (hty _ _ hg)
  obtain ⟨el', hu, htt'⟩ := isSl_under (hty _ _ hts) (by rw [htt]; rfl)
  rw [htt] at htt'
  cases htt'
  have hs1 : (C.P.info? el).map (·.size) = some 1 := by rw [hi]; simp [his, hb2]
  rw [hsv] at hs
  simp only [RepV] at hs
  obtain ⟨ad, cap', hxv, hxr⟩ := list_ok h hx hd
  have exec : ∀ {v : Value} {w' : World}, (Builtin.copy_ #[st, st] o.type #[a.eval s, a.eval x]).run C.P w = .ok v w' → (execOp a.eval o).run C.P w = .ok (.value v) w' := by
    intro v w' hr
    unfold execOp
    simp only [ho, resolve, invoke, builtin, Sem.run_bind, Sem.run_pure, Result.andThen_ok, List.map_toArray, List.map_cons, List.map_nil, hr]
  obtain ⟨q1, q2⟩ := h.h.objs id _ hob
  rcases q2 with ⟨_, q3⟩ | ⟨cap, cur, cells, q3, q4, q5, q6, q7, q8, q9⟩
  · rw [q3] at h3
    simp at h3
  have hcl := q8.length (fun x c h => h.length)
  rw [hb1, Nat.mul_one] at hcl q7 q9
  have hO : Owns E id (.grow en e1 et xs) := by simp only [Owns]; rw [q3]; simp
  by_cases hne : d.x = []
  · have hrun := run_copy_none (P := C.P) w st st o.type el (some ⟨E.β id, 0, none⟩) ad xs.length cap 0 cap' hu hs1 (by simp)
    have hxv0 : a.eval x = .slice ad 0 cap' := by rw [hxv, hne]; rfl
    rw [← hxv0, ← q3, ← hs.2] at hrun
    have hw := h.write (o' := .grow en e1 et (List.take xs.length d.x ++ List.drop (List.length d.x) xs)) (w' := w) hob hO (fun q => q) (Later.refl _) rfl (fun k _ => rfl) (by
      intro D' A' ext
      have : List.take xs.length d.x ++ List.drop (List.length d.x) xs = xs := by simp [hne]
      rw [this]
      exact ⟨q1, .inr ⟨cap, cur, cells, q3, q4, q5, q6, by rw [hb1, Nat.mul_one]; exact q7, q8.imp (fun x c q => ext.pc q), by rw [hb1, Nat.mul_one]; exact q9⟩⟩)
    refine OpWP.run (exec hrun) (E' := E) hw.1 ?_
    simp [RepV, hne, goInt]
  · obtain ⟨b, off, hadv, nws, r1, r2⟩ := hxr hne
    have hnl := r1.length (fun x c h => h.length)
    rw [hb1, Nat.mul_one] at hnl
    have hn : (nws.take xs.length).length = Nat.min (List.length d.x) xs.length := by
      rw [List.length_take, hnl]
      exact Nat.min_comm _ _
    have hrun := run_copy_row (P := C.P) w st st o.type el (E.β id) 0 xs.length cap ⟨b, off, none⟩ (List.length d.x) cap' cur et (nws.take xs.length) hu hs1 q4 hn
      (fun j v hj => by
        rw [List.getElem?_take] at hj
        split at hj
        · rw [Addr.add_lit]; exact r2 j v hj
        · cases hj)
      (by rw [hn]; have : Nat.min (List.length d.x) xs.length ≤ xs.length := Nat.min_le_right _ _; omega)
      (fun v hv => rows_one r1 v (List.mem_of_mem_take hv))
    rw [hadv] at hxv
    rw [← hxv, ← q3, ← hs.2] at hrun
    simp only [List.take_zero, List.nil_append, Nat.zero_add] at hrun
    have hsz : ((nws.take xs.length) ++ cur.toList.drop (nws.take xs.length).length).toArray.size = cur.size := by
      simp only [List.size_toArray, List.length_append, List.length_drop, Array.length_toList, List.length_take]
      omega
    have hw := h.write (o' := .grow en e1 et (List.take xs.length d.x ++ List.drop (List.length d.x) xs)) (w' := w.setRow (E.β id) ((nws.take xs.length) ++ cur.toList.drop (nws.take xs.length).length).toArray) hob hO (fun q => q) (later_setRow _ _ _) (by simp) (fun k hk => setRow_other w _ k _ hk) (by
      intro D' A' ext
      have hlen : (List.take xs.length d.x ++ List.drop (List.length d.x) xs).length = xs.length := by
        simp only [List.length_append, List.length_take, List.length_drop]
        omega
      refine ⟨by rw [hlen]; exact q1, .inr ⟨cap, _, nws.take xs.length ++ cells.drop (List.length d.x), by rw [hlen]; exact q3, setRow_heap w _ cur _ et _ q4, by rw [hlen]; exact q5, q6, by rw [hsz, hb1, Nat.mul_one]; exact q7, ?_, ?_⟩⟩
      · have t1 := RowsL.take (n := 1) (fun x c h => by rw [h.length, hb1]) xs.length r1
        have t2 := RowsL.drop (n := 1) (fun x c h => by rw [h.length, hb1]) (List.length d.x) q8
        rw [Nat.mul_one] at t1 t2
        exact (t1.append t2).imp (fun x c q => ext.pc q)
      · rw [hlen, hb1, Nat.mul_one]
        show List.take xs.length (nws.take xs.length ++ cur.toList.drop (nws.take xs.length).length) = _
        rw [List.take_append, List.take_take, Nat.min_self]
        congr 1
        rw [List.length_take, ← q9, hnl]
        by_cases c : List.length d.x ≤ xs.length
        · rw [show min xs.length (List.length d.x) = List.length d.x by omega, List.drop_take]
        · rw [show min xs.length (List.length d.x) = xs.length by omega, Nat.sub_self, List.take_zero, List.drop_eq_nil_of_le]
          simp
          omega)
    refine OpWP.run (exec hrun) (E' := E) hw.1 ?_
    simp only [RepV, goInt, List.length_take, hnl]
    congr 2
    omega
end
end Go.Rx

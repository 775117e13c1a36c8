/- Rx, part 12: append. -/
import Derived.Test.YtlncjconodmjjaaDoorOps6
namespace Go.Rx
set_option linter.unusedVariables false
set_option linter.unusedSimpArgs false
section
variable {C : Ctx} {S : AS} {E : Env} {a : Act} {w : World} {G : Gl}
theorem rows_one {A : Nat → Prop} {e : Sh} : ∀ {xs : List e.T} {cs : List Value}, RowsL (fun x c => PC A w e x c) xs cs → ∀ v ∈ cs, v.oneCell' = true
  | [], _, h => by cases h; simp
  | x :: xs, _, ⟨c, r, e1, h1, h2⟩ => by
    intro v hv
    rw [e1] at hv
    rcases List.mem_append.1 hv with hv | hv
    · exact cells_pc h1 v hv
    · exact rows_one h2 v hv
theorem list_ok (h : RepE C S E a w) {e : Sh} {v : AV} {x : Value} {d : DC (.sl e)} (hv : RepV (Dom S) E (Al C S E w) w v x) (hd : listAV S e v = some d) :
    ∃ ad cap, x = .slice ad (List.length d.x) cap ∧ (d.x ≠ [] → ∃ b off, ad = some ⟨b, off, none⟩ ∧ ∃ cells, RowsL (fun x c => PC (Al C S E w) w e x c) d.x cells ∧ At w ⟨b, off, none⟩ cells) := by
  have ofPC : ∀ {xs : List e.T}, PC (Al C S E w) w (.sl e) xs [x] → ∃ ad cap, x = .slice ad (List.length xs) cap ∧ (xs ≠ [] → ∃ b off, ad = some ⟨b, off, none⟩ ∧ ∃ cells, RowsL (fun x c => PC (Al C S E w) w e x c) xs cells ∧ At w ⟨b, off, none⟩ cells) := by
    intro xs hp
    obtain ⟨ad, cap, e1, _, h2⟩ := hp
    refine ⟨ad, cap, by simpa using e1, fun hne => ?_⟩
    obtain ⟨⟨b, off, sp⟩, e2, h3, h4, cells, h5, h6⟩ := h2 hne
    simp only at h3
    subst h3
    exact ⟨b, off, e2, cells, h5, h6⟩
  unfold listAV at hd
  split at hd
  · split at hd
    · rename_i q _
      subst q
      cases hd
      simp only [RepV] at hv
      exact ofPC hv
    · cases hd
  · cases hd
    simp only [RepV] at hv
    exact ⟨none, 0, by rw [hv]; rfl, fun q => absurd rfl q⟩
  · rename_i id
    simp only [RepV] at hv
    split at hd
    · rename_i en e' et xs hob
      split at hd
      · rename_i q _
        subst q
        cases hd
        obtain ⟨q1, q2⟩ := h.h.objs id _ hob
        rcases q2 with ⟨q2, q3⟩ | ⟨cap, cur, cells, q2, q3, q4, q5, q6, q7, q8⟩
        · subst q3
          exact ⟨none, 0, by rw [hv.2, q2]; rfl, fun q => absurd rfl q⟩
        · refine ⟨_, cap, by rw [hv.2, q2]; rfl, fun _ => ⟨_, _, rfl, cells, q7, fun j v hj => ?_⟩⟩
          rw [← q8, List.getElem?_take] at hj
          split at hj
          · simp only [World.cell?, q3, Nat.zero_add]; simpa using hj
          · cases hj
      · cases hd
    · rename_i e' xs hob
      split at hd
      · rename_i q _
        subst q
        cases hd
        rw [hv.2] at ofPC ⊢
        exact ofPC (h.h.objs id _ hob).2.1
      · cases hd
    · cases hd
  · cases hd
theorem append_ok {st : TypeId} {nid : Nat} {s x : Operand} {e : Eff} (hty : TyOK C.P G) (h : RepE C S E a w) (hn : S.obj nid = none) {o : Oper} (ho : o.op = .call ⟨.builtin .append, #[s, x], #[st, st]⟩)
    (he : (evAppend G S nid st (S.ev s) (S.ev x)).sat (· = e)) : OpWP C S a w o e := by
  have hs := h.ev s
  have hx := h.ev x
  unfold evAppend at he
  split at he
  case h_2 => cases he
  rename_i ts hts
  split at he
  case h_2 => cases he
  rename_i el htt
  split at he
  case h_2 => cases he
  rename_i te hg
  split at he
  case h_2 => cases he
  rename_i d d' hd hd' hsz
  split at he
  case h_2 => cases he
  rename_i hmeet hdat
  obtain ⟨h1, h2, he⟩ := he
  cases he
  have hsz := Nat.eq_of_beq_eq_true hsz
  simp only [Bool.and_eq_true] at hdat
  have hpos : 0 < te.size := Nat.le_of_ble_eq_true hdat.2
  have h1 : (d.x.length + List.length d'.x) * te.bytes ≤ 140737488355328 := by simpa using h1
  have h2 : d.x.length + List.length d'.x ≤ 140737488355328 := by simpa using h2
  obtain ⟨i, z, hi, hz, hzs, his, hib, hok⟩ := zero_run (hty _ _ hg)
  obtain ⟨el', hu, htt'⟩ := isSl_under (hty _ _ hts) (by rw [htt]; rfl)
  rw [htt] at htt'
  cases htt'
  obtain ⟨ad, cap', hxv, hxr⟩ := list_ok h hx hd'
  have exec : ∀ {v : Value} {w' : World}, (Builtin.append_ #[st, st] o.type #[a.eval s, a.eval x]).run C.P w = .ok v w' → (execOp a.eval o).run C.P w = .ok (.value v) w' := by
    intro v w' hr
    unfold execOp
    simp only [ho, resolve, invoke, builtin, Sem.run_bind, Sem.run_pure, Result.andThen_ok, List.map_toArray, List.map_cons, List.map_nil, hr]
  -- nothing is appended
  have none_run : d'.x = [] → ∀ {ad0 : Option Addr} {n c : Nat}, a.eval s = .slice ad0 n c → n ≤ c → (ad0 = none ∨ ∃ b, ad0 = some ⟨b, 0, none⟩ ∧ ∃ cur et, w.heap[b]? = some (.cells cur et (0, 0))) → (Builtin.append_ #[st, st] o.type #[a.eval s, a.eval x]).run C.P w = .ok (.slice ad0 n c) w := by
    intro hnil ad0 n c hsv hnc had
    rw [hnil] at hxv
    have hxv : a.eval x = .slice ad 0 cap' := hxv
    rw [hsv, hxv]
    cases ad <;> rcases had with rfl | ⟨b, rfl, cur, et, hcur⟩ <;>
      simp [Builtin.append_, run_underlying hu, sizeOf, typeInfo, hi, Builtin.lenOf, hnc, Builtin.firstCells, loadCells, loadCellsFrom, storeCells]
  -- what the new list is made of
  have news : d'.x ≠ [] → ∃ b off cells, a.eval x = .slice (some ⟨b, off, none⟩) (List.length d'.x) cap' ∧ RowsL (fun x c => PC (Al C S E w) w te.sh x c) d'.x cells ∧ cells.length = List.length d'.x * i.size ∧
      (∀ j u, cells[j]? = some u → w.cell? ((⟨b, off, none⟩ : Addr).add j) = some u) ∧ ∀ u ∈ cells, u.oneCell' = true := by
    intro hne
    obtain ⟨b, off, e1, cells, h5, h6⟩ := hxr hne
    refine ⟨b, off, cells, by rw [hxv, e1], h5, by rw [h5.length (fun x c h => h.length), hsz, his], fun j u hu => by rw [Addr.add_lit]; exact h6 j u hu, rows_one h5⟩
  -- a new row
  have fresh : ∀ {xs : List te.sh.T} {cells news : List Value} {c : Nat} {vis : List Nat} {S1 : AS} (hS1 : RepE C S1 E a w) (hext : Ext (Dom S) E (Al C S E w) w (Dom S1) E (Al C S1 E w) w) (hn1 : S1.obj nid = none),
      xs.length + List.length d'.x ≤ 140737488355328 → RowsL (fun x c => PC (Al C S E w) w te.sh x c) xs cells → cells.length = xs.length * i.size → RowsL (fun x c => PC (Al C S E w) w te.sh x c) d'.x news → news.length = List.length d'.x * i.size →
      ∃ E', RepE C (S1.setObjs [(nid, .grow d.en te.sh el (xs ++ d'.x))]) E' a (w.drew.alloc (.cells (cells.toArray ++ news.toArray ++ Builtin.zeroCells z.cells (grownCap w (xs.length + List.length d'.x) c el - (xs.length + List.length d'.x))) el)) ∧
        E'.σ nid = .slice (some ⟨w.heap.size, 0, none⟩) (xs.length + List.length d'.x) (grownCap w (xs.length + List.length d'.x) c el) := by
    intro xs cells news c vis S1 hS1 hext hn1 hle hr1 hl1 hr2 hl2
    have hge := grownCap_ge w (xs.length + List.length d'.x) c el
    have hcm := grownCap_le_maxLen w (xs.length + List.length d'.x) c el (by unfold maxLen; omega)
    have hd1 := hS1.drew
    have hrow := (hr1.append hr2).imp (R' := fun x c => PC (Al C S1 E w.drew) w.drew te.sh x c) (fun x c q => by
      have q1 : PC (Al C S E w) w te.sh x c := q
      have q2 : PC (Al C S1 E w) w te.sh x c := hext.pc q1
      exact PC.mono (A := Al C S1 E w) (A' := Al C S1 E w.drew) (w := w) (w' := w.drew) (fun b hb => hb) (fun b _ o v hv => hv) q2)
    have hlen : (xs ++ d'.x).length = xs.length + List.length d'.x := by simp
    obtain ⟨cap, hcap⟩ : ∃ k, k = grownCap w (xs.length + List.length d'.x) c el := ⟨_, rfl⟩
    rw [← hcap] at hge hcm ⊢
    obtain ⟨cur, hcur⟩ : ∃ k, k = cells.toArray ++ news.toArray ++ Builtin.zeroCells z.cells (cap - (xs.length + List.length d'.x)) := ⟨_, rfl⟩
    rw [← hcur]
    have hsz1 : cur.size = cap * te.sh.size := by
      rw [hcur]
      simp only [Array.size_append, List.size_toArray, size_zeroCells, hzs, hl1, hl2, his, hsz, ← Nat.add_mul]
      congr 1
      omega
    have htk : cur.toList.take ((xs ++ d'.x).length * te.sh.size) = cells ++ news := by
      have : (xs ++ d'.x).length * te.sh.size = (cells ++ news).length := by rw [hlen, List.length_append, hl1, hl2, his, hsz, Nat.add_mul]
      rw [this, hcur]
      simp only [Array.toList_append]
      exact List.take_left
    have q := hd1.alloc hn1 (.grow d.en te.sh el (xs ++ d'.x)) (.cells cur el) ⟨_, _, rfl⟩ (some ⟨w.heap.size, 0, none⟩, xs.length + List.length d'.x, cap) (xs ++ d'.x).length (by
      intro D' A' ext _
      refine ⟨by simp, .inr ⟨cap, cur, cells ++ news, by simp, ?_, by rw [hlen]; exact hge, hcm, hsz1, hrow.imp (fun _ _ => ext.pc), htk⟩⟩
      simp only [upd_β]
      exact heap_alloc_new w.drew _)
    exact ⟨_, q.1, by simp⟩
  unfold appDest at hd
  split at hd
  · -- the nil slice
    rename_i heq
    cases hd
    rw [heq] at hs
    simp only [RepV] at hs
    simp only [List.length_nil, Nat.zero_add] at h1 h2
    by_cases hne : d'.x = []
    · have hrun := none_run hne hs (Nat.le_refl _) (.inl rfl)
      obtain ⟨E', r1, r2⟩ := h.newNil hn (en := false) (e := te.sh) (et := el)
      refine OpWP.run (exec hrun) (E' := E') ?_ ?_
      · simp only [hne]; exact r1
      · simp only [RepV, hne]; exact ⟨dom_new _ _ _ _, by rw [r2]⟩
    · obtain ⟨b, off, nws, hxv', hr2, hl2, hcell, hone⟩ := news hne
      have hm : 0 < List.length d'.x := List.length_pos_iff.2 hne
      have hrun := run_append_nil (P := C.P) w st o.type el i z hu hi hz ⟨b, off, none⟩ (List.length d'.x) cap' nws hl2 hcell hm (by omega) (by rw [hib]; exact (by omega : List.length d'.x * te.bytes ≤ 281474976710656))
      rw [← hs, ← hxv'] at hrun
      obtain ⟨E', r1, r2⟩ := fresh (xs := []) (cells := []) (c := 0) (vis := []) h Ext.refl hn (by simpa using h2) rfl (by simp) hr2 hl2
      simp only [List.length_nil, Nat.zero_add, List.nil_append, Array.empty_append] at r1 r2
      refine OpWP.run (exec hrun) (E' := E') ?_ ?_
      · exact r1
      · simp only [RepV]; exact ⟨dom_new _ _ _ _, by rw [r2]⟩
  · rename_i id heq
    rw [heq] at hs
    simp only [RepV] at hs
    split at hd
    · rename_i en e' et xs hob
      split at hd
      · rename_i q _ hbe
        have hbe := Nat.eq_of_beq_eq_true hbe
        subst hbe
        subst q
        cases hd
        simp only [castL_rfl] at h1 h2 fresh ⊢
        have hdom : Dom S id := by unfold Dom; rw [hob]; simp
        obtain ⟨k1, k2⟩ := h.kill hdom
        have hin : nid ≠ id := fun q => by rw [q, hob] at hn; cases hn
        have hn1 : (S.setObjs [(id, .gone)]).obj nid = none := by rw [obj_cons, if_neg hin]; exact hn
        obtain ⟨q1, q2⟩ := h.h.objs id _ hob
        rcases q2 with ⟨q2, q3⟩ | ⟨cap, cur, cells, q2, q3, q4, q5, q6, q7, q8⟩
        · subst q3
          by_cases hne : d'.x = []
          · have hrun := none_run hne (by rw [hs.2]; exact q2) (Nat.le_refl _) (.inl rfl)
            obtain ⟨E', r1, r2⟩ := k1.newNil hn1 (en := en) (e := te.sh) (et := et)
            refine OpWP.run (exec hrun) (E' := E') ?_ ?_
            · simp only [hne]; exact r1
            · simp only [RepV, hne]; exact ⟨dom_new _ _ _ _, by rw [r2]⟩
          · obtain ⟨b, off, nws, hxv', hr2, hl2, hcell, hone⟩ := news hne
            have hm : 0 < List.length d'.x := List.length_pos_iff.2 hne
            have hrun := run_append_nil (P := C.P) w st o.type et i z hu hi hz ⟨b, off, none⟩ (List.length d'.x) cap' nws hl2 hcell hm (by omega) (by rw [hib]; exact (by simp only [List.length_nil, Nat.zero_add] at h1; omega : List.length d'.x * te.bytes ≤ 281474976710656))
            rw [← q2, ← hs.2, ← hxv'] at hrun
            obtain ⟨E', r1, r2⟩ := fresh (xs := []) (cells := []) (c := 0) (vis := []) k1 k2 hn1 (by simpa using h2) rfl (by simp) hr2 hl2
            simp only [List.length_nil, Nat.zero_add, List.nil_append, Array.empty_append] at r1 r2
            refine OpWP.run (exec hrun) (E' := E') ?_ ?_
            · exact r1
            · simp only [RepV]; exact ⟨dom_new _ _ _ _, by rw [r2]⟩
        · have hOw : Owns E id (.grow en te.sh et xs) := by simp only [Owns]; rw [q2]; simp
          have hcl := q7.length (fun x c h => h.length)
          by_cases hroom : xs.length + List.length d'.x ≤ cap
          · by_cases hne : d'.x = []
            · have hrun := none_run hne (by rw [hs.2]; exact q2) q4 (.inr ⟨_, rfl, cur, et, q3⟩)
              obtain ⟨E', r1, r2⟩ := h.pass hn hob hOw (Later.refl _) rfl (fun _ _ => rfl) q3 (ys := xs) q7 q8 q6 q4 q5
              refine OpWP.run (exec hrun) (E' := E') ?_ ?_
              · simp only [hne, List.append_nil]; exact r1
              · simp only [RepV, hne, List.append_nil]; exact ⟨dom_new _ _ _ _, by rw [r2]⟩
            · obtain ⟨b, off, nws, hxv', hr2, hl2, hcell, hone⟩ := news hne
              have hfit : xs.length * i.size + nws.length ≤ cur.size := by rw [hl2, q6, ← Nat.add_mul, his, hsz]; exact Nat.mul_le_mul_right _ hroom
              have hrun := run_append_room (P := C.P) w st o.type et i hu hi (E.β id) xs.length cap cur q3 ⟨b, off, none⟩ (List.length d'.x) cap' nws hl2 hcell hone hroom hfit
              rw [← q2, ← hs.2, ← hxv'] at hrun
              have hsz' : (cur.toList.take (xs.length * i.size) ++ nws ++ cur.toList.drop (xs.length * i.size + nws.length)).toArray.size = cur.size := by
                simp only [List.size_toArray, List.length_append, List.length_take, List.length_drop, Array.length_toList]
                omega
              obtain ⟨E', r1, r2⟩ := h.pass hn hob hOw (w' := w.setRow (E.β id) (cur.toList.take (xs.length * i.size) ++ nws ++ cur.toList.drop (xs.length * i.size + nws.length)).toArray) (later_setRow _ _ _) (by simp) (fun k hk => setRow_other w _ k _ hk)
                (setRow_heap w _ cur _ et _ q3) (ys := xs ++ d'.x) (cells := cells ++ nws) (q7.append hr2) (by
                  have hlen : (xs ++ d'.x).length * te.sh.size = (cells ++ nws).length := by rw [List.length_append, List.length_append, hcl, hl2, his, hsz, Nat.add_mul]
                  rw [hlen]
                  have q8' : cur.toList.take (xs.length * i.size) = cells := by rw [his, ← hsz]; exact q8
                  simp only [q8']
                  exact List.take_left) (cap := cap) (by rw [hsz', q6]) (by simp; omega) q5
              refine OpWP.run (exec hrun) (E' := E') ?_ ?_
              · exact r1
              · simp only [RepV]; exact ⟨dom_new _ _ _ _, by rw [r2]; simp⟩
          · have hne : d'.x ≠ [] := by
              intro q
              rw [q] at hroom
              simp at hroom
              omega
            obtain ⟨b, off, nws, hxv', hr2, hl2, hcell, hone⟩ := news hne
            have hold : ∀ j v, cells[j]? = some v → w.cell? ((⟨E.β id, 0, none⟩ : Addr).add j) = some v := by
              intro j v hj
              rw [Addr.add_lit, Nat.zero_add]
              rw [← q8, List.getElem?_take] at hj
              split at hj
              · simp only [World.cell?, q3]; simpa using hj
              · cases hj
            have hcl' : cells.length = xs.length * i.size := by rw [hcl, his, hsz]
            have hrun := run_append_grow (P := C.P) w st o.type et i z hu hi hz ⟨E.β id, 0, none⟩ xs.length cap cells hcl' hold ⟨b, off, none⟩ (List.length d'.x) cap' nws hl2 hcell (by omega) (by omega) (growslice_fits (by omega) (by rw [hib]; exact h1))
            rw [← q2, ← hs.2, ← hxv'] at hrun
            obtain ⟨E', r1, r2⟩ := fresh (xs := xs) (cells := cells) (c := cap) (vis := []) k1 k2 hn1 h2 q7 hcl' hr2 hl2
            refine OpWP.run (exec hrun) (E' := E') ?_ ?_
            · exact r1
            · simp only [RepV]; exact ⟨dom_new _ _ _ _, by rw [r2]⟩
      · cases hd
    · cases hd
  · cases hd
end
end Go.Rx

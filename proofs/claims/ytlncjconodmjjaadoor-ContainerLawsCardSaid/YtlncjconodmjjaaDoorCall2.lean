/- Rx, part 14: a call. -/
import Derived.Test.YtlncjconodmjjaaDoorCallS
namespace Go.Rx
set_option linter.unusedVariables false
set_option linter.unusedSimpArgs false
theorem RepH.glob {C : Ctx} {S : AS} {E : Env} {w : World} (h : RepH C S E w) {g : Nat} {e : Sh} {xs : List e.T} (hg : C.gl g = some ⟨e, xs⟩) : Al C S E w g ∧ ∃ cells, RowsL (fun x c => PC (Al C S E w) w e x c) xs cells ∧ At w ⟨g, 0, none⟩ cells := by
  obtain ⟨g1, cells, g2, g3⟩ := h.gl g e xs hg
  have upA : ∀ b, C.A0 b → ∀ o v, C.w0.cell? ⟨b, o, none⟩ = some v → w.cell? ⟨b, o, none⟩ = some v := fun b hb o v => cell_of_heap (h.keep b (h.a0 b hb).1 (h.a0 b hb).2) o v
  exact ⟨.inl g1, cells, g2.imp (fun x c q => PC.mono (A := C.A0) (A' := Al C S E w) (w := C.w0) (w' := w) (fun b hb => .inl hb) upA q), g3.mono (upA g g1)⟩
theorem backObjs_look {f : Nat → Nat} {b : Bool} {M : Nat} (hf : ∀ i j, i < M → j < M → f i = f j → i = j) : ∀ {H : List (Nat × Obj)}, (∀ p ∈ H, p.1 < M) → ∀ j, j < M → look (backObjs f b H) (f j) = (look H j).map (Obj.back f b)
  | [], _, j, _ => rfl
  | p :: r, hp, j, hj => by
    obtain ⟨k, o⟩ := p
    simp only [backObjs, look_cons]
    by_cases h : j = k
    · subst h; simp
    · have : f j ≠ f k := fun q => h (hf j k hj (hp (k, o) (by simp)) q)
      rw [if_neg this, if_neg h]
      exact backObjs_look hf (fun p hp' => hp p (by simp [hp'])) j hj
theorem backObjs_none {f : Nat → Nat} {b : Bool} {i : Nat} : ∀ {H : List (Nat × Obj)}, (∀ p ∈ H, f p.1 ≠ i) → look (backObjs f b H) i = none
  | [], _ => rfl
  | p :: r, hp => by
    obtain ⟨k, o⟩ := p
    simp only [backObjs, look_cons]
    rw [if_neg (Ne.symm (hp (k, o) (by simp)))]
    exact backObjs_none (fun p hp' => hp p (by simp [hp']))
theorem kinds_lt {os : List Obj} : ∀ {H : List (Nat × Obj)}, kindsOK os H = true → ∀ p ∈ H, p.1 < os.length + 4
  | [], _, p, hp => by cases hp
  | q :: r, h, p, hp => by
    unfold kindsOK at h
    split at h
    · rename_i o ho
      split at h
      · rcases List.mem_cons.1 hp with rfl | hp
        · have := (List.getElem?_eq_some_iff.1 ho).1; omega
        · exact kinds_lt h p hp
      · cases h
    · split at h
      · rename_i hb
        rcases List.mem_cons.1 hp with rfl | hp
        · exact Nat.le_of_ble_eq_true hb
        · exact kinds_lt h p hp
      · cases h
theorem kinds_same {os : List Obj} : ∀ {H : List (Nat × Obj)}, kindsOK os H = true → ∀ j o o', os[j]? = some o → look H j = some o' → sameKind o o' = true
  | [], _, j, o, o', _, h => by cases h
  | q :: r, h, j, o, o', ho, hl => by
    obtain ⟨k, ok⟩ := q
    simp only [look_cons] at hl
    unfold kindsOK at h
    split at hl
    · rename_i e
      subst e
      cases hl
      split at h
      · rename_i o1 ho1
        simp only at ho1
        rw [ho] at ho1
        cases ho1
        split at h
        · assumption
        · cases h
      · rename_i ho1
        simp only at ho1
        rw [ho] at ho1
        cases ho1
    · split at h
      · split at h
        · exact kinds_same h j o o' ho hl
        · cases h
      · split at h
        · exact kinds_same h j o o' ho hl
        · cases h
theorem idx_get {ids : List Nat} {id : Nat} (h : id ∈ ids) : ids[idx ids id]? = some id := by
  unfold idx
  have hl : ids.idxOf id < ids.length := List.idxOf_lt_length_iff.2 h
  rw [List.getElem?_eq_getElem hl, List.getElem_idxOf]
theorem anyEntry_true {m : Nat} {S : AS} {H : List (Nat × Obj)} : ∀ {ids : List Nat} {k j id : Nat}, ids[k]? = some id → entry m S id = true → held H (j + k) = false → anyEntry m S H j ids = true
  | [], _, _, _, hi, _, _ => by cases hi
  | a :: r, k, j, id, hi, he, hh => by
    unfold anyEntry
    split
    · rfl
    · rename_i h
      cases k with
      | zero =>
        cases hi
        exact (h he hh).elim
      | succ k => exact anyEntry_true (k := k) (j := j + 1) hi he (by rw [show j + 1 + k = j + (k + 1) by omega]; exact hh)
theorem owns_send {E E0 : Env} {j id : Nat} (h : E0.σ j = E.σ id) {f : Nat → Nat} {o : Obj} : Owns E0 j (o.send f) ↔ Owns E id o := by
  cases o <;> simp only [Obj.send, Owns, h]
theorem owns_back {E E0 : Env} {j id : Nat} (h : E0.σ j = E.σ id) {f : Nat → Nat} {b : Bool} {o : Obj} : Owns E0 j (o.back f b) ↔ Owns E id o := by
  cases o <;> simp only [Obj.back, Owns, h]
section
variable {C : Ctx} {S : AS} {E : Env} {a : Act} {w : World} {G : Gl}
def CallsOK (P : Program) (gl : Nat → Option Tab) (G : Gl) : Prop := ∀ f as H cs r, G.fn f as H = some cs → cs.o = some r → FSpec P gl f as H (cs.out r).1 (cs.out r).2
theorem call_ok (hG : CallsOK C.P C.gl G) (hm : G.m = C.m) (h : RepE C S E a w) {nid : Nat} (hn : ∀ j, j < 4 → S.obj (nid + j) = none) {fo : Operand} {args : Array Operand} {ats : Array TypeId} {o : Oper} (ho : o.op = .call ⟨.value fo, args, ats⟩) {e : Eff}
    (he : (evCall G S nid (S.ev fo) (args.toList.map S.ev)).sat (· = e)) : OpWP C S a w o e := by
  have hf := h.ev fo
  unfold evCall at he
  split at he
  case h_2 => cases he
  rename_i f first caps hfo
  rw [hfo] at hf
  simp only [RepV] at hf
  obtain ⟨fs, cs0, hfv, hf1, hf2⟩ := hf
  split at he
  · cases he
  rename_i as vis hhand
  simp only at he
  obtain ⟨ids, hids⟩ : ∃ ids, ids = reach S 64 [] (refsL as) := ⟨_, rfl⟩
  rw [← hids] at he
  split at he
  case h_2 => cases he
  rename_i os hos hdisj hnd hsub
  split at he
  case h_2 => cases he
  rename_i cs hin hcs
  obtain ⟨r, hr, he⟩ := he
  simp only at he
  split at he
  case h_2 => cases he
  rename_i hkinds
  cases he
  -- the arguments
  have hargs : RepL (Dom S) E (Al C S E w) w (first ++ args.toList.map S.ev ++ caps) (fs ++ args.toList.map a.eval ++ cs0) := repL_append.2 ⟨_, _, rfl, repL_append.2 ⟨_, _, rfl, hf1, h.evs args.toList⟩, hf2⟩
  have hfree := (hand_sound h (A' := fun _ => True) (fun _ _ => trivial) hhand hargs (fun _ _ _ _ _ _ => trivial)).2
  obtain ⟨r1, ext1, key⟩ := h.release vis hfree
  have has := (hand_sound h (A' := Al C (S.setObjs (frz S.obj vis)) E w) (fun b hb => (ext1.a b hb).1) hhand hargs key).1
  obtain ⟨S1, hS1⟩ : ∃ S1, S1 = S.setObjs (frz S.obj vis) := ⟨_, rfl⟩
  rw [← hS1] at r1 ext1 has
  have hdis := disj_iff hdisj
  have hnodup := nodupN_iff hnd
  have hsubi := subIds_iff hsub
  obtain ⟨hlen, hget⟩ := objsOf_get hos
  have hS1ids : ∀ id, id ∈ ids → S1.obj id = S.obj id := fun id hid => by rw [hS1, obj_frz, if_neg (hdis id hid)]
  have hS1none : ∀ id, S.obj id = none → S1.obj id = none := fun id hid => by rw [hS1]; exact obj_none_frz hid
  have hidsget : ∀ (j id : Nat), ids[j]? = some id → id ∈ ids := fun j id hj => List.mem_of_getElem? hj
  obtain ⟨H, hH⟩ : ∃ H, H = sendObjs (idx ids) os := ⟨_, rfl⟩
  have hHlen : H.length = ids.length := by rw [hH, sendObjs_length, hlen]
  have hHget : ∀ (j : Nat) (o' : Obj), H[j]? = some o' → ∃ id o1, ids[j]? = some id ∧ os[j]? = some o1 ∧ S1.obj id = some o1 ∧ S.obj id = some o1 ∧ o' = o1.send (idx ids) := by
    intro j o' hj
    have hjl : j < ids.length := by rw [← hHlen]; exact (List.getElem?_eq_some_iff.1 hj).1
    obtain ⟨o1, q1, q2⟩ := hget j _ (List.getElem?_eq_getElem hjl)
    rw [hH, sendObjs_get, q1] at hj
    simp at hj
    exact ⟨_, o1, List.getElem?_eq_getElem hjl, q1, by rw [hS1ids _ (List.getElem_mem hjl)]; exact q2, q2, hj.symm⟩
  obtain ⟨E0, hE0⟩ : ∃ E0 : Env, E0 = ⟨fun j => E.β (ids.getD j 0), fun j => E.sl (ids.getD j 0), fun j => E.ln (ids.getD j 0)⟩ := ⟨_, rfl⟩
  have hE0get : ∀ (j : Nat) (id : Nat), ids[j]? = some id → E0.β j = E.β id ∧ E0.σ j = E.σ id ∧ E0.ln j = E.ln id := by
    intro j id hj
    rw [hE0]
    simp [hj, Env.σ]
  have hDz : ∀ j, Dom (stateOf (zipI 0 H)) j ↔ j < ids.length := by
    intro j
    unfold Dom
    rw [obj_zip, ← hHlen]
    simp
  have hmap : Map (Dom S1) E (Dom (stateOf (zipI 0 H))) E0 (idx ids) ids := by
    refine ⟨fun id hid _ => ?_⟩
    have hg := idx_get hid
    exact ⟨(hDz _).2 (List.getElem?_eq_some_iff.1 hg).1, hE0get _ _ hg⟩
  obtain ⟨A0, hA0⟩ : ∃ A0, A0 = Al C S1 E w := ⟨_, rfl⟩
  obtain ⟨O0, hO0⟩ : ∃ O0 : Nat → Prop, O0 = fun b => ∃ id o1, id ∈ ids ∧ S.obj id = some o1 ∧ Owns E id o1 ∧ E.β id = b := ⟨_, rfl⟩
  have hpre : FPre C.gl w A0 O0 E0 (renL (idx ids) as) H (fs ++ args.toList.map a.eval ++ cs0) := by
    refine ⟨?_, ?_, ?_, ?_, ?_, ?_, fun j en e1 et xs hj => ?_⟩
    rotate_left 6
    · obtain ⟨id, o1, q1, q2, q3, q4, q5⟩ := hHget j _ hj
      cases o1 <;> simp [Obj.send] at q5
      exact q5.1
    · intro b hb
      rw [hA0] at hb
      refine ⟨r1.h.al_lt hb, ?_⟩
      rw [hO0]
      rintro ⟨id, o1, q1, q2, q3, q4⟩
      exact r1.h.apart (by rw [hS1ids id q1]; exact q2) q3 hb q4
    · intro g e1 xs hg
      rw [hA0]
      exact r1.h.glob hg
    · intro j o' hj
      rw [obj_zip] at hj
      obtain ⟨id, o1, q1, q2, q3, q4, q5⟩ := hHget j o' hj
      obtain ⟨e1, e2, e3⟩ := hE0get j id q1
      have hrep := r1.h.objs id o1 q3
      rw [q5, hA0]
      cases o1 with
      | gone => trivial
      | grow en e1' et xs =>
        obtain ⟨t1, t2⟩ := hrep
        refine ⟨by rw [e3]; exact t1, ?_⟩
        rcases t2 with ⟨t2, t3⟩ | ⟨cap, cur, cells, t2, t3, t4⟩
        · exact .inl ⟨by rw [e2]; exact t2, t3⟩
        · exact .inr ⟨cap, cur, cells, by rw [e1, e2]; exact t2, by rw [e1]; exact t3, t4⟩
      | froz e1' xs =>
        obtain ⟨t1, t2, t3⟩ := hrep
        exact ⟨by rw [e3]; exact t1, by rw [e2]; exact t2, by rw [e1, e2]; exact t3⟩
      | cells cs' =>
        obtain ⟨vs, et, t1, t2⟩ := hrep
        exact ⟨vs, et, by rw [e1]; exact t1, hmap.repL (fun i hi => objsIn_get hin _ (List.mem_of_getElem? q2) i hi) t2⟩
      | arr e1' xs =>
        obtain ⟨t1, cells, et, t2, t3⟩ := hrep
        exact ⟨by rw [e3]; exact t1, cells, et, by rw [e1]; exact t2, t3⟩
    · intro j o' hj hw
      rw [obj_zip] at hj
      obtain ⟨id, o1, q1, q2, q3, q4, q5⟩ := hHget j o' hj
      obtain ⟨e1, e2, e3⟩ := hE0get j id q1
      have hw1 : Owns E id o1 := (owns_send e2).1 (q5 ▸ hw)
      rw [e1]
      refine ⟨h.h.lt q4 hw1, ?_⟩
      rw [hO0]
      exact ⟨id, o1, hidsget j id q1, q4, hw1, rfl⟩
    · intro i j o1 o2 hi hwi hj hwj hβ
      rw [obj_zip] at hi hj
      obtain ⟨id, p1, q1, q2, q3, q4, q5⟩ := hHget i o1 hi
      obtain ⟨id', p2, s1, s2, s3, s4, s5⟩ := hHget j o2 hj
      obtain ⟨e1, e2, e3⟩ := hE0get i id q1
      obtain ⟨f1, f2, f3⟩ := hE0get j id' s1
      have hw1 : Owns E id p1 := (owns_send e2).1 (q5 ▸ hwi)
      have hw2 : Owns E id' p2 := (owns_send f2).1 (s5 ▸ hwj)
      rw [e1, f1] at hβ
      have := h.h.inj id id' p1 p2 q4 hw1 s4 hw2 hβ
      subst this
      have hi' := (List.getElem?_eq_some_iff.1 q1)
      have hj' := (List.getElem?_eq_some_iff.1 s1)
      exact (List.getElem_inj (h₀ := hi'.1) (h₁ := hj'.1) hnodup).1 (hi'.2.trans hj'.2.symm)
    · rw [hA0]
      exact hmap.repL hsubi (Ext.repL (A := Al C S1 E w) ⟨ext1.d, fun b hb => ⟨hb, fun _ _ q => q⟩⟩ has)
  obtain ⟨hfn, hspec⟩ := hG f _ _ cs r hcs hr
  rw [← hH] at hspec
  have hcall := hspec w A0 O0 E0 _ hpre
  -- the run
  intro K Q hK
  have hexec : (execOp a.eval o).run C.P w = .ok (.enter f (fs ++ args.toList.map a.eval ++ cs0).toArray) w := by
    obtain ⟨fn, c, g1, g2, g3⟩ := hfn
    unfold execOp
    simp only [ho, resolve, hfv, Deferred.ofValue, Sem.run_bind, Sem.run_pure, Result.andThen_ok, invoke, callFunc, run_program, g1, g3, g2]
    simp
  unfold Oper.wp
  rw [hexec]
  show Calls C.P f _ w _
  refine hcall.mono ?_
  rintro e' w' ⟨v, E', rfl, hpost, hres⟩
  show K (a.put o.dst v) w'
  obtain ⟨Cc, hCc⟩ : ∃ Cc, Cc = FCtx C.P C.gl w A0 O0 E0 H.length 0 := ⟨_, rfl⟩
  rw [← hCc] at hpost hres
  have hCw : Cc.w0 = w := by rw [hCc]; rfl
  have hCm : Cc.m = ids.length := by rw [hCc, ← hHlen]; rfl
  have hCA : Cc.A0 = A0 := by rw [hCc]; rfl
  have hCO : Cc.O0 = O0 := by rw [hCc]; rfl
  have hCE : Cc.E0 = E0 := by rw [hCc]; rfl
  obtain ⟨H', hH'⟩ : ∃ H', H' = (cs.out r).2 := ⟨_, rfl⟩
  rw [← hH'] at hpost hres hkinds hK
  obtain ⟨bk, hbk⟩ : ∃ bk, bk = backId ids nid := ⟨_, rfl⟩
  obtain ⟨ae, hae⟩ : ∃ ae, ae = anyEntry G.m S H' 0 ids := ⟨_, rfl⟩
  rw [← hbk, ← hae] at hK
  obtain ⟨S2, hS2⟩ : ∃ S2, S2 = S.setObjs (backObjs bk ae H' ++ frz S.obj vis) := ⟨_, rfl⟩
  have hS2' : S2 = S1.setObjs (backObjs bk ae H') := by rw [hS2, hS1]; simp [AS.setObjs]
  have hlt := kinds_lt hkinds
  rw [hlen] at hlt
  have hbk1 : ∀ (j id : Nat), ids[j]? = some id → bk j = id := fun j id hj => by rw [hbk]; simp [backId, hj]
  have hbk2 : ∀ j, ids.length ≤ j → bk j = nid + (j - ids.length) := fun j hj => by rw [hbk]; simp [backId, List.getElem?_eq_none hj]
  have hidsS : ∀ (j id : Nat), ids[j]? = some id → S.obj id ≠ none := fun j id hj => by
    obtain ⟨o1, _, q2⟩ := hget j id hj
    rw [q2]; simp
  have hinjbk : ∀ i j, i < ids.length + 4 → j < ids.length + 4 → bk i = bk j → i = j := by
    intro i j hi hj hq
    by_cases h1 : i < ids.length
    · have g1 := List.getElem?_eq_getElem h1
      rw [hbk1 i _ g1] at hq
      by_cases h2 : j < ids.length
      · have g2 := List.getElem?_eq_getElem h2
        rw [hbk1 j _ g2] at hq
        exact (List.getElem_inj hnodup).1 hq
      · rw [hbk2 j (by omega)] at hq
        have := hidsS i _ g1
        rw [hq] at this
        exact absurd (hn _ (by omega)) this
    · rw [hbk2 i (by omega)] at hq
      by_cases h2 : j < ids.length
      · have g2 := List.getElem?_eq_getElem h2
        rw [hbk1 j _ g2] at hq
        have := hidsS j _ g2
        rw [← hq] at this
        exact absurd (hn _ (by omega)) this
      · rw [hbk2 j (by omega)] at hq
        omega
  have hlookS2 : ∀ i, S2.obj i = match look (backObjs bk ae H') i with | some o => some o | none => S1.obj i := by
    intro i
    rw [hS2']
    show look (backObjs bk ae H' ++ S1.h) i = _
    generalize backObjs bk ae H' = L
    induction L with
    | nil => rfl
    | cons p L ih =>
      obtain ⟨k, o⟩ := p
      simp only [List.cons_append, look_cons]
      split
      · rfl
      · exact ih
  have hlookB : ∀ j, j < ids.length + 4 → look (backObjs bk ae H') (bk j) = (look H' j).map (Obj.back bk ae) := fun j hj => backObjs_look hinjbk hlt j hj
  obtain ⟨E2, hE2⟩ : ∃ E2 : Env, E2 = ⟨fun i => match S.obj i with | some _ => E.β i | none => E'.β (ids.length + (i - nid)), fun i => match S.obj i with | some _ => E.sl i | none => E'.sl (ids.length + (i - nid)), fun i => match S.obj i with | some _ => E.ln i | none => E'.ln (ids.length + (i - nid))⟩ := ⟨_, rfl⟩
  have hE2old : ∀ i, S.obj i ≠ none → E2.β i = E.β i ∧ E2.σ i = E.σ i ∧ E2.ln i = E.ln i := by
    intro i hi
    cases hq : S.obj i with
    | none => exact absurd hq hi
    | some o => rw [hE2]; simp [hq, Env.σ]
  -- the callee's numbers, and the caller's
  have hcorr : ∀ j, j < ids.length + 4 → (look H' j ≠ none) → E2.β (bk j) = E'.β j ∧ E2.σ (bk j) = E'.σ j ∧ E2.ln (bk j) = E'.ln j := by
    intro j hj hl
    by_cases h1 : j < ids.length
    · have g1 := List.getElem?_eq_getElem h1
      rw [hbk1 j _ g1]
      obtain ⟨p1, p2, p3, p4⟩ := hpost.pin j (by rw [hCm]; exact h1)
      rw [hCE] at p2 p3 p4
      obtain ⟨e1, e2, e3⟩ := hE0get j _ g1
      obtain ⟨f1, f2, f3⟩ := hE2old _ (hidsS j _ g1)
      exact ⟨by rw [f1, p2, e1], by rw [f2, p3, e2], by rw [f3, p4, e3]⟩
    · rw [hbk2 j (by omega)]
      have hnone := hn (j - ids.length) (by omega)
      rw [hE2]
      simp only [hnone, Env.σ]
      rw [show ids.length + (nid + (j - ids.length) - nid) = j by omega]
      exact ⟨rfl, rfl, by first | rfl | trivial⟩
  have hmap2 : Map (Dom (stateOf H')) E' (Dom S2) E2 bk (List.range (ids.length + 4)) := by
    refine ⟨fun j hj hd => ?_⟩
    have hj := List.mem_range.1 hj
    refine ⟨?_, hcorr j hj hd⟩
    unfold Dom
    rw [hlookS2, hlookB j hj]
    cases hq : look H' j with
    | none => exact absurd hq hd
    | some o => simp
  have hdomlt : ∀ j, Dom (stateOf H') j → j ∈ List.range (ids.length + 4) := by
    intro j hd
    refine List.mem_range.2 ?_
    unfold Dom at hd
    have : ∀ (L : List (Nat × Obj)), (∀ p ∈ L, p.1 < ids.length + 4) → look L j ≠ none → j < ids.length + 4 := by
      intro L
      induction L with
      | nil => intro _ q; exact absurd rfl q
      | cons p L ih =>
        obtain ⟨k, o⟩ := p
        intro hp q
        rw [look_cons] at q
        split at q
        · rename_i e; rw [e]; exact hp (k, o) (by simp)
        · exact ih (fun p hp' => hp p (by simp [hp'])) q
    exact this H' hlt hd
  -- which objects there are
  have split2 : ∀ i o2, S2.obj i = some o2 → (∃ j o', j < ids.length + 4 ∧ i = bk j ∧ look H' j = some o' ∧ o2 = o'.back bk ae) ∨ (S1.obj i = some o2 ∧ i ∉ ids) := by
    intro i o2 hi
    by_cases him : ∃ j, j < ids.length + 4 ∧ i = bk j ∧ look H' j ≠ none
    · obtain ⟨j, hj, rfl, hl⟩ := him
      cases hq : look H' j with
      | none => exact absurd hq hl
      | some o' =>
        rw [hlookS2, hlookB j hj, hq] at hi
        simp at hi
        exact .inl ⟨j, o', hj, rfl, hq, hi.symm⟩
    · have hni : i ∉ ids := by
        intro hmem
        obtain ⟨j, hj1, hj2⟩ := List.getElem_of_mem hmem
        refine him ⟨j, by omega, (hbk1 j i (by rw [← hj2]; exact List.getElem?_eq_getElem hj1)).symm, ?_⟩
        exact (hpost.pin j (by rw [hCm]; exact hj1)).1
      have hnone : look (backObjs bk ae H') i = none := by
        cases hq : look (backObjs bk ae H') i with
        | none => rfl
        | some o =>
          exfalso
          have : ∀ (L : List (Nat × Obj)), (∀ p ∈ L, p.1 < ids.length + 4) → look (backObjs bk ae L) i ≠ none → ∃ j, j < ids.length + 4 ∧ i = bk j ∧ look L j ≠ none := by
            intro L
            induction L with
            | nil => intro _ q; exact absurd rfl q
            | cons p L ih =>
              obtain ⟨k, o⟩ := p
              intro hp q
              simp only [backObjs, look_cons] at q
              split at q
              · rename_i e
                exact ⟨k, hp (k, o) (by simp), e, by rw [look_cons]; simp⟩
              · obtain ⟨j, q1, q2, q3⟩ := ih (fun p hp' => hp p (by simp [hp'])) q
                exact ⟨j, q1, q2, by rw [look_cons]; split <;> simp [q3]⟩
          exact him (this H' hlt (by rw [hq]; simp))
      rw [hlookS2, hnone] at hi
      exact .inr ⟨hi, hni⟩
  -- who owns what
  have hown2 : ∀ i o2, S2.obj i = some o2 → Owns E2 i o2 → (∃ j o', j < ids.length + 4 ∧ i = bk j ∧ look H' j = some o' ∧ o2 = o'.back bk ae ∧ Owns E' j o' ∧ E2.β i = E'.β j) ∨
      (S1.obj i = some o2 ∧ Owns E i o2 ∧ E2.β i = E.β i ∧ i ∉ ids) := by
    intro i o2 hi hw
    rcases split2 i o2 hi with ⟨j, o', hj, rfl, hq, ho2⟩ | ⟨hi1, hni⟩
    · obtain ⟨c1, c2, c3⟩ := hcorr j hj (by rw [hq]; simp)
      exact .inl ⟨j, o', hj, rfl, hq, ho2, (owns_back c2).1 (ho2 ▸ hw), c1⟩
    · have hSi : S.obj i ≠ none := fun q => by rw [hS1none i q] at hi1; cases hi1
      obtain ⟨f1, f2, f3⟩ := hE2old i hSi
      exact .inr ⟨hi1, (Owns.env f2).1 hw, f1, hni⟩
  -- where a callee's block lies
  have hplace : ∀ j o', look H' j = some o' → Owns E' j o' → E'.β j < w'.heap.size ∧ (w.heap.size ≤ E'.β j ∨ ∃ id o1, id ∈ ids ∧ S1.obj id = some o1 ∧ Owns E id o1 ∧ E.β id = E'.β j ∧ Entry Cc j o') := by
    intro j o' hl hw
    have := hpost.fresh j o' hl hw
    rw [hCw, hCO] at this
    refine ⟨this.1, this.2.imp (fun q => q) ?_⟩
    rintro ⟨q, q'⟩
    rw [hO0] at q
    obtain ⟨id, o1, s1, s2, s3, s4⟩ := q
    exact ⟨id, o1, s1, by rw [hS1ids id s1]; exact s2, s3, s4, q'⟩
  have hlatw : Later w w' := by have := hpost.lat; rw [hCw] at this; exact this
  have hszw : w.heap.size ≤ w'.heap.size := hlatw.sz
  have hkeepw : ∀ b, b < w.heap.size → ¬ O0 b → w'.heap[b]? = w.heap[b]? := by
    intro b hb hO
    have := hpost.keep b (by rw [hCw]; exact hb) (by rw [hCO]; exact hO)
    rw [hCw] at this
    exact this
  have hnotO : ∀ b, (∀ id o1, id ∈ ids → S1.obj id = some o1 → Owns E id o1 → E.β id ≠ b) → ¬ O0 b := by
    intro b hq
    rw [hO0]
    rintro ⟨id, o1, s1, s2, s3, s4⟩
    exact hq id o1 s1 (by rw [hS1ids id s1]; exact s2) s3 s4
  have hownA : ∀ b, C.w0.heap.size ≤ b → b < w.heap.size → (∀ id o, S1.obj id = some o → Owns E id o → E.β id ≠ b) → ∀ id o, S2.obj id = some o → Owns E2 id o → E2.β id ≠ b := by
    intro b h1 h2 h3 i o2 hi hw
    rcases hown2 i o2 hi hw with ⟨j, o', hj, _, hq, _, hwj, hβ⟩ | ⟨hi1, hw1, hβ, _⟩
    · rw [hβ]
      rcases (hplace j o' hq hwj).2 with q | ⟨id, o1, q1, q2, q3, q4, _⟩
      · omega
      · rw [← q4]; exact h3 id o1 q2 q3
    · rw [hβ]; exact h3 i o2 hi1 hw1
  have hA2 : ∀ b, Al Cc (stateOf H') E' w' b → Al C S2 E2 w' b := by
    intro b hb
    rcases hb with hb | ⟨h1, h2, h3⟩
    · rw [hCA, hA0] at hb
      exact Al.ext hszw hownA hb
    · rw [hCw] at h1
      refine .inr ⟨Nat.le_trans r1.h.size h1, h2, ?_⟩
      intro i o2 hi hw
      rcases hown2 i o2 hi hw with ⟨j, o', hj, _, hq, _, hwj, hβ⟩ | ⟨hi1, hw1, hβ, _⟩
      · rw [hβ]; exact h3 j o' hq hwj
      · rw [hβ]
        have := r1.h.lt hi1 hw1
        omega
  have hstep := r1.step (S' := S2) (E' := E2) (w' := w') (fun t => by rw [hS2']; rfl) hlatw
    (fun b h1 h2 => hkeepw b (Nat.lt_of_lt_of_le h1 r1.h.size) (hnotO b (fun id o1 _ q2 q3 q4 => r1.h.away q2 q3 h1 h2 q4.symm)))
    (fun id hd => by
      have hSi : S.obj id ≠ none := fun q => hd (hS1none id q)
      refine ⟨?_, hE2old id hSi⟩
      unfold Dom
      rw [hlookS2]
      split
      · simp
      · exact hd)
    hownA
    (fun b hb => hkeepw b (r1.h.al_lt hb) (hnotO b (fun id o1 _ q2 q3 q4 => r1.h.apart q2 q3 hb q4)))
    (fun ext i o2 hi => by
      rcases split2 i o2 hi with ⟨j, o', hj, rfl, hq, rfl⟩ | ⟨hi1, hni⟩
      · obtain ⟨c1, c2, c3⟩ := hcorr j hj (by rw [hq]; simp)
        refine .inr ⟨?_, ?_⟩
        · have hrep := hpost.objs j o' hq
          have up : ∀ {s : Sh} {x : s.T} {c : List Value}, PC (Al Cc (stateOf H') E' w') w' s x c → PC (Al C S2 E2 w') w' s x c := fun q => (up_ext (E := E2) (D := Dom S2) hA2).pc q
          cases o' with
          | gone => trivial
          | grow en e1' et xs =>
            obtain ⟨t1, t2⟩ := hrep
            refine ⟨by rw [c3]; exact t1, ?_⟩
            rcases t2 with ⟨t2, t3⟩ | ⟨cap, cur, cells, t2, t3, t4, t5, t6, t7, t8⟩
            · exact .inl ⟨by rw [c2]; exact t2, t3⟩
            · exact .inr ⟨cap, cur, cells, by rw [c1, c2]; exact t2, by rw [c1]; exact t3, t4, t5, t6, t7.imp (fun _ _ => up), t8⟩
          | froz e1' xs =>
            obtain ⟨t1, t2, t3⟩ := hrep
            exact ⟨by rw [c3]; exact t1, by rw [c2]; exact up t2, by rw [c1, c2]; exact t3⟩
          | cells cs' =>
            obtain ⟨vs, et, t1, t2⟩ := hrep
            exact ⟨vs, et, by rw [c1]; exact t1, (up_ext hA2).repL (hmap2.repL (fun i hi => hdomlt i (refsL_dom t2 i hi)) t2)⟩
          | arr e1' xs =>
            obtain ⟨t1, cells, et, t2, t3⟩ := hrep
            exact ⟨by rw [c3]; exact t1, cells, et, by rw [c1]; exact t2, t3.imp (fun _ _ => up)⟩
        · intro hw
          have hwj := (owns_back c2).1 hw
          obtain ⟨p1, p2⟩ := hplace j o' hq hwj
          rw [c1]
          refine ⟨p1, ?_⟩
          rcases p2 with p2 | ⟨id, o1, q1, q2, q3, q4, q5⟩
          · exact .inl (Nat.le_trans r1.h.size p2)
          · rcases (r1.h.fresh id o1 q2 q3).2 with q6 | ⟨q6, q7⟩
            · exact .inl (by rw [← q4]; exact q6)
            · refine .inr ⟨by rw [← q4]; exact q6, ?_⟩
              have hent : entry G.m S id = true := by
                unfold entry
                rw [hm]
                by_cases hlt' : id < C.m
                · have : Nat.blt id C.m = true := Nat.ble_eq_true_of_le hlt'
                  rw [this]
                · have : Nat.blt id C.m = false := by
                    cases hb : Nat.blt id C.m with
                    | false => rfl
                    | true => exact absurd (Nat.le_of_ble_eq_true hb) hlt'
                  rw [this, ← hS1ids id q1, q2]
                  cases o1 with
                  | grow en1 _ _ _ => exact q7
                  | cells _ => exact absurd q7 hlt'
                  | arr _ _ => exact absurd q7 hlt'
                  | gone => exact q3.elim
                  | froz _ _ => exact q3.elim
              have hae' : (∀ cs', o' ≠ .cells cs') → (∀ e1 xs, o' ≠ .arr e1 xs) → ae = true := by
                intro no1 no2
                rw [hae]
                obtain ⟨k, hk1, hk2⟩ := List.getElem_of_mem q1
                have hk : ids[k]? = some id := by rw [← hk2]; exact List.getElem?_eq_getElem hk1
                refine anyEntry_true (k := k) (j := 0) hk hent ?_
                rw [Nat.zero_add]
                have same : ∀ o3, look H' k = some o3 → Owns E' k o3 → o3 = o' := by
                  intro o3 h3 hw3
                  have hb := hcorr k (by omega) (by rw [h3]; simp)
                  rw [hbk1 k id hk] at hb
                  have := hpost.inj k j o3 o' h3 hw3 hq hwj (by rw [← hb.1, (hE2old id (hidsS k id hk)).1, q4])
                  subst this
                  have h4 : (some o3 : Option Obj) = some o' := h3.symm.trans hq
                  cases h4; rfl
                unfold held
                split
                · rename_i cs' h3; exact absurd (same _ h3 trivial).symm (no1 cs')
                · rename_i e1 xs h3; exact absurd (same _ h3 trivial).symm (no2 e1 xs)
                · rfl
              have one : j < ids.length → ∀ o3, os[j]? = some o3 → Owns E (bk j) o3 → bk j = id := by
                intro hjl o3 ho3 hw3
                have g1 := List.getElem?_eq_getElem hjl
                obtain ⟨o4, q8, q9⟩ := hget j _ g1
                rw [ho3] at q8
                cases q8
                have hb1 := hbk1 j _ g1
                rw [hb1] at hw3 c1 ⊢
                have := (hE2old _ (hidsS j _ g1)).1
                exact r1.h.inj _ id o3 o1 (by rw [hS1ids _ (hidsget j _ g1)]; exact q9) hw3 q2 q3 (by rw [← this, c1, q4])
              cases o' with
              | gone => exact hwj.elim
              | froz _ _ => exact hwj.elim
              | grow en e1' et xs =>
                simp only [Entry] at q5
                simp only [Obj.back, Entry, hae' (fun _ q => by cases q) (fun _ _ q => by cases q), q5]
              | cells cs' =>
                simp only [Entry, hCm] at q5
                have g1 := List.getElem?_eq_getElem q5
                obtain ⟨o4, q8, q9⟩ := hget j _ g1
                have hk := kinds_same hkinds j o4 _ q8 hq
                cases o4 <;> simp [sameKind] at hk
                have := one q5 _ q8 trivial
                simp only [Obj.back, Entry, this]
                rw [hS1ids id q1, ← this, hbk1 j _ g1, q9] at q2
                cases q2
                exact q7
              | arr e1' xs =>
                simp only [Entry, hCm] at q5
                have g1 := List.getElem?_eq_getElem q5
                obtain ⟨o4, q8, q9⟩ := hget j _ g1
                have hk := kinds_same hkinds j o4 _ q8 hq
                cases o4 <;> simp [sameKind] at hk
                have := one q5 _ q8 trivial
                simp only [Obj.back, Entry, this]
                rw [hS1ids id q1, ← this, hbk1 j _ g1, q9] at q2
                cases q2
                exact q7
      · refine .inl ⟨hi1, fun hw => hkeepw _ (r1.h.lt hi1 hw) (hnotO _ (fun id o1 q1 q2 q3 q4 => ?_))⟩
        have := r1.h.inj id i o1 o2 q2 q3 hi1 hw q4
        subst this
        exact hni q1)
    (fun i j o1 o2 hi hwi hj hwj hβ => by
      rcases hown2 i o1 hi hwi with ⟨i', o1', hi', rfl, hq1, _, hw1, hβ1⟩ | ⟨hi1, hw1, hβ1, hni⟩ <;> rcases hown2 j o2 hj hwj with ⟨j', o2', hj', rfl, hq2, _, hw2, hβ2⟩ | ⟨hj1, hw2, hβ2, hnj⟩
      · rw [hβ1, hβ2] at hβ
        rw [hpost.inj i' j' o1' o2' hq1 hw1 hq2 hw2 hβ]
      · exfalso
        rw [hβ1, hβ2] at hβ
        rcases (hplace i' o1' hq1 hw1).2 with q | ⟨id, o3, q1, q2, q3, q4, _⟩
        · have := r1.h.lt hj1 hw2; omega
        · have := r1.h.inj id j o3 o2 q2 q3 hj1 hw2 (by rw [q4, hβ])
          subst this
          exact hnj q1
      · exfalso
        rw [hβ1, hβ2] at hβ
        rcases (hplace j' o2' hq2 hw2).2 with q | ⟨id, o3, q1, q2, q3, q4, _⟩
        · have := r1.h.lt hi1 hw1; omega
        · have := r1.h.inj id i o3 o1 q2 q3 hi1 hw1 (by rw [q4, hβ])
          subst this
          exact hni q1
      · rw [hβ1, hβ2] at hβ
        exact r1.h.inj i j o1 o2 hi1 hw1 hj1 hw2 hβ)
  refine hK v w' E2 (by rw [← hS2]; exact hstep.1) ?_
  rw [← hS2]
  exact (up_ext hA2).repV (hmap2.repV (fun i hi => hdomlt i (refs_dom hres i hi)) hres)
end
end Go.Rx

/- Rx, part 20: a state read as data, and made of them again, is the state still. -/
import Derived.Test.YtlncjconodmjjaaDoorOrder
import Derived.Test.YtlncjconodmjjaaDoorDesc
namespace Go.Rx
set_option linter.unusedVariables false
set_option linter.unusedSimpArgs false
theorem castT_rfl {e : Sh} (x : e.T) : castT rfl x = x := rfl
theorem ofTup_toTup : ∀ {l : List Sh} {ds : List Dat} {x : tupT l}, toTup l ds = some x → ofTup l x = ds
  | [], [], _, _ => rfl
  | [], d :: l, _, h => by cases h
  | [e], [], _, h => by cases h
  | [e], [d], x, h => by
    obtain ⟨e', y⟩ := d
    simp only [toTup] at h
    split at h
    · rename_i q _
      cases q
      cases h
      rfl
    · cases h
  | [e], d :: d' :: l, x, h => by simp [toTup] at h
  | e :: e' :: r, [], _, h => by cases h
  | e :: e' :: r, d :: l, x, h => by
    obtain ⟨e1, y⟩ := d
    simp only [toTup] at h
    split at h
    · rename_i q _
      cases q
      split at h
      · rename_i z hz
        cases h
        show (⟨e1, y⟩ : Dat) :: ofTup (e' :: r) z = _
        rw [ofTup_toTup hz]
      · cases h
    · cases h

section
variable {C : Ctx} {S : AS} {E E' : Env} {a : Act} {w : World} {A' : Nat → Prop} {D' : Nat → Prop} {m : Nat}
theorem dataAll_sound (hR : ∀ id o, S.obj id = some o → RepO (Dom S) E (Al C S E w) w id o) (hA : ∀ b, Al C S E w b → A' b) {e : Sh} {l : List AV} {vs : List Value} {d : DC e}
    (h : dataAll m S.obj e l = some d) (hl : RepL (Dom S) E (Al C S E w) w l vs) (hv : ∀ id o, id ∈ d.vis → S.obj id = some o → Owns E id o → (∀ e xs, o ≠ .arr e xs) → A' (E.β id)) : PC A' w e d.x vs := by
  unfold dataAll at h
  split at h
  · rename_i x vis hd
    cases h
    obtain ⟨c, r, e1, h2, h3⟩ := data_sound hR hA e l vs _ hd hl hv
    simp only [RepL] at h2
    subst h2
    rw [List.append_nil] at e1
    subst e1
    exact h3
  · cases h
theorem dataV_sound (hR : ∀ id o, S.obj id = some o → RepO (Dom S) E (Al C S E w) w id o) (hA : ∀ b, Al C S E w b → A' b) {e : Sh} {v : AV} {x : Value} {d : DC e}
    (h : dataV m S.obj e v = some d) (hx : RepV (Dom S) E (Al C S E w) w v x) (hv : ∀ id o, id ∈ d.vis → S.obj id = some o → Owns E id o → (∀ e xs, o ≠ .arr e xs) → A' (E.β id)) : RepV D' E' A' w (valAV e d.x) x := by
  have one : ∀ {e : Sh} {d : DC e}, dataAll m S.obj e [v] = some d → (∀ id o, id ∈ d.vis → S.obj id = some o → Owns E id o → (∀ e xs, o ≠ .arr e xs) → A' (E.β id)) → enc e d.x = [valAV e d.x] → RepV D' E' A' w (valAV e d.x) x := by
    intro e d hd hv he
    have h1 := enc_ok (D := D') (E := E') (dataAll_sound hR hA hd (vs := [x]) (by simp only [RepL]; exact ⟨x, [], rfl, hx, rfl⟩) hv)
    rw [he] at h1
    simp only [RepL] at h1
    obtain ⟨y, t, e2, h2, rfl⟩ := h1
    cases e2
    exact h2
  cases e with
  | st a =>
    cases v with
    | agg cs =>
      simp only [dataV] at h
      split at h
      · rename_i d1 hd1
        cases h
        simp only [RepV] at hx
        obtain ⟨vs, rfl, hl⟩ := hx
        simp only [valAV, RepV]
        refine ⟨vs, rfl, ?_⟩
        exact enc_ok (e := a) (dataAll_sound hR hA hd1 hl hv)
      · cases h
    | _ => cases h
  | pair a b => cases h
  | unit => cases h
  | int k => cases v <;> first | (cases h; done) | exact one h hv rfl
  | bool => cases v <;> first | (cases h; done) | exact one h hv rfl
  | str => cases v <;> first | (cases h; done) | exact one h hv rfl
  | sl e => cases v <;> first | (cases h; done) | exact one h hv rfl
  | ptr e => cases v <;> first | (cases h; done) | exact one h hv rfl
theorem dataAll_free {e : Sh} {l : List AV} {d : DC e} (h : dataAll m S.obj e l = some d) : ∀ id o, id ∈ d.vis → S.obj id = some o → FreeM m id o := by
  unfold dataAll at h
  split at h
  · rename_i x vis hd
    cases h
    exact data_free e l _ hd
  · cases h
theorem dataV_free {e : Sh} {v : AV} {d : DC e} (h : dataV m S.obj e v = some d) : ∀ id o, id ∈ d.vis → S.obj id = some o → FreeM m id o := by
  have one : ∀ {e : Sh} {d : DC e} {v : AV}, dataAll m S.obj e [v] = some d → ∀ id o, id ∈ d.vis → S.obj id = some o → FreeM m id o := fun h => dataAll_free h
  cases e with
  | st a =>
    cases v with
    | agg cs =>
      simp only [dataV] at h
      split at h
      · rename_i d1 hd1
        cases h
        exact fun id o hi => dataAll_free hd1 id o hi
      · cases h
    | _ => cases h
  | pair a b => cases h
  | unit => cases h
  | int k => exact one (show dataAll m S.obj (.int k) [v] = some d by cases v <;> first | (cases h; done) | exact h)
  | bool => exact one (show dataAll m S.obj .bool [v] = some d by cases v <;> first | (cases h; done) | exact h)
  | str => exact one (show dataAll m S.obj .str [v] = some d by cases v <;> first | (cases h; done) | exact h)
  | sl e => exact one (show dataAll m S.obj (.sl e) [v] = some d by cases v <;> first | (cases h; done) | exact h)
  | ptr e => exact one (show dataAll m S.obj (.ptr e) [v] = some d by cases v <;> first | (cases h; done) | exact h)

/-- The objects of the new state, by their places in the old one. -/
structure Moved (E : Env) (ids : List (Option Nat)) (E' : Env) : Prop where
  old : ∀ (j id : Nat), ids[j]? = some (some id) → E'.β j = E.β id ∧ E'.σ j = E.σ id ∧ E'.ln j = E.ln id
  nil : ∀ (j : Nat), ids[j]? = some none → E'.σ j = .slice none 0 0 ∧ E'.ln j = 0
theorem beqO_some {x : Option (Option Nat)} {id : Nat} (h : beqO x (some id) = true) : x = some (some id) := by
  unfold beqO at h
  split at h
  · rename_i a b q; cases q; have : a = id := by simpa using h
    rw [this]
  · rename_i q; cases q
  · cases h
theorem beqO_none {x : Option (Option Nat)} (h : beqO x none = true) : x = some none := by
  unfold beqO at h
  split at h
  · rename_i q; cases q
  · rfl
  · cases h
/-- What a value, once read as data, still is. -/
def VisIn (S : AS) (E : Env) (A' : Nat → Prop) (vis : List Nat) : Prop := ∀ id o, id ∈ vis → S.obj id = some o → Owns E id o → (∀ e xs, o ≠ .arr e xs) → A' (E.β id)
def FreeIn (S : AS) (m : Nat) (vis : List Nat) : Prop := ∀ id o, id ∈ vis → S.obj id = some o → FreeM m id o
theorem VisIn.left {a b : List Nat} (h : VisIn S E A' (a ++ b)) : VisIn S E A' a := fun id o hi => h id o (List.mem_append_left _ hi)
theorem VisIn.right {a b : List Nat} (h : VisIn S E A' (a ++ b)) : VisIn S E A' b := fun id o hi => h id o (List.mem_append_right _ hi)
theorem FreeIn.app {a b : List Nat} (h : FreeIn S m a) (h' : FreeIn S m b) : FreeIn S m (a ++ b) := fun id o hi => (List.mem_append.1 hi).elim (h id o) (h' id o)
section
variable (hR : ∀ id o, S.obj id = some o → RepO (Dom S) E (Al C S E w) w id o) (hA : ∀ b, Al C S E w b → A' b) {ids : List (Option Nat)} (hM : Moved E ids E') (hD : ∀ j, j < ids.length → D' j)
include hR hA hM hD
mutual
theorem projSD_sound (s : SD) {v : AV} {d : List Dat} {vis : List Nat} (rest : List Dat) (h : projSD m S ids s v = some (d, vis)) :
    FreeIn S m vis ∧ (takeSD s (d ++ rest)).2 = rest ∧ (VisIn S E A' vis → ∀ x, RepV (Dom S) E (Al C S E w) w v x → RepV D' E' A' w (takeSD s (d ++ rest)).1 x) := by
  have nof : FreeIn S m [] := fun id o hi => by cases hi
  have lt : ∀ {j : Nat} {y : Option Nat}, ids[j]? = some y → D' j := fun q => hD _ (List.getElem?_eq_some_iff.1 q).1
  cases s with
  | d e =>
    simp only [projSD] at h
    split at h
    · rename_i d1 hd
      cases h
      exact ⟨dataV_free hd, rfl, fun hv x q => dataV_sound hR hA hd q hv⟩
    · cases h
  | fn f a b =>
    cases v with
    | fn f' va vb =>
      simp only [projSD] at h
      split at h
      · rename_i d1 v1 d2 v2 hf h1 h2
        cases h
        have hf' : f = f' := by simpa using hf
        subst hf'
        obtain ⟨p0, p1, p2⟩ := projSDs_sound a (d2 ++ rest) h1
        obtain ⟨q0, q1, q2⟩ := projSDs_sound b rest h2
        refine ⟨p0.app q0, ?_, fun hv x q => ?_⟩
        · simp only [takeSD, List.append_assoc, p1, q1]
        · simp only [RepV] at q
          obtain ⟨fs, cs, rfl, r1, r2⟩ := q
          simp only [takeSD, List.append_assoc, RepV, p1]
          exact ⟨fs, cs, rfl, p2 hv.left fs r1, q2 hv.right cs r2⟩
      · cases h
    | _ => cases h
  | agg l =>
    cases v with
    | agg vs =>
      simp only [projSD] at h
      obtain ⟨p0, p1, p2⟩ := projSDs_sound l rest h
      refine ⟨p0, by simp only [takeSD, p1], fun hv x q => ?_⟩
      simp only [RepV] at q
      obtain ⟨xs, rfl, r1⟩ := q
      simp only [takeSD, RepV]
      exact ⟨xs, rfl, p2 hv xs r1⟩
    | _ => cases h
  | own j =>
    cases v with
    | own id =>
      simp only [projSD] at h
      split at h
      · rename_i hb
        cases h
        have hj := beqO_some hb
        refine ⟨nof, rfl, fun _ x q => ?_⟩
        simp only [RepV] at q
        simp only [takeSD, RepV]
        exact ⟨lt hj, q.2.trans (hM.old j id hj).2.1.symm⟩
      · cases h
    | nilsl =>
      simp only [projSD] at h
      split at h
      · rename_i hb
        cases h
        have hj := beqO_none hb
        refine ⟨nof, rfl, fun _ x q => ?_⟩
        simp only [RepV] at q
        simp only [takeSD, RepV]
        exact ⟨lt hj, q.trans (hM.nil j hj).1.symm⟩
      · cases h
    | _ => cases h
  | ptr j off =>
    cases v with
    | optr id off' =>
      simp only [projSD] at h
      split at h
      · rename_i hb ho
        cases h
        have hj := beqO_some hb
        have ho : off = off' := by simpa using ho
        subst ho
        refine ⟨nof, rfl, fun _ x q => ?_⟩
        simp only [RepV] at q
        simp only [takeSD, RepV]
        exact ⟨lt hj, by rw [(hM.old j id hj).1]; exact q.2⟩
      · cases h
    | _ => cases h
  | unk =>
    simp only [projSD] at h
    cases h
    exact ⟨nof, rfl, fun _ _ _ => by simp [takeSD, RepV]⟩
theorem projSDs_sound : ∀ (l : List SD) {vs : List AV} {d : List Dat} {vis : List Nat} (rest : List Dat), projSDs m S ids l vs = some (d, vis) →
    FreeIn S m vis ∧ (takeSDs l (d ++ rest)).2 = rest ∧ (VisIn S E A' vis → ∀ xs, RepL (Dom S) E (Al C S E w) w vs xs → RepL D' E' A' w (takeSDs l (d ++ rest)).1 xs)
  | [], [], d, vis, rest, h => by
    have _u1 := hR
    have _u2 := hA
    have _u3 := hM
    have _u4 := hD
    cases h
    exact ⟨fun id o hi => (by cases hi), rfl, fun _ xs q => by simpa [takeSDs, RepL] using q⟩
  | [], v :: vs, d, vis, rest, h => by cases h
  | e :: l, [], d, vis, rest, h => by cases h
  | e :: l, v :: vs, d, vis, rest, h => by
    simp only [projSDs] at h
    split at h
    · rename_i d1 a1 d2 a2 h1 h2
      cases h
      obtain ⟨p0, p1, p2⟩ := projSD_sound e (d2 ++ rest) h1
      obtain ⟨i0, i1, i2⟩ := projSDs_sound l rest h2
      refine ⟨p0.app i0, by simp only [takeSDs, List.append_assoc, p1, i1], fun hv xs q => ?_⟩
      simp only [RepL] at q
      obtain ⟨x, t, rfl, q1, q2⟩ := q
      simp only [takeSDs, List.append_assoc, p1, RepL]
      exact ⟨x, t, rfl, p2 hv.left x q1, i2 hv.right t q2⟩
    · cases h
end
theorem projS_sound : ∀ {ss : List (Nat × SD)} {d : List Dat} {vis : List Nat} (rest : List Dat), projS m S ids ss = some (d, vis) →
    FreeIn S m vis ∧ (VisIn S E A' vis → ∀ t v' x, look (takeS ss (d ++ rest)) t = some v' → RepV (Dom S) E (Al C S E w) w (S.get t) x → RepV D' E' A' w v' x)
  | [], d, vis, rest, h => by
    cases h
    exact ⟨fun id o hi => (by cases hi), fun _ t v' x q => by cases q⟩
  | s :: r, d, vis, rest, h => by
    simp only [projS] at h
    split at h
    · rename_i d1 a1 d2 a2 h1 h2
      cases h
      obtain ⟨p0, p1, p2⟩ := projSD_sound hR hA hM hD s.2 (d2 ++ rest) h1
      obtain ⟨i0, i1⟩ := projS_sound rest h2
      refine ⟨p0.app i0, fun hv t v' x q hx => ?_⟩
      simp only [takeS, List.append_assoc, p1] at q
      rw [look_cons] at q
      split at q
      · rename_i ht
        cases q
        subst ht
        exact p2 hv.left x hx
      · exact i1 hv.right t v' x q hx
    · cases h
end
/-- An object of the new state. -/
inductive NewO (S : AS) (E : Env) (A : Nat → Prop) (D' : Nat → Prop) (E' : Env) (A' : Nat → Prop) (w : World) : Option Nat → Obj → Prop where
  | nil (en : Bool) (e : Sh) (et : TypeId) : NewO S E A D' E' A' w none (.grow en e et [])
  | grow (id : Nat) (en en' : Bool) (e : Sh) (et : TypeId) (xs : List e.T) : S.obj id = some (.grow en' e et xs) → (en' = true → en = true) → NewO S E A D' E' A' w (some id) (.grow en e et xs)
  | arr (id : Nat) (e : Sh) (xs : List e.T) : S.obj id = some (.arr e xs) → NewO S E A D' E' A' w (some id) (.arr e xs)
  | gone (id : Nat) : (∀ e xs, S.obj id ≠ some (.arr e xs)) → (∀ cs, S.obj id ≠ some (.cells cs)) → NewO S E A D' E' A' w (some id) .gone
  | cells (id : Nat) (cs cs' : List AV) : S.obj id = some (.cells cs) → (∀ xs, RepL (Dom S) E A w cs xs → RepL D' E' A' w cs' xs) → NewO S E A D' E' A' w (some id) (.cells cs')
section
variable (hR : ∀ id o, S.obj id = some o → RepO (Dom S) E (Al C S E w) w id o) (hA : ∀ b, Al C S E w b → A' b) {ids : List (Option Nat)} (hM : Moved E ids E') (hD : ∀ j, j < ids.length → D' j)
include hR hA hM hD in
theorem projOS_sound {o : OS} {i : Option Nat} {d : List Dat} {vis : List Nat} (rest : List Dat) (h : projOS m S ids o i = some (d, vis)) :
    FreeIn S m vis ∧ (takeOS o (d ++ rest)).2 = rest ∧ (VisIn S E A' vis → NewO S E (Al C S E w) D' E' A' w i (takeOS o (d ++ rest)).1) := by
  have nof : FreeIn S m [] := fun id o hi => by cases hi
  cases o with
  | grow en e et =>
    cases i with
    | none => simp only [projOS] at h; cases h; exact ⟨nof, rfl, fun _ => .nil en e et⟩
    | some id =>
      simp only [projOS] at h
      split at h
      · rename_i en' e' et' xs ho
        split at h
        · rename_i q _ he hen
          cases h
          subst q
          have he : et' = et := by simpa using he
          subst he
          exact ⟨nof, rfl, fun _ => .grow id en en' e' et' xs ho (fun q => by subst q; simpa using hen)⟩
        · cases h
      · cases h
  | arr e =>
    cases i with
    | none => cases h
    | some id =>
      simp only [projOS] at h
      split at h
      · rename_i e' xs ho
        split at h
        · rename_i q _
          cases h
          subst q
          exact ⟨nof, rfl, fun _ => .arr id e' xs ho⟩
        · cases h
      · cases h
  | cells l =>
    cases i with
    | none => cases h
    | some id =>
      simp only [projOS] at h
      split at h
      · rename_i cs ho
        obtain ⟨p0, p1, p2⟩ := projSDs_sound hR hA hM hD l rest h
        exact ⟨p0, p1, fun hv => .cells id cs _ ho (p2 hv)⟩
      · cases h
  | gone =>
    cases i with
    | none => cases h
    | some id =>
      simp only [projOS] at h
      split at h
      · rename_i ho
        cases h
        exact ⟨nof, rfl, fun _ => .gone id (fun e xs q => by rw [ho] at q; cases q) (fun cs q => by rw [ho] at q; cases q)⟩
      · rename_i ho
        cases h
        exact ⟨nof, rfl, fun _ => .gone id (fun e xs q => by rw [ho] at q; cases q) (fun cs q => by rw [ho] at q; cases q)⟩
      · cases h
include hR hA hM hD in
theorem projO_sound : ∀ {os : List (Loc × OS)} {is : List (Option Nat)} {j : Nat} {d : List Dat} {vis : List Nat} (rest : List Dat), projO m S ids os is = some (d, vis) →
    FreeIn S m vis ∧ (takeO os j (d ++ rest)).2 = rest ∧ os.length = is.length ∧ (∀ i, j ≤ i → i < j + os.length → look (takeO os j (d ++ rest)).1 i ≠ none) ∧
    (∀ i o', look (takeO os j (d ++ rest)).1 i = some o' → j ≤ i ∧ i < j + os.length) ∧
    (VisIn S E A' vis → ∀ i o', look (takeO os j (d ++ rest)).1 (j + i) = some o' → ∃ y, is[i]? = some y ∧ NewO S E (Al C S E w) D' E' A' w y o')
  | [], [], j, d, vis, rest, h => by
    cases h
    refine ⟨fun id o hi => (by cases hi), rfl, rfl, fun i h1 h2 => ?_, fun i o' q => ?_, fun _ i o' q => ?_⟩
    · simp at h2; omega
    · cases q
    · cases q
  | [], i :: is, j, d, vis, rest, h => by cases h
  | o :: os, [], j, d, vis, rest, h => by cases h
  | o :: os, y :: is, j, d, vis, rest, h => by
    simp only [projO] at h
    split at h
    · rename_i d1 a1 d2 a2 h1 h2
      cases h
      obtain ⟨p0, p1, p2⟩ := projOS_sound hR hA hM hD (d2 ++ rest) h1
      obtain ⟨i0, i1, i2, i3, i4, i5⟩ := projO_sound (j := j + 1) rest h2
      refine ⟨p0.app i0, by simp only [takeO, List.append_assoc, p1, i1], by simp [i2], fun i q1 q2 => ?_, fun i o' q => ?_, fun hv i o' q => ?_⟩
      · simp only [takeO, List.append_assoc, p1]
        rw [look_cons]
        split
        · simp
        · simp at q2; exact i3 i (by omega) (by omega)
      · simp only [takeO, List.append_assoc, p1] at q
        rw [look_cons] at q
        simp only [List.length_cons]
        split at q
        · omega
        · have := i4 i o' q; omega
      · simp only [takeO, List.append_assoc, p1] at q
        rw [look_cons] at q
        split at q
        · rename_i hi
          cases q
          have : i = 0 := by omega
          subst this
          exact ⟨y, rfl, p2 hv.left⟩
        · rename_i hi
          cases i with
          | zero => omega
          | succ i =>
            rw [show j + (i + 1) = j + 1 + i by omega] at q
            obtain ⟨y', r1, r2⟩ := i5 hv.right i o' q
            exact ⟨y', by simpa using r1, r2⟩
    · cases h
end
theorem hasO_iff {id : Nat} : ∀ {ids : List (Option Nat)}, some id ∈ ids → hasO ids id = true
  | [], h => by cases h
  | none :: r, h => hasO_iff (ids := r) (by simpa using h)
  | some x :: r, h => by
    simp only [hasO]
    split
    · rfl
    · rename_i q
      rcases List.mem_cons.1 h with h | h
      · cases h; simp at q
      · exact hasO_iff h
theorem nodupO_inj {id : Nat} : ∀ {ids : List (Option Nat)}, nodupO ids = true → ∀ (i j : Nat), ids[i]? = some (some id) → ids[j]? = some (some id) → i = j
  | [], _, _, _, h, _ => by cases h
  | none :: r, hn, i, j, hi, hj => by
    cases i with
    | zero => cases hi
    | succ i => cases j with
      | zero => cases hj
      | succ j => rw [nodupO_inj (ids := r) hn i j (by simpa using hi) (by simpa using hj)]
  | some x :: r, hn, i, j, hi, hj => by
    simp only [nodupO] at hn
    split at hn
    · cases hn
    · rename_i hx
      have no : ∀ k, r[k]? = some (some x) → False := fun k hk => by rw [hasO_iff (List.mem_of_getElem? hk)] at hx; cases hx
      cases i with
      | zero =>
        cases hi
        cases j with
        | zero => rfl
        | succ j => exact (no j (by simpa using hj)).elim
      | succ i => cases j with
        | zero => cases hj; exact (no i (by simpa using hi)).elim
        | succ j => rw [nodupO_inj (ids := r) hn i j (by simpa using hi) (by simpa using hj)]
theorem live_get {y : Option Nat} {o' : Obj} : ∀ {os : List (Loc × OS)} {ids : List (Option Nat)} {j i : Nat} {l : List Dat}, look (takeO os j l).1 (j + i) = some o' → o' ≠ .gone → ids[i]? = some y → (liveO os ids)[i]? = some y
  | [], _, _, _, _, h, _, _ => by cases h
  | o :: os, [], _, _, _, _, _, h => by cases h
  | o :: os, y' :: is, j, i, l, h, hg, hi => by
    simp only [takeO] at h
    rw [look_cons] at h
    split at h
    · rename_i q
      cases h
      have : i = 0 := by omega
      subst this
      simp only [liveO, List.getElem?_cons_zero] at hi ⊢
      split
      · rename_i q2; rw [q2] at hg; exact absurd rfl hg
      · exact hi
    · rename_i q
      cases i with
      | zero => omega
      | succ i =>
        rw [show j + (i + 1) = j + 1 + i by omega] at h
        simp only [liveO, List.getElem?_cons_succ] at hi ⊢
        exact live_get h hg hi
theorem live_sub {id : Nat} : ∀ {os : List (Loc × OS)} {ids : List (Option Nat)} {i : Nat}, (liveO os ids)[i]? = some (some id) → ids[i]? = some (some id)
  | [], _, _, h => by cases h
  | o :: os, [], _, h => by cases h
  | o :: os, y' :: is, i, h => by
    cases i with
    | zero =>
      simp only [liveO, List.getElem?_cons_zero] at h ⊢
      split at h
      · cases h
      · exact h
    | succ i =>
      simp only [liveO, List.getElem?_cons_succ] at h ⊢
      exact live_sub h
theorem pinned_get {ids : List (Option Nat)} : ∀ {m : Nat}, pinned ids m = true → ∀ i, i < m → ids[i]? = some (some i)
  | 0, _, i, hi => by omega
  | m + 1, h, i, hi => by
    simp only [pinned] at h
    split at h
    · rename_i hb
      rcases Nat.lt_or_ge i m with q | q
      · exact pinned_get h i q
      · have : i = m := by omega
        subst this
        exact beqO_some hb
    · cases h
theorem apartO_get {ids : List (Option Nat)} {m : Nat} : ∀ {vis : List Nat}, apartO ids m vis = true → ∀ id, id ∈ vis → some id ∉ ids ∧ m ≤ id
  | [], _, _, h => by cases h
  | v :: r, h, id, hid => by
    simp only [apartO] at h
    split at h
    · rename_i h1 h2
      rcases List.mem_cons.1 hid with rfl | hid
      · exact ⟨fun q => (by rw [hasO_iff q] at h1; cases h1), by simpa using h2⟩
      · exact apartO_get h id hid
    · cases h
theorem head_get (D : Descr) (l : List Dat) (t : Nat) : (head D l).get t = match look (takeS D.ss (takeO D.os 0 l).2) t with | some v => v | none => .unk := rfl
theorem head_obj (D : Descr) (l : List Dat) (id : Nat) : (head D l).obj id = look (takeO D.os 0 l).1 id := rfl
theorem head_ok (h : RepE C S E a w) {D : Descr} {ids : List (Option Nat)} {d d' : List Dat} {v v' : List Nat} (hO : projO C.m S ids D.os ids = some (d, v)) (hS : projS C.m S ids D.ss = some (d', v'))
    (hn : ∀ (id i j : Nat), (liveO D.os ids)[i]? = some (some id) → (liveO D.os ids)[j]? = some (some id) → i = j) (hp : ∀ i, i < C.m → ids[i]? = some (some i)) (ha : ∀ id, id ∈ v ++ v' → some id ∉ ids) :
    ∃ E', Moved E ids E' ∧ RepE C (head D (d ++ d')) E' a w ∧ Bd (head D (d ++ d')) := by
  let E' : Env := ⟨fun j => match ids[j]? with | some (some id) => E.β id | _ => 0, fun j => match ids[j]? with | some (some id) => E.sl id | _ => (none, 0, 0), fun j => match ids[j]? with | some (some id) => E.ln id | _ => 0⟩
  have hM : Moved E ids E' := by
    refine ⟨fun j id hj => ?_, fun j hj => ?_⟩
    · simp only [E', Env.σ, hj]; exact ⟨trivial, trivial, trivial⟩
    · simp only [E', Env.σ, hj]; exact ⟨trivial, trivial⟩
  let S' := head D (d ++ d')
  let D' : Nat → Prop := fun j => j < ids.length
  -- shapes first, with no memory of the new state asked for
  obtain ⟨f0, f1, f2, f3, f4, _⟩ := projO_sound (j := 0) (A' := fun b => Al C S E w b ∨ True) (D' := D') h.h.objs (fun b hb => .inl hb) hM (fun j hj => hj) d' hO
  obtain ⟨g0, _⟩ := projS_sound (A' := fun b => Al C S E w b ∨ True) (D' := D') h.h.objs (fun b hb => .inl hb) hM (fun j hj => hj) [] hS
  have hdom : ∀ j, Dom S' j ↔ j < ids.length := by
    intro j
    constructor
    · intro q
      unfold Dom at q
      cases hq : S'.obj j with
      | none => exact (q hq).elim
      | some o => have := f4 j o hq; omega
    · intro q; exact f3 j (Nat.zero_le _) (by omega)
  have hDD : Dom S' = D' := by funext j; exact propext (hdom j)
  have weak : ∀ j o', S'.obj j = some o' → ∃ y, ids[j]? = some y ∧ NewO S E (Al C S E w) D' E' (fun b => Al C S E w b ∨ True) w y o' := by
    intro j o' hj
    obtain ⟨_, _, _, _, _, f5⟩ := projO_sound (j := 0) (A' := fun b => Al C S E w b ∨ True) (D' := D') h.h.objs (fun b hb => .inl hb) hM (fun j hj => hj) d' hO
    exact f5 (fun _ _ _ _ _ _ => .inr trivial) j o' (by rw [Nat.zero_add]; exact hj)
  have owns : ∀ j o', S'.obj j = some o' → Owns E' j o' → ∃ id o, ids[j]? = some (some id) ∧ S.obj id = some o ∧ Owns E id o ∧ E'.β j = E.β id ∧ (Entry C id o → Entry C j o') := by
    intro j o' hj hw
    obtain ⟨y, hy, hN⟩ := weak j o' hj
    have ent : ∀ id : Nat, ids[j]? = some (some id) → o' ≠ .gone → (∀ en e et xs, S.obj id ≠ some (.grow en e et xs)) → S.obj id ≠ some .gone → (∃ o, S.obj id = some o ∧ ∀ e xs, o ≠ .froz e xs) → id < C.m → j < C.m := by
      intro id hid hg hno hng hex hlt
      have hpi := hp id hlt
      cases hq : S'.obj id with
      | none => exact absurd hq ((hdom id).2 (List.getElem?_eq_some_iff.1 hpi).1)
      | some o2 =>
        have h2 : o2 ≠ .gone := by
          rintro rfl
          obtain ⟨y2, hy2, hN2⟩ := weak id _ hq
          rw [hpi] at hy2
          cases hy2
          cases hN2 with
          | gone _ k1 k2 =>
            obtain ⟨o, ho, hfz⟩ := hex
            cases o with
            | gone => exact hng ho
            | grow en e et xs => exact hno en e et xs ho
            | froz e xs => exact hfz e xs rfl
            | cells cs => exact k2 cs ho
            | arr e xs => exact k1 e xs ho
        have := hn id id j (live_get (j := 0) (by rw [Nat.zero_add]; exact hq) h2 hpi) (live_get (j := 0) (by rw [Nat.zero_add]; exact hj) hg hid)
        omega
    cases hN with
    | nil en e et => exact absurd (hM.nil j hy).1 hw
    | grow id en en' e et xs ho hen =>
      obtain ⟨m1, m2, m3⟩ := hM.old j id hy
      exact ⟨id, _, hy, ho, by rw [Owns, m2] at hw; exact hw, m1, hen⟩
    | arr id e xs ho =>
      obtain ⟨m1, m2, m3⟩ := hM.old j id hy
      exact ⟨id, _, hy, ho, trivial, m1, fun q => ent id hy (fun h => by cases h) (fun _ _ _ _ h => by rw [ho] at h; cases h) (fun h => by rw [ho] at h; cases h) ⟨_, ho, fun _ _ h => by cases h⟩ q⟩
    | gone id hx hy' => exact hw.elim
    | cells id cs cs' ho hc =>
      obtain ⟨m1, m2, m3⟩ := hM.old j id hy
      exact ⟨id, _, hy, ho, trivial, m1, fun q => ent id hy (fun h => by cases h) (fun _ _ _ _ h => by rw [ho] at h; cases h) (fun h => by rw [ho] at h; cases h) ⟨_, ho, fun _ _ h => by cases h⟩ q⟩
  have hA : ∀ b, Al C S E w b → Al C S' E' w b := by
    intro b hb
    rcases hb with hb | ⟨h1, h2, h3⟩
    · exact .inl hb
    · refine .inr ⟨h1, h2, fun j o' hj hw hβ => ?_⟩
      obtain ⟨id, o, q1, q2, q3, q4, _⟩ := owns j o' hj hw
      exact h3 id o q2 q3 (by rw [← q4]; exact hβ)
  have hvis : VisIn S E (Al C S' E' w) (v ++ v') := by
    intro id o hid ho hw harr
    have hni := ha id hid
    have hfr := h.h.fresh id o ho hw
    have hfree := f0.app g0 id o hid ho
    refine .inr ⟨?_, hfr.1, ?_⟩
    · rcases hfr.2 with q | ⟨_, q⟩
      · exact q
      · cases o with
        | grow en e et xs => simp only [FreeM, Entry] at hfree q; rw [hfree] at q; cases q
        | cells cs => simp only [FreeM, Entry] at hfree q; omega
        | arr e xs => exact absurd rfl (harr e xs)
        | gone => exact hw.elim
        | froz e xs => exact hw.elim
    · intro j o' hj hwj hβ
      obtain ⟨id2, o2, q1, q2, q3, q4, _⟩ := owns j o' hj hwj
      have := h.h.inj id2 id o2 o q2 q3 ho hw (by rw [← q4]; exact hβ)
      subst this
      exact hni (List.mem_of_getElem? q1)
  obtain ⟨_, k1, _, _, _, k5⟩ := projO_sound (j := 0) (D' := D') h.h.objs hA hM (fun j hj => hj) d' hO
  obtain ⟨_, l1⟩ := projS_sound (D' := D') h.h.objs hA hM (fun j hj => hj) [] hS
  have up : ∀ {s : Sh} {x : s.T} {cs : List Value}, PC (Al C S E w) w s x cs → PC (Al C S' E' w) w s x cs := fun q => q.mono hA (fun _ _ _ _ q => q)
  refine ⟨E', hM, ⟨h.n, h.d, ⟨h.h.a0, h.h.gl, h.h.lat, h.h.keep, ?_, ?_, ?_, ?_⟩, ?_⟩, ?_⟩
  · intro i hi
    have hid := hp i hi
    obtain ⟨m1, m2, m3⟩ := hM.old i i hid
    obtain ⟨p1, p2, p3, p4⟩ := h.h.pin i hi
    exact ⟨(hdom i).2 (List.getElem?_eq_some_iff.1 hid).1, m1.trans p2, m2.trans p3, m3.trans p4⟩
  · intro j o' hj hw
    obtain ⟨id, o, q1, q2, q3, q4, q5⟩ := owns j o' hj hw
    have := h.h.fresh id o q2 q3
    rw [q4]
    exact ⟨this.1, this.2.imp (fun q => q) fun q => ⟨q.1, q5 q.2⟩⟩
  · intro i j oi oj hi hwi hj hwj hβ
    obtain ⟨id, o, q1, q2, q3, q4, _⟩ := owns i oi hi hwi
    obtain ⟨id2, o2, r1, r2, r3, r4, _⟩ := owns j oj hj hwj
    have := h.h.inj id id2 o o2 q2 q3 r2 r3 (by rw [← q4, ← r4]; exact hβ)
    subst this
    exact hn _ i j (live_get (j := 0) (by rw [Nat.zero_add]; exact hi) (fun h => by subst h; exact hwi.elim) q1) (live_get (j := 0) (by rw [Nat.zero_add]; exact hj) (fun h => by subst h; exact hwj.elim) r1)
  · intro j o' hj
    obtain ⟨y, hy, hN⟩ := k5 hvis.left j o' (by rw [Nat.zero_add]; exact hj)
    rw [hDD]
    cases hN with
    | nil en e et => obtain ⟨m1, m2⟩ := hM.nil j hy; exact ⟨m2, .inl ⟨m1, rfl⟩⟩
    | grow id en en' e et xs ho hen =>
      obtain ⟨m1, m2, m3⟩ := hM.old j id hy
      have hr := h.h.objs id _ ho
      simp only [RepO] at hr ⊢
      rw [m1, m2, m3]
      refine ⟨hr.1, hr.2.imp (fun q => q) ?_⟩
      rintro ⟨cap, cur, cells, r1, r2, r3, r4, r5, r6, r7⟩
      exact ⟨cap, cur, cells, r1, r2, r3, r4, r5, r6.imp (fun _ _ => up), r7⟩
    | arr id e xs ho =>
      obtain ⟨m1, m2, m3⟩ := hM.old j id hy
      have hr := h.h.objs id _ ho
      simp only [RepO] at hr ⊢
      rw [m1, m3]
      obtain ⟨r1, cells, et, r2, r3⟩ := hr
      exact ⟨r1, cells, et, r2, r3.imp (fun _ _ => up)⟩
    | gone id hx hy' => simp only [RepO]
    | cells id cs cs' ho hc =>
      obtain ⟨m1, m2, m3⟩ := hM.old j id hy
      have hr := h.h.objs id _ ho
      simp only [RepO] at hr ⊢
      rw [m1]
      obtain ⟨vs, et, r1, r2⟩ := hr
      exact ⟨vs, et, r1, hc vs r2⟩
  · intro t
    rw [hDD]
    rw [head_get, k1]
    cases hq : look (takeS D.ss d') t with
    | none => simp [RepV]
    | some v1 => exact l1 hvis.right t v1 _ (by rw [List.append_nil]; exact hq) (h.t t)
  · intro j hj
    have := (hdom j).1 hj
    show j < D.os.length
    omega
end
end Go.Rx

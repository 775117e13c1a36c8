/- Rx, part 5: cells read as data hold these data. -/
import Derived.Test.YtlncjconodmjjaaDoorStep
namespace Go.Rx
set_option linter.unusedVariables false

theorem repL_append {D : Nat → Prop} {E : Env} {A : Nat → Prop} {w : World} : ∀ {l r : List AV} {vs : List Value}, RepL D E A w (l ++ r) vs ↔ ∃ a b, vs = a ++ b ∧ RepL D E A w l a ∧ RepL D E A w r b
  | [], r, vs => by
    simp only [RepL, List.nil_append]
    exact ⟨fun h => ⟨[], vs, rfl, rfl, h⟩, fun ⟨a, b, h1, h2, h3⟩ => by rw [h1, h2]; exact h3⟩
  | v :: l, r, vs => by
    simp only [List.cons_append, RepL]
    constructor
    · rintro ⟨x, t, rfl, h1, h2⟩
      obtain ⟨a, b, rfl, h3, h4⟩ := repL_append.1 h2
      exact ⟨x :: a, b, rfl, ⟨x, a, rfl, h1, h3⟩, h4⟩
    · rintro ⟨a, b, rfl, ⟨x, t, rfl, h1, h3⟩, h4⟩
      exact ⟨x, t ++ b, rfl, h1, repL_append.2 ⟨t, b, rfl, h3, h4⟩⟩
theorem repL_length {D : Nat → Prop} {E : Env} {A : Nat → Prop} {w : World} : ∀ {l : List AV} {vs : List Value}, RepL D E A w l vs → vs.length = l.length
  | [], _, h => by simp only [RepL] at h; subst h; rfl
  | _ :: _, _, h => by
    simp only [RepL] at h
    obtain ⟨_, _, rfl, _, h⟩ := h
    simp [repL_length h]
theorem repL_get {D : Nat → Prop} {E : Env} {A : Nat → Prop} {w : World} : ∀ {l : List AV} {vs : List Value} {i : Nat} {v : AV}, RepL D E A w l vs → l[i]? = some v → ∃ x, vs[i]? = some x ∧ RepV D E A w v x
  | [], _, i, v, _, h => by simp at h
  | u :: l, _, i, v, h, hv => by
    simp only [RepL] at h
    obtain ⟨x, t, rfl, h1, h2⟩ := h
    cases i with
    | zero => simp at hv; subst hv; exact ⟨x, rfl, h1⟩
    | succ i => simp at hv; simpa using repL_get h2 hv
theorem repL_take {D : Nat → Prop} {E : Env} {A : Nat → Prop} {w : World} {l : List AV} {vs : List Value} (n : Nat) (h : RepL D E A w l vs) : RepL D E A w (l.take n) (vs.take n) ∧ RepL D E A w (l.drop n) (vs.drop n) := by
  have e : l = l.take n ++ l.drop n := (List.take_append_drop n l).symm
  rw [e] at h
  obtain ⟨a, b, rfl, h1, h2⟩ := repL_append.1 h
  by_cases hn : n ≤ l.length
  · have hl : a.length = n := by rw [repL_length h1, List.length_take]; omega
    rw [← hl, List.take_left, List.drop_left, hl]
    exact ⟨h1, h2⟩
  · have h3 : l.drop n = [] := List.drop_eq_nil_of_le (by omega)
    rw [h3] at h2
    simp only [RepL] at h2
    subst h2
    have hl : a.length ≤ n := by rw [repL_length h1, List.length_take]; omega
    rw [List.append_nil, List.take_of_length_le hl, List.drop_eq_nil_of_le hl, h3]
    exact ⟨h1, by simp [RepL]⟩

theorem castL_rfl {e : Sh} (xs : List e.T) : castL rfl xs = xs := rfl
theorem castO_rfl {e : Sh} (xs : Option e.T) : castO rfl xs = xs := rfl
def FreeM (m : Nat) (id : Nat) : Obj → Prop
  | .grow en _ _ _ => en = false
  | .cells _ => m ≤ id
  | _ => True

section
variable {m : Nat} {S : AS} {E : Env} {A A' : Nat → Prop} {w : World}

theorem data_sound (hR : ∀ id o, S.obj id = some o → RepO (Dom S) E A w id o) (hA : ∀ b, A b → A' b) : ∀ (e : Sh) (l : List AV) (vs : List Value) (d : DC e),
    dataC m S.obj e l = some d → RepL (Dom S) E A w l vs →
    (∀ id o, id ∈ d.vis → S.obj id = some o → Owns E id o → (∀ e xs, o ≠ .arr e xs) → A' (E.β id)) →
    (∃ c r, vs = c ++ r ∧ RepL (Dom S) E A w d.rest r ∧ PC A' w e d.x c) := by
  have up : ∀ {s : Sh} {x : s.T} {cs : List Value}, PC A w s x cs → PC A' w s x cs := fun h => h.mono hA (fun _ _ _ _ q => q)
  intro e
  induction e with
  | int k =>
    intro l vs d h hl _
    cases l with
    | nil => cases h
    | cons v r =>
      cases v <;> first | (cases h; done) | skip
      rename_i k' n
      simp only [dataC] at h
      split at h
      · rename_i q _
        cases h
        simp only [RepL, RepV] at hl
        obtain ⟨x, t, rfl, rfl, h2⟩ := hl
        exact ⟨[_], t, rfl, h2, by rw [q]; rfl⟩
      · cases h
  | bool =>
    intro l vs d h hl _
    cases l with
    | nil => cases h
    | cons v r =>
      cases v <;> first | (cases h; done) | skip
      cases h
      simp only [RepL, RepV] at hl
      obtain ⟨x, t, rfl, rfl, h2⟩ := hl
      exact ⟨[_], t, rfl, h2, rfl⟩
  | str =>
    intro l vs d h hl _
    cases l with
    | nil => cases h
    | cons v r =>
      cases v <;> first | (cases h; done) | skip
      cases h
      simp only [RepL, RepV] at hl
      obtain ⟨x, t, rfl, rfl, h2⟩ := hl
      exact ⟨[_], t, rfl, h2, rfl⟩
  | unit =>
    intro l vs d h hl _
    have h' : some (⟨(), l, []⟩ : DC .unit) = some d := by
      cases l with
      | nil => exact h
      | cons v r => exact h
    cases h'
    exact ⟨[], vs, rfl, hl, rfl⟩
  | pair a b iha ihb =>
    intro l vs d h hl hv
    have h' : (match dataC m S.obj a l with
      | some d => match dataC m S.obj b d.rest with
        | some d' => some (⟨(d.x, d'.x), d'.rest, d.vis ++ d'.vis⟩ : DC (.pair a b))
        | none => none
      | none => none) = some d := by
      cases l with
      | nil => exact h
      | cons v r => exact h
    split at h'
    · rename_i d1 h1
      split at h'
      · rename_i d2 h2
        cases h'
        obtain ⟨c1, r1, rfl, hr1, p1⟩ := iha l vs d1 h1 hl (fun id o hi => hv id o (by simp [hi]))
        obtain ⟨c2, r2, rfl, hr2, p2⟩ := ihb _ _ d2 h2 hr1 (fun id o hi => hv id o (by simp [hi]))
        exact ⟨c1 ++ c2, r2, by rw [List.append_assoc], hr2, c1, c2, rfl, p1, p2⟩
      · cases h'
    · cases h'
  | st a iha =>
    intro l vs d h hl hv
    have h' : (match dataC m S.obj a l with | some d => some (⟨d.x, d.rest, d.vis⟩ : DC (.st a)) | none => none) = some d := by
      cases l with
      | nil => exact h
      | cons v r => exact h
    split at h'
    · rename_i d1 h1
      cases h'
      obtain ⟨c1, r1, rfl, hr1, p1⟩ := iha l vs d1 h1 hl hv
      exact ⟨c1, r1, rfl, hr1, p1⟩
    · cases h'
  | sl e ihe =>
    intro l vs d h hl hv
    cases l with
    | nil => cases h
    | cons v r =>
      cases v <;> first | (cases h; done) | skip
      case nilsl =>
        cases h
        simp only [RepL, RepV] at hl
        obtain ⟨x, t, rfl, rfl, h2⟩ := hl
        exact ⟨[_], t, rfl, h2, none, 0, rfl, Nat.le_refl _, fun q => absurd rfl q⟩
      case psl e' xs =>
        simp only [dataC] at h
        split at h
        · rename_i q _
          subst q
          cases h
          simp only [RepL, RepV] at hl
          obtain ⟨x, t, rfl, h1, h2⟩ := hl
          exact ⟨[x], t, rfl, h2, up h1⟩
        · cases h
      case own id =>
        simp only [RepL, RepV] at hl
        obtain ⟨x, t, rfl, ⟨_, rfl⟩, h2⟩ := hl
        simp only [dataC] at h
        split at h
        · rename_i e' et xs ho
          split at h
          · rename_i q _
            subst q
            cases h
            refine ⟨[_], t, rfl, h2, ?_⟩
            obtain ⟨_, hr⟩ := hR id _ ho
            rcases hr with ⟨h3, h4⟩ | ⟨cap, cur, cells, h3, h4, h5, h6, h7, h8, h9⟩
            · subst h4
              exact ⟨none, 0, by rw [h3]; rfl, Nat.le_refl _, fun q => absurd rfl q⟩
            · refine ⟨some ⟨E.β id, 0, none⟩, cap, by rw [h3]; rfl, h5, fun _ => ⟨_, rfl, rfl, hv id _ (by simp) ho (by simp only [Owns]; rw [h3]; simp) (by simp), cells, h8.imp (fun _ _ => up), ?_⟩⟩
              intro j v hj
              have : cur[j]? = some v := by
                rw [← h9, List.getElem?_take] at hj
                split at hj
                · simpa using hj
                · cases hj
              simp [World.cell?, h4, this]
          · cases h
        · rename_i e' xs ho
          split at h
          · rename_i q _
            subst q
            cases h
            obtain ⟨_, hr, _⟩ := hR id _ ho
            exact ⟨[_], t, rfl, h2, up hr⟩
          · cases h
        · cases h
  | ptr e ihe =>
    intro l vs d h hl hv
    cases l with
    | nil => cases h
    | cons v r =>
      cases v <;> first | (cases h; done) | skip
      case nilptr =>
        cases h
        simp only [RepL, RepV] at hl
        obtain ⟨x, t, rfl, rfl, h2⟩ := hl
        exact ⟨[_], t, rfl, h2, rfl⟩
      case ppt e' y =>
        simp only [dataC] at h
        split at h
        · rename_i q _
          subst q
          cases h
          simp only [RepL, RepV] at hl
          obtain ⟨x, t, rfl, h1, h2⟩ := hl
          exact ⟨[x], t, rfl, h2, up h1⟩
        · cases h
      case optr id off =>
        cases off with
        | succ n => cases h
        | zero =>
          simp only [RepL, RepV] at hl
          obtain ⟨x, t, rfl, ⟨_, rfl⟩, h2⟩ := hl
          simp only [dataC] at h
          split at h
          · rename_i cs hm ho
            split at h
            · rename_i x vis hd
              cases h
              obtain ⟨ws, et, h3, h4⟩ := hR id _ ho
              obtain ⟨c, r', e1, h5, h6⟩ := ihe cs ws _ hd h4 (fun id' o hi => hv id' o (by simp [hi]))
              simp only [RepL] at h5
              subst h5
              rw [List.append_nil] at e1
              subst e1
              refine ⟨[_], t, rfl, h2, ⟨E.β id, 0, none⟩, ws, rfl, rfl, hv id _ (by simp) ho trivial (by simp), h6, ?_⟩
              intro j v hj
              simp [World.cell?, h3, hj]
            · cases h
          · cases h
/-- What is looked at may be given up. -/
theorem data_free {m : Nat} {h : Nat → Option Obj} : ∀ (e : Sh) (l : List AV) (d : DC e), dataC m h e l = some d → ∀ id o, id ∈ d.vis → h id = some o → FreeM m id o := by
  intro e
  induction e with
  | int k =>
    intro l d q
    cases l with
    | nil => cases q
    | cons v r =>
      cases v <;> first | (cases q; done) | skip
      simp only [dataC] at q
      split at q <;> cases q
      intro id o hi; cases hi
  | bool =>
    intro l d q
    cases l with
    | nil => cases q
    | cons v r =>
      cases v <;> first | (cases q; done) | skip
      cases q
      intro id o hi; cases hi
  | str =>
    intro l d q
    cases l with
    | nil => cases q
    | cons v r =>
      cases v <;> first | (cases q; done) | skip
      cases q
      intro id o hi; cases hi
  | unit =>
    intro l d q
    have q' : some (⟨(), l, []⟩ : DC .unit) = some d := by
      cases l with
      | nil => exact q
      | cons v r => exact q
    cases q'
    intro id o hi; cases hi
  | pair a b iha ihb =>
    intro l d q
    have q' : (match dataC m h a l with
      | some d => match dataC m h b d.rest with
        | some d' => some (⟨(d.x, d'.x), d'.rest, d.vis ++ d'.vis⟩ : DC (.pair a b))
        | none => none
      | none => none) = some d := by
      cases l with
      | nil => exact q
      | cons v r => exact q
    split at q'
    · rename_i d1 h1
      split at q'
      · rename_i d2 h2
        cases q'
        intro id o hi ho
        rcases List.mem_append.1 hi with hi | hi
        · exact iha l d1 h1 id o hi ho
        · exact ihb _ d2 h2 id o hi ho
      · cases q'
    · cases q'
  | st a iha =>
    intro l d q
    have q' : (match dataC m h a l with | some d => some (⟨d.x, d.rest, d.vis⟩ : DC (.st a)) | none => none) = some d := by
      cases l with
      | nil => exact q
      | cons v r => exact q
    split at q'
    · rename_i d1 h1
      cases q'
      exact iha l d1 h1
    · cases q'
  | sl e ihe =>
    intro l d q
    cases l with
    | nil => cases q
    | cons v r =>
      cases v <;> first | (cases q; done) | skip
      case nilsl => cases q; intro id o hi; cases hi
      case psl e' xs =>
        simp only [dataC] at q
        split at q
        · cases q; intro id o hi; cases hi
        · cases q
      case own id0 =>
        simp only [dataC] at q
        split at q
        · rename_i e' et xs ho
          split at q
          · cases q
            intro id o hi hio
            simp at hi
            subst hi
            rw [ho] at hio
            cases hio
            rfl
          · cases q
        · rename_i e' xs ho
          split at q
          · cases q
            intro id o hi hio
            simp at hi
            subst hi
            rw [ho] at hio
            cases hio
            trivial
          · cases q
        · cases q
  | ptr e ihe =>
    intro l d q
    cases l with
    | nil => cases q
    | cons v r =>
      cases v <;> first | (cases q; done) | skip
      case nilptr => cases q; intro id o hi; cases hi
      case ppt e' y =>
        simp only [dataC] at q
        split at q
        · cases q; intro id o hi; cases hi
        · cases q
      case optr id0 off =>
        cases off with
        | succ n => cases q
        | zero =>
          simp only [dataC] at q
          split at q
          · rename_i cs hm ho
            split at q
            · rename_i x vis hd
              cases q
              intro id o hi hio
              rcases List.mem_cons.1 hi with hi | hi
              · subst hi
                rw [ho] at hio
                cases hio
                exact Nat.le_of_ble_eq_true hm
              · exact ihe cs _ hd id o hi hio
            · cases q
          · cases q
end
/-- The same is read where the same objects stand. -/
theorem data_agree {m : Nat} {h h' : Nat → Option Obj} : ∀ (e : Sh) (l : List AV) (d : DC e), dataC m h e l = some d → (∀ id, id ∈ d.vis → h' id = h id) → dataC m h' e l = some d := by
  intro e
  induction e with
  | int k =>
    intro l d q _
    cases l with
    | nil => cases q
    | cons v r => cases v <;> exact q
  | bool =>
    intro l d q _
    cases l with
    | nil => cases q
    | cons v r => cases v <;> exact q
  | str =>
    intro l d q _
    cases l with
    | nil => cases q
    | cons v r => cases v <;> exact q
  | unit => intro l d q _; cases l <;> exact q
  | pair a b iha ihb =>
    intro l d q hv
    have q' : (match dataC m h a l with
      | some d => match dataC m h b d.rest with
        | some d' => some (⟨(d.x, d'.x), d'.rest, d.vis ++ d'.vis⟩ : DC (.pair a b))
        | none => none
      | none => none) = some d := by
      cases l with
      | nil => exact q
      | cons v r => exact q
    have goal : (match dataC m h' a l with
      | some d => match dataC m h' b d.rest with
        | some d' => some (⟨(d.x, d'.x), d'.rest, d.vis ++ d'.vis⟩ : DC (.pair a b))
        | none => none
      | none => none) = some d := by
      split at q'
      · rename_i d1 h1
        split at q'
        · rename_i d2 h2
          cases q'
          rw [iha l d1 h1 (fun id hi => hv id (by simp [hi]))]
          simp only
          rw [ihb _ d2 h2 (fun id hi => hv id (by simp [hi]))]
        · cases q'
      · cases q'
    cases l with
    | nil => exact goal
    | cons v r => exact goal
  | st a iha =>
    intro l d q hv
    have q' : (match dataC m h a l with | some d => some (⟨d.x, d.rest, d.vis⟩ : DC (.st a)) | none => none) = some d := by
      cases l with
      | nil => exact q
      | cons v r => exact q
    have goal : (match dataC m h' a l with | some d => some (⟨d.x, d.rest, d.vis⟩ : DC (.st a)) | none => none) = some d := by
      split at q'
      · rename_i d1 h1
        cases q'
        rw [iha l d1 h1 hv]
      · cases q'
    cases l with
    | nil => exact goal
    | cons v r => exact goal
  | sl e ihe =>
    intro l d q hv
    cases l with
    | nil => cases q
    | cons v r =>
      cases v <;> first | exact q | (cases q; done) | skip
      case own id0 =>
        simp only [dataC] at q ⊢
        have hid : h' id0 = h id0 := by
          split at q
          · split at q <;> cases q
            exact hv _ (by simp)
          · split at q <;> cases q
            exact hv _ (by simp)
          · cases q
        rw [hid]
        exact q
  | ptr e ihe =>
    intro l d q hv
    cases l with
    | nil => cases q
    | cons v r =>
      cases v <;> first | exact q | (cases q; done) | skip
      case optr id0 off =>
        cases off with
        | succ n => cases q
        | zero =>
          simp only [dataC] at q ⊢
          split at q
          · rename_i cs hm ho
            split at q
            · rename_i x vis hd
              cases q
              rw [hm, hv id0 (by simp), ho]
              simp only
              rw [ihe cs _ hd (fun id hi => hv id (by simp [hi]))]
            · cases q
          · cases q
end Go.Rx

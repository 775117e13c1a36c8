/- Sets of numbers below 65536 as rising lists, as runs, as words, in plain Lean. -/
import Derived.Test.YtlncjconodmjjaaDoorMemT
namespace Go.Rx.Plain
set_option linter.unusedVariables false
set_option linter.unusedSimpArgs false
theorem may_snoc : ∀ {r : List Run} {m : Int} {q : Run}, mayF m (r ++ [q]) = true → wfR (r ++ [q]) → mayF m r = true ∧ (∀ p, p ∈ r → p.1 + p.2 + 2 ≤ q.1) ∧ m ≤ q.1 ∧ q.1 + q.2 < 65536
  | [], m, q, h, _ => by
    obtain ⟨h1, h2, _⟩ := mayF_cons.1 h
    exact ⟨rfl, fun p hp => (nomatch hp), h1, h2⟩
  | p :: t, m, q, h, hw => by
    obtain ⟨h1, h2, h3⟩ := mayF_cons.1 h
    have hp := wfR_head hw
    obtain ⟨i1, i2, i3, i4⟩ := may_snoc h3 (wfR_tail hw)
    refine ⟨mayF_cons.2 ⟨h1, h2, i1⟩, fun p' hp' => ?_, by omega, i4⟩
    rcases List.mem_cons.1 hp' with e | e
    · subst e; exact i3
    · exact i2 p' e
theorem listR_append : ∀ (r s : List Run), listR (r ++ s) = listR r ++ listR s
  | [], s => rfl
  | p :: t, s => by simp [listR, listR_append t s]
theorem listR_one (p : Run) : listR [p] = (List.range (p.2 + 1).toNat).map fun (j : Nat) => p.1 + (j : Int) := by simp [listR]
theorem listR_more {p : Run} (h : 0 ≤ p.2) : listR [(p.1, p.2 + 1)] = listR [p] ++ [p.1 + p.2 + 1] := by
  rw [listR_one, listR_one]
  have e : (p.2 + 1 + 1).toNat = (p.2 + 1).toNat + 1 := by omega
  show (List.range (p.2 + 1 + 1).toNat).map _ = _
  rw [e, List.range_succ, List.map_append]
  simp
  omega
theorem hasB_listR {x : Int} : ∀ {r : List Run}, wfR r → (hasB r x = true ↔ x ∈ listR r)
  | [], _ => by simp [hasB_nil, listR]
  | p :: t, h => by
    have hp := wfR_head h
    have ih := hasB_listR (x := x) (wfR_tail h)
    rw [hasB_cons, listR, List.mem_append, Bool.or_eq_true, ih]
    apply or_congr_left
    simp only [Bool.and_eq_true, decide_eq_true_eq, List.mem_map, List.mem_range]
    constructor
    · intro ⟨h1, h2⟩
      exact ⟨(x - p.1).toNat, by omega, by omega⟩
    · rintro ⟨j, h1, rfl⟩
      omega
/-- Rising, from m on, below 65536. -/
def ris : Int → List Int → Prop
  | _, [] => True
  | m, a :: t => m ≤ a ∧ a < 65536 ∧ ris (a + 1) t
theorem ris_mono : ∀ {l : List Int} {m n : Int}, ris m l → n ≤ m → ris n l
  | [], _, _, _, _ => trivial
  | a :: t, m, n, ⟨h1, h2, h3⟩, h => ⟨by omega, h2, h3⟩
theorem ris_low : ∀ {l : List Int} {m x : Int}, ris m l → x ∈ l → m ≤ x ∧ x < 65536
  | a :: t, m, x, ⟨h1, h2, h3⟩, h => by
    rcases List.mem_cons.1 h with e | e
    · subst e; exact ⟨h1, h2⟩
    · have := ris_low h3 e
      omega
/-- A rising list is what it says, number by number. -/
theorem ris_mem : ∀ {l : List Int} {m : Int}, ris m l → m ≤ 65536 → l = memI (fun x => decide (x ∈ l)) m (65536 - m).toNat
  | [], m, _, _ => by rw [memI_none fun x _ _ => by simp]
  | a :: t, m, ⟨h1, h2, h3⟩, hm => by
    have ih := ris_mem h3 (by omega)
    have lo : ∀ x, x ∈ t → a + 1 ≤ x := fun x hx => (ris_low h3 hx).1
    have e : (65536 - m).toNat = (a - m).toNat + (1 + (65536 - (a + 1)).toNat) := by omega
    rw [e, memI_split, memI_split, show m + ((a - m).toNat : Int) = a by omega, show a + ((1 : Nat) : Int) = a + 1 by omega]
    rw [memI_none (n := (a - m).toNat) fun x q1 q2 => by
      have : ¬ x ∈ t := fun h => by have := lo x h; omega
      have h2 : ¬ x = a := by omega
      simp [this, h2]]
    rw [memI_all (a := a) fun x q1 q2 => by
      have : x = a := by omega
      simp [this]]
    rw [memI_congr (g := fun x => decide (x ∈ t)) fun x q1 q2 => by
      have : ¬ x = a := by omega
      simp [this], ← ih]
    simp [List.range_succ]
theorem ris_listR : ∀ {r : List Run} {m : Int}, mayF m r = true → wfR r → ris m (listR r) := by
  intro r m h hw
  have key : ∀ (n : Nat) (a b : Int) (t : List Int), a ≤ b → b + (n : Int) ≤ 65536 → ris (b + (n : Int)) t → ris a (((List.range n).map fun (j : Nat) => b + (j : Int)) ++ t) := by
    intro n
    induction n with
    | zero => intro a b t h1 h2 h3; simpa using ris_mono h3 (by omega)
    | succ n ih =>
      intro a b t h1 h2 h3
      rw [List.range_succ_eq_map, List.map_cons, List.map_map, List.cons_append]
      refine ⟨by simpa using h1, by simp; omega, ?_⟩
      have := ih (b + 1) (b + 1) t (Int.le_refl _) (by omega) (by rw [show b + 1 + (n : Int) = b + ((n + 1 : Nat) : Int) by omega]; exact h3)
      have e : ((fun (j : Nat) => b + (j : Int)) ∘ Nat.succ) = fun (j : Nat) => b + 1 + (j : Int) := by
        funext j
        simp
        omega
      rw [e]
      simpa using this
  induction r generalizing m with
  | nil => trivial
  | cons p t ih =>
    obtain ⟨h1, h2, h3⟩ := mayF_cons.1 h
    have hp := wfR_head hw
    refine key _ m p.1 _ h1 (by omega) ?_
    exact ris_mono (ih h3 (wfR_tail hw)) (by omega)
/-- What runs.Of has made of the numbers so far. -/
structure OfInv (r : List Run) (pre : List Int) : Prop where
  l : listR r = pre
  may : mayF 0 r = true
  wf : wfR r
theorem of_new {r : List Run} {pre : List Int} {x : Int} (h : OfInv r pre) (hx : 0 ≤ x ∧ x < 65536) (hl : ∀ y, y ∈ pre → y + 2 ≤ x) : OfInv (r ++ [(x, 0)]) (pre ++ [x]) := by
  refine ⟨by rw [listR_append, h.l, listR_one]; simp [List.range_succ], may_append h.may (fun p hp => ?_) hx.1 (by show x + 0 < 65536; omega), fun q hq => ?_⟩
  · have hw := h.wf p hp
    have : hasB r (p.1 + p.2) = true := by
      unfold hasB
      rw [List.any_eq_true]
      exact ⟨p, hp, by simp; omega⟩
    have := (hasB_listR h.wf).1 this
    rw [h.l] at this
    exact hl _ this
  · rcases List.mem_append.1 hq with e | e
    · exact h.wf q e
    · simp at e
      subst e
      exact ⟨hx.1, hx.2, by show (0 : Int) ≤ 0; omega, by show (0 : Int) < 65536; omega⟩
theorem of_more {r : List Run} {pre : List Int} {p : Run} (h : OfInv (r ++ [p]) pre) (hx : p.1 + p.2 + 1 < 65536) : OfInv (r ++ [(p.1, p.2 + 1)]) (pre ++ [p.1 + p.2 + 1]) := by
  obtain ⟨h1, h2, h3, h4⟩ := may_snoc h.may h.wf
  have hp := h.wf p (by simp)
  refine ⟨?_, may_append h1 h2 h3 (by show p.1 + (p.2 + 1) < 65536; omega), fun q hq => ?_⟩
  · rw [listR_append, listR_more hp.2.2.1, ← List.append_assoc, ← listR_append, h.l]
  · rcases List.mem_append.1 hq with e | e
    · exact h.wf q (by simp [e])
    · simp at e
      subst e
      exact ⟨hp.1, hp.2.1, by show (0 : Int) ≤ p.2 + 1; omega, by show p.2 + 1 < 65536; omega⟩
theorem of_last {r : List Run} {pre : List Int} {x : Int} (h : OfInv r (pre ++ [x])) (hr : ris 0 (pre ++ [x])) : ∃ r' p, r = r' ++ [p] ∧ p.1 + p.2 = x := by
  rcases List.eq_nil_or_concat r with e | ⟨r', p, e⟩
  · have := h.l
    rw [e] at this
    simp [listR] at this
  · rw [List.concat_eq_append] at e
    subst e
    have hp := h.wf p (by simp)
    have hl := h.l
    rw [listR_append, listR_one, show (p.2 + 1).toNat = p.2.toNat + 1 by omega, List.range_succ, List.map_append, ← List.append_assoc] at hl
    have := (List.append_inj' hl rfl).2
    simp at this
    exact ⟨r', p, rfl, by omega⟩
end Go.Rx.Plain

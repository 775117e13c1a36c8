/- Containers, part 1: rising lists: right ones, found, as runs, how many runs; marks. -/
import Derived.Test.YtlncjconodmjjaaDoorWordsL3
import Derived.Test.YtlncjconodmjjaaDoorSetsT
namespace Go.Rx.Tryd
open Go.Rx.Plain Go.IntWalk
set_option linter.unusedVariables false
set_option linter.unusedSimpArgs false
theorem clone16_eq {k : Nat} {r : List Int} (h : r.length < 1000000) : slices_Clone_uint16 k r = some r := by
  cases r with
  | nil => rfl
  | cons x l =>
    have g1 : decide ((0 + (x :: l).length) * 2 ≤ 140737488355328) = true := by simp at h ⊢; omega
    have g2 : decide (0 + (x :: l).length ≤ 140737488355328) = true := by simp at h ⊢; omega
    simp only [slices_Clone_uint16, List.length_nil, g1, g2, cond_true, List.nil_append]
theorem clone64_eq {k : Nat} {r : List Int} (h : r.length < 1000000) : slices_Clone_uint64 k r = some r := by
  cases r with
  | nil => rfl
  | cons x l =>
    have g1 : decide ((0 + (x :: l).length) * 8 ≤ 140737488355328) = true := by simp at h ⊢; omega
    have g2 : decide (0 + (x :: l).length ≤ 140737488355328) = true := by simp at h ⊢; omega
    simp only [slices_Clone_uint64, List.length_nil, g1, g2, cond_true, List.nil_append]
theorem ris_drop : ∀ {l : List Int} {m : Int} (i : Nat), ris m l → ∃ n, m ≤ n ∧ ris n (l.drop i)
  | l, m, 0, h => ⟨m, Int.le_refl _, h⟩
  | [], m, i + 1, _ => ⟨m, Int.le_refl _, trivial⟩
  | a :: t, m, i + 1, ⟨h1, h2, h3⟩ => by
    obtain ⟨n, g1, g2⟩ := ris_drop i h3
    exact ⟨n, by omega, g2⟩
theorem ris_lt {l : List Int} {m : Int} (h : ris m l) : ∀ (i j : Nat) (x y : Int), i < j → l[i]? = some x → l[j]? = some y → x < y := by
  intro i
  induction l generalizing m with
  | nil => intro j x y _ h _; simp at h
  | cons a t ih =>
    intro j x y hij hx hy
    obtain ⟨h1, h2, h3⟩ := h
    obtain ⟨j, rfl⟩ : ∃ j', j = j' + 1 := ⟨j - 1, by omega⟩
    rw [List.getElem?_cons_succ] at hy
    cases i with
    | zero =>
      simp at hx
      subst hx
      have := (ris_low h3 (List.mem_of_getElem? hy)).1
      omega
    | succ i =>
      rw [List.getElem?_cons_succ] at hx
      have key : ∀ {s : List Int} {m : Int}, ris m s → ∀ (i j : Nat) (x y : Int), i < j → s[i]? = some x → s[j]? = some y → x < y := by
        intro s
        induction s with
        | nil => intro m _ i j x y _ h _; simp at h
        | cons b u ih2 =>
          intro m h i j x y hij hx hy
          obtain ⟨g1, g2, g3⟩ := h
          obtain ⟨j, rfl⟩ : ∃ j', j = j' + 1 := ⟨j - 1, by omega⟩
          rw [List.getElem?_cons_succ] at hy
          cases i with
          | zero =>
            simp at hx
            subst hx
            have := (ris_low g3 (List.mem_of_getElem? hy)).1
            omega
          | succ i =>
            rw [List.getElem?_cons_succ] at hx
            exact ih2 g3 i j x y (by omega) hx hy
      exact key h3 i j x y (by omega) hx hy
theorem ris_len {l : List Int} (h : ris 0 l) : l.length ≤ 65536 := by
  rw [ris_mem h (by omega)]
  unfold memI
  rw [List.length_map]
  refine Nat.le_trans (List.length_filter_le _ _) ?_
  rw [List.length_range]
  omega
theorem getD_some0 {l : List Int} {i : Nat} (h : i < l.length) : l[i]? = some (l.getD i 0) := by simp [List.getD, h]
theorem AMay_l0_eq {a : List Int} (h : ris 0 a) : ∀ (d k i : Nat), a.length - i ≤ d → d + 1 ≤ k → 1 ≤ i → i ≤ a.length + 1 → arrays_May_l0 k a (i : Int) = some (.inr ())
  | d, 0, i, _, hk, _, _ => by omega
  | d, k + 1, i, hd, hk, h1, h2 => by
    have hl := ris_len h
    rw [arrays_May_l0]
    by_cases c : (i : Int) < (a.length : Int)
    · have e1 : IntKind.wrap .i64 ((i : Int) - 1) = ((i - 1 : Nat) : Int) := by rw [i64_in _ ⟨by omega, by omega⟩]; omega
      have e2 : IntKind.wrap .i64 ((i : Int) + 1) = ((i + 1 : Nat) : Int) := by rw [i64_in _ ⟨by omega, by omega⟩]; omega
      have c0 : (0 : Int) ≤ ((i - 1 : Nat) : Int) := by omega
      have c1 : ((i - 1 : Nat) : Int) < (a.length : Int) := by omega
      have c2 : (0 : Int) ≤ (i : Int) := by omega
      have hlt := ris_lt h (i - 1) i _ _ (by omega) (getD_some0 (by omega)) (getD_some0 (by omega))
      have c3 : ¬ a.getD i 0 ≤ a.getD (i - 1) 0 := by omega
      simp only [c, e1, c0, c1, c2, decide_true, cond_true, Int.toNat_natCast, c3, decide_false, cond_false, e2]
      exact AMay_l0_eq h (d - 1) k (i + 1) (by omega) (by omega) (by omega) (by omega)
    · simp only [c, decide_false, cond_false]
theorem AMay_eq {a : List Int} {k : Nat} (h : ris 0 a) (hk : a.length + 1 ≤ k) : arrays_May k a = some true := by
  unfold arrays_May
  rw [show arrays_May_l0 k a 1 = arrays_May_l0 k a ((1 : Nat) : Int) from rfl, AMay_l0_eq h a.length k 1 (by omega) (by omega) (by omega) (by omega)]
  rfl
/-! ### Found, or not -/
theorem abs_l0_eq {r : List Int} {x : Int} (hm : ris 0 r) (n : Int) : ∀ (d k i j : Nat), j - i ≤ d → d + 1 ≤ k → i ≤ j → j ≤ r.length → (∀ t p, t < i → r[t]? = some p → p < x) → (∀ t p, j ≤ t → r[t]? = some p → x ≤ p) →
    ∃ i' : Nat, slices_BinarySearch_uint16_l0 k r x n i j = some (r, x, n, (i' : Int)) ∧ i' ≤ r.length ∧ (∀ t p, t < i' → r[t]? = some p → p < x) ∧ (∀ t p, i' ≤ t → r[t]? = some p → x ≤ p)
  | d, 0, i, j, h1, h2, h3, h4, h5, h6 => by omega
  | d, k + 1, i, j, h1, h2, h3, h4, h5, h6 => by
    have hb := ris_len hm
    rw [slices_BinarySearch_uint16_l0]
    by_cases c : i < j
    · have c1 : ((i : Int) < (j : Int)) := by omega
      have e := half i j (by omega)
      have l1 : i ≤ (i + j) / 2 := by omega
      have l2 : (i + j) / 2 < j := by omega
      generalize (i + j) / 2 = hf at e l1 l2
      simp only [c1, decide_true, cond_true]
      rw [e]
      have c2 : (0 : Int) ≤ (hf : Int) := by omega
      have c3 : (hf : Int) < (r.length : Int) := by omega
      have hg := getD_some0 (l := r) (i := hf) (by omega)
      simp only [c2, c3, decide_true, cond_true, Int.toNat_natCast]
      generalize r.getD hf 0 = p at hg ⊢
      have hl : cmp_Less_uint16 k p x = some (decide (p < x)) := by
        unfold cmp_Less_uint16 cmp_isNaN_uint16
        simp
      rw [hl]
      simp only [Option.bind_some]
      have e2 : IntKind.wrap .i64 ((hf : Int) + 1) = ((hf + 1 : Nat) : Int) := by rw [i64_in _ ⟨by omega, by omega⟩]; omega
      rw [e2]
      by_cases q : p < x
      · simp only [q, decide_true, cond_true]
        exact abs_l0_eq hm n (d - 1) k (hf + 1) j (by omega) (by omega) (by omega) h4 (fun t p' ht hp' => by
          by_cases ht2 : t = hf
          · subst ht2
            rw [hg] at hp'
            cases hp'
            omega
          · have := ris_lt hm t hf p' p (by omega) hp' hg
            omega) h6
      · simp only [q, decide_false, cond_false]
        exact abs_l0_eq hm n (d - 1) k i hf (by omega) (by omega) l1 (by omega) h5 (fun t p' ht hp' => by
          by_cases ht2 : t = hf
          · subst ht2
            rw [hg] at hp'
            cases hp'
            omega
          · have := ris_lt hm hf t p p' (by omega) hg hp'
            omega)
    · have c1 : ¬ ((i : Int) < (j : Int)) := by omega
      have : i = j := by omega
      subst this
      exact ⟨i, by simp only [c1, decide_false, cond_false], h4, h5, h6⟩
/-- Where it stands, or would, and whether it is there. -/
theorem Find_eq {r : List Int} {k : Nat} {x : Int} (hm : ris 0 r) (hk : r.length + 1 ≤ k) : ∃ i : Nat, arrays_Find k r x = some ((i : Int), decide (x ∈ r)) ∧ i ≤ r.length ∧ (∀ t p, t < i → r[t]? = some p → p < x) ∧ (∀ t p, i ≤ t → r[t]? = some p → x ≤ p) := by
  obtain ⟨i, e, h1, h2, h3⟩ := abs_l0_eq (x := x) hm (r.length : Int) r.length k 0 r.length (by omega) hk (by omega) (by omega) (fun t p ht _ => by omega) (fun t p ht hp => by
    have := (List.getElem?_eq_some_iff.1 hp).1
    omega)
  refine ⟨i, ?_, h1, h2, h3⟩
  unfold arrays_Find slices_BinarySearch_uint16
  have e' : slices_BinarySearch_uint16_l0 k r x (r.length : Int) 0 (r.length : Int) = some (r, x, (r.length : Int), (i : Int)) := e
  rw [e']
  simp only [Option.bind_some]
  by_cases c : (i : Int) < (r.length : Int)
  · have c0 : (0 : Int) ≤ (i : Int) := by omega
    have hg := getD_some0 (l := r) (i := i) (by omega)
    simp only [c, c0, decide_true, cond_true, Int.toNat_natCast]
    by_cases q : r.getD i 0 = x
    · have hx : x ∈ r := by
        rw [← q]
        exact List.mem_of_getElem? hg
      simp only [q, decide_true, cond_true, Option.bind_some, hx]
    · have hx : ¬ x ∈ r := by
        intro h
        obtain ⟨t, ht⟩ := List.getElem?_of_mem h
        by_cases c2 : t < i
        · have := h2 t x c2 ht; omega
        · by_cases c3 : t = i
          · subst c3
            rw [hg] at ht
            exact q (Option.some.inj ht)
          · have := ris_lt hm i t _ x (by omega) hg ht
            have := h3 i _ (Nat.le_refl _) hg
            omega
      simp only [q, decide_false, cond_false, slices_isNaN_uint16, decide_true, Bool.not_true, Option.bind_some, hx]
  · have : ¬ x ∈ r := by
      intro h
      obtain ⟨t, ht⟩ := List.getElem?_of_mem h
      have hl := (List.getElem?_eq_some_iff.1 ht).1
      have := h2 t x (by omega) ht
      omega
    simp [c, this]
/-! ### As runs -/
theorem take_snoc {a : List Int} {i : Nat} {x : Int} {s : List Int} (h : a.drop i = x :: s) : a.take (i + 1) = a.take i ++ [x] := by
  have hi : i < a.length := (drop_cons h 0).1
  rw [List.take_add_one]
  have : a[i]? = some x := by
    have := (drop_cons h 0).2.1
    rw [List.getElem?_eq_getElem hi]
    simp [List.getD, hi] at this
    simpa using this
  rw [this]
  rfl
theorem ofstep {a : List Int} (hr : ris 0 a) {i : Nat} {x : Int} {s : List Int} (h : a.drop i = x :: s) {r : List Run} (hi : OfInv r (a.take i)) :
    (0 < i → x = a.getD (i - 1) 0 + 1 → ∃ r' p, r = r' ++ [p] ∧ p.2 + 1 < 65536 ∧ OfInv (r' ++ [(p.1, p.2 + 1)]) (a.take (i + 1))) ∧
    ((i = 0 ∨ x ≠ a.getD (i - 1) 0 + 1) → OfInv (r ++ [(x, 0)]) (a.take (i + 1))) := by
  obtain ⟨h1, h2, h3⟩ := drop_cons h 0
  have hx : a[i]? = some x := by rw [getD_some0 h1, h2]
  have hx0 := ris_low hr (List.mem_of_getElem? hx)
  have hs := take_snoc h
  refine ⟨fun h0 he => ?_, fun h0 => ?_⟩
  · have hp : a.take i = a.take (i - 1) ++ [a.getD (i - 1) 0] := by
      obtain ⟨i, rfl⟩ : ∃ i', i = i' + 1 := ⟨i - 1, by omega⟩
      rw [List.take_add_one, getD_some0 (l := a) (i := i) (by omega)]
      simp
    have hrt : ris 0 (a.take i) := by
      rw [← hi.l]
      exact ris_listR hi.may hi.wf
    rw [hp] at hi hrt
    obtain ⟨r', p, e1, e2⟩ := of_last hi hrt
    subst e1
    refine ⟨r', p, rfl, ?_, ?_⟩
    · have := (hi.wf p (by simp))
      omega
    · rw [hs, hp]
      have h4 := of_more hi (by omega)
      rw [show x = p.1 + p.2 + 1 by omega]
      exact h4
  · rw [hs]
    refine of_new hi hx0 fun y hy => ?_
    obtain ⟨t, ht⟩ := List.getElem?_of_mem hy
    rw [List.getElem?_take] at ht
    split at ht
    · rename_i c
      have hlt := ris_lt hr t i y x c ht hx
      have hl := getD_some0 (l := a) (i := i - 1) (by omega)
      have hne : x ≠ a.getD (i - 1) 0 + 1 := by
        rcases h0 with h0 | h0
        · omega
        · exact h0
      have hlast := ris_lt hr (i - 1) i _ x (by omega) hl hx
      by_cases c2 : t = i - 1
      · subst c2
        rw [hl] at ht
        cases ht
        omega
      · have := ris_lt hr t (i - 1) y _ (by omega) ht hl
        omega
    · cases ht
end Go.Rx.Tryd

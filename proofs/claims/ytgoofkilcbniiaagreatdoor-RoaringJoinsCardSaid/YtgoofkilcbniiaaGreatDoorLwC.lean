/- LwC: texts of one kind, laid side by side. -/
import Derived.Test.YtgoofkilcbniiaaGreatDoorLwB
import Derived.Test.YtgoofkilcbniiaaGreatDoorLwA
/-! Containers, part 1: rising lists: right ones, found, as runs, how many runs; marks. -/
namespace Go.Rx.Tryz
open Go.Rx.Plain Go.IntWalk
set_option linter.unusedVariables false
set_option linter.unusedSimpArgs false
theorem clone16_eq {k : Nat} {r : List Int} (h : r.length < 1000000) : slices_Clone_uint16 k r = some r := by
  cases r with
  | nil => rfl
  | cons x l =>
    have g1 : decide ((0 + (x :: l).length) * 2 ≤ 140737488355328) = true := by simp at h ⊢; omega
    have g2 : decide (0 + (x :: l).length ≤ 140737488355328) = true := by simp at h ⊢; omega
    simp only [slices_Clone_uint16, List.length_nil, g1, g2, cond_true, List.nil_append]
theorem clone64_eq {k : Nat} {r : List Int} (h : r.length < 1000000) : slices_Clone_uint64 k r = some r := by
  cases r with
  | nil => rfl
  | cons x l =>
    have g1 : decide ((0 + (x :: l).length) * 8 ≤ 140737488355328) = true := by simp at h ⊢; omega
    have g2 : decide (0 + (x :: l).length ≤ 140737488355328) = true := by simp at h ⊢; omega
    simp only [slices_Clone_uint64, List.length_nil, g1, g2, cond_true, List.nil_append]
theorem ris_drop : ∀ {l : List Int} {m : Int} (i : Nat), ris m l → ∃ n, m ≤ n ∧ ris n (l.drop i)
  | l, m, 0, h => ⟨m, Int.le_refl _, h⟩
  | [], m, i + 1, _ => ⟨m, Int.le_refl _, trivial⟩
  | a :: t, m, i + 1, ⟨h1, h2, h3⟩ => by
    obtain ⟨n, g1, g2⟩ := ris_drop i h3
    exact ⟨n, by omega, g2⟩
theorem ris_lt {l : List Int} {m : Int} (h : ris m l) : ∀ (i j : Nat) (x y : Int), i < j → l[i]? = some x → l[j]? = some y → x < y := by
  intro i
  induction l generalizing m with
  | nil => intro j x y _ h _; simp at h
  | cons a t ih =>
    intro j x y hij hx hy
    obtain ⟨h1, h2, h3⟩ := h
    obtain ⟨j, rfl⟩ : ∃ j', j = j' + 1 := ⟨j - 1, by omega⟩
    rw [List.getElem?_cons_succ] at hy
    cases i with
    | zero =>
      simp at hx
      subst hx
      have := (ris_low h3 (List.mem_of_getElem? hy)).1
      omega
    | succ i =>
      rw [List.getElem?_cons_succ] at hx
      have key : ∀ {s : List Int} {m : Int}, ris m s → ∀ (i j : Nat) (x y : Int), i < j → s[i]? = some x → s[j]? = some y → x < y := by
        intro s
        induction s with
        | nil => intro m _ i j x y _ h _; simp at h
        | cons b u ih2 =>
          intro m h i j x y hij hx hy
          obtain ⟨g1, g2, g3⟩ := h
          obtain ⟨j, rfl⟩ : ∃ j', j = j' + 1 := ⟨j - 1, by omega⟩
          rw [List.getElem?_cons_succ] at hy
          cases i with
          | zero =>
            simp at hx
            subst hx
            have := (ris_low g3 (List.mem_of_getElem? hy)).1
            omega
          | succ i =>
            rw [List.getElem?_cons_succ] at hx
            exact ih2 g3 i j x y (by omega) hx hy
      exact key h3 i j x y (by omega) hx hy
theorem ris_len {l : List Int} (h : ris 0 l) : l.length ≤ 65536 := by
  rw [ris_mem h (by omega)]
  unfold memI
  rw [List.length_map]
  refine Nat.le_trans (List.length_filter_le _ _) ?_
  rw [List.length_range]
  omega
theorem getD_some0 {l : List Int} {i : Nat} (h : i < l.length) : l[i]? = some (l.getD i 0) := by simp [List.getD, h]
theorem AMay_l0_eq {a : List Int} (h : ris 0 a) : ∀ (d k i : Nat), a.length - i ≤ d → d + 1 ≤ k → 1 ≤ i → i ≤ a.length + 1 → arrays_May_l0 k a (i : Int) = some (.inr ())
  | d, 0, i, _, hk, _, _ => by omega
  | d, k + 1, i, hd, hk, h1, h2 => by
    have hl := ris_len h
    rw [arrays_May_l0]
    by_cases c : (i : Int) < (a.length : Int)
    · have e1 : IntKind.wrap .i64 ((i : Int) - 1) = ((i - 1 : Nat) : Int) := by rw [i64_in _ ⟨by omega, by omega⟩]; omega
      have e2 : IntKind.wrap .i64 ((i : Int) + 1) = ((i + 1 : Nat) : Int) := by rw [i64_in _ ⟨by omega, by omega⟩]; omega
      have c0 : (0 : Int) ≤ ((i - 1 : Nat) : Int) := by omega
      have c1 : ((i - 1 : Nat) : Int) < (a.length : Int) := by omega
      have c2 : (0 : Int) ≤ (i : Int) := by omega
      have hlt := ris_lt h (i - 1) i _ _ (by omega) (getD_some0 (by omega)) (getD_some0 (by omega))
      have c3 : ¬ a.getD i 0 ≤ a.getD (i - 1) 0 := by omega
      simp only [c, e1, c0, c1, c2, decide_true, cond_true, Int.toNat_natCast, c3, decide_false, cond_false, e2]
      exact AMay_l0_eq h (d - 1) k (i + 1) (by omega) (by omega) (by omega) (by omega)
    · simp only [c, decide_false, cond_false]
theorem AMay_eq {a : List Int} {k : Nat} (h : ris 0 a) (hk : a.length + 1 ≤ k) : arrays_May k a = some true := by
  unfold arrays_May
  rw [show arrays_May_l0 k a 1 = arrays_May_l0 k a ((1 : Nat) : Int) from rfl, AMay_l0_eq h a.length k 1 (by omega) (by omega) (by omega) (by omega)]
  rfl
/-! ### Found, or not -/
theorem abs_l0_eq {r : List Int} {x : Int} (hm : ris 0 r) (n : Int) : ∀ (d k i j : Nat), j - i ≤ d → d + 1 ≤ k → i ≤ j → j ≤ r.length → (∀ t p, t < i → r[t]? = some p → p < x) → (∀ t p, j ≤ t → r[t]? = some p → x ≤ p) →
    ∃ i' : Nat, slices_BinarySearch_uint16_l0 k r x n i j = some (r, x, n, (i' : Int)) ∧ i' ≤ r.length ∧ (∀ t p, t < i' → r[t]? = some p → p < x) ∧ (∀ t p, i' ≤ t → r[t]? = some p → x ≤ p)
  | d, 0, i, j, h1, h2, h3, h4, h5, h6 => by omega
  | d, k + 1, i, j, h1, h2, h3, h4, h5, h6 => by
    have hb := ris_len hm
    rw [slices_BinarySearch_uint16_l0]
    by_cases c : i < j
    · have c1 : ((i : Int) < (j : Int)) := by omega
      have e := half i j (by omega)
      have l1 : i ≤ (i + j) / 2 := by omega
      have l2 : (i + j) / 2 < j := by omega
      generalize (i + j) / 2 = hf at e l1 l2
      simp only [c1, decide_true, cond_true]
      rw [e]
      have c2 : (0 : Int) ≤ (hf : Int) := by omega
      have c3 : (hf : Int) < (r.length : Int) := by omega
      have hg := getD_some0 (l := r) (i := hf) (by omega)
      simp only [c2, c3, decide_true, cond_true, Int.toNat_natCast]
      generalize r.getD hf 0 = p at hg ⊢
      have hl : cmp_Less_uint16 k p x = some (decide (p < x)) := by
        unfold cmp_Less_uint16 cmp_isNaN_uint16
        simp
      rw [hl]
      simp only [Option.bind_some]
      have e2 : IntKind.wrap .i64 ((hf : Int) + 1) = ((hf + 1 : Nat) : Int) := by rw [i64_in _ ⟨by omega, by omega⟩]; omega
      rw [e2]
      by_cases q : p < x
      · simp only [q, decide_true, cond_true]
        exact abs_l0_eq hm n (d - 1) k (hf + 1) j (by omega) (by omega) (by omega) h4 (fun t p' ht hp' => by
          by_cases ht2 : t = hf
          · subst ht2
            rw [hg] at hp'
            cases hp'
            omega
          · have := ris_lt hm t hf p' p (by omega) hp' hg
            omega) h6
      · simp only [q, decide_false, cond_false]
        exact abs_l0_eq hm n (d - 1) k i hf (by omega) (by omega) l1 (by omega) h5 (fun t p' ht hp' => by
          by_cases ht2 : t = hf
          · subst ht2
            rw [hg] at hp'
            cases hp'
            omega
          · have := ris_lt hm hf t p p' (by omega) hg hp'
            omega)
    · have c1 : ¬ ((i : Int) < (j : Int)) := by omega
      have : i = j := by omega
      subst this
      exact ⟨i, by simp only [c1, decide_false, cond_false], h4, h5, h6⟩
/-- Where it stands, or would, and whether it is there. -/
theorem Find_eq {r : List Int} {k : Nat} {x : Int} (hm : ris 0 r) (hk : r.length + 1 ≤ k) : ∃ i : Nat, arrays_Find k r x = some ((i : Int), decide (x ∈ r)) ∧ i ≤ r.length ∧ (∀ t p, t < i → r[t]? = some p → p < x) ∧ (∀ t p, i ≤ t → r[t]? = some p → x ≤ p) := by
  obtain ⟨i, e, h1, h2, h3⟩ := abs_l0_eq (x := x) hm (r.length : Int) r.length k 0 r.length (by omega) hk (by omega) (by omega) (fun t p ht _ => by omega) (fun t p ht hp => by
    have := (List.getElem?_eq_some_iff.1 hp).1
    omega)
  refine ⟨i, ?_, h1, h2, h3⟩
  unfold arrays_Find slices_BinarySearch_uint16
  have e' : slices_BinarySearch_uint16_l0 k r x (r.length : Int) 0 (r.length : Int) = some (r, x, (r.length : Int), (i : Int)) := e
  rw [e']
  simp only [Option.bind_some]
  by_cases c : (i : Int) < (r.length : Int)
  · have c0 : (0 : Int) ≤ (i : Int) := by omega
    have hg := getD_some0 (l := r) (i := i) (by omega)
    simp only [c, c0, decide_true, cond_true, Int.toNat_natCast]
    by_cases q : r.getD i 0 = x
    · have hx : x ∈ r := by
        rw [← q]
        exact List.mem_of_getElem? hg
      simp only [q, decide_true, cond_true, Option.bind_some, hx]
    · have hx : ¬ x ∈ r := by
        intro h
        obtain ⟨t, ht⟩ := List.getElem?_of_mem h
        by_cases c2 : t < i
        · have := h2 t x c2 ht; omega
        · by_cases c3 : t = i
          · subst c3
            rw [hg] at ht
            exact q (Option.some.inj ht)
          · have := ris_lt hm i t _ x (by omega) hg ht
            have := h3 i _ (Nat.le_refl _) hg
            omega
      simp only [q, decide_false, cond_false, slices_isNaN_uint16, decide_true, Bool.not_true, Option.bind_some, hx]
  · have : ¬ x ∈ r := by
      intro h
      obtain ⟨t, ht⟩ := List.getElem?_of_mem h
      have hl := (List.getElem?_eq_some_iff.1 ht).1
      have := h2 t x (by omega) ht
      omega
    simp [c, this]
/-! ### As runs -/
theorem take_snoc {a : List Int} {i : Nat} {x : Int} {s : List Int} (h : a.drop i = x :: s) : a.take (i + 1) = a.take i ++ [x] := by
  have hi : i < a.length := (drop_cons h 0).1
  rw [List.take_add_one]
  have : a[i]? = some x := by
    have := (drop_cons h 0).2.1
    rw [List.getElem?_eq_getElem hi]
    simp [List.getD, hi] at this
    simpa using this
  rw [this]
  rfl
theorem ofstep {a : List Int} (hr : ris 0 a) {i : Nat} {x : Int} {s : List Int} (h : a.drop i = x :: s) {r : List Run} (hi : OfInv r (a.take i)) :
    (0 < i → x = a.getD (i - 1) 0 + 1 → ∃ r' p, r = r' ++ [p] ∧ p.2 + 1 < 65536 ∧ OfInv (r' ++ [(p.1, p.2 + 1)]) (a.take (i + 1))) ∧
    ((i = 0 ∨ x ≠ a.getD (i - 1) 0 + 1) → OfInv (r ++ [(x, 0)]) (a.take (i + 1))) := by
  obtain ⟨h1, h2, h3⟩ := drop_cons h 0
  have hx : a[i]? = some x := by rw [getD_some0 h1, h2]
  have hx0 := ris_low hr (List.mem_of_getElem? hx)
  have hs := take_snoc h
  refine ⟨fun h0 he => ?_, fun h0 => ?_⟩
  · have hp : a.take i = a.take (i - 1) ++ [a.getD (i - 1) 0] := by
      obtain ⟨i, rfl⟩ : ∃ i', i = i' + 1 := ⟨i - 1, by omega⟩
      rw [List.take_add_one, getD_some0 (l := a) (i := i) (by omega)]
      simp
    have hrt : ris 0 (a.take i) := by
      rw [← hi.l]
      exact ris_listR hi.may hi.wf
    rw [hp] at hi hrt
    obtain ⟨r', p, e1, e2⟩ := of_last hi hrt
    subst e1
    refine ⟨r', p, rfl, ?_, ?_⟩
    · have := (hi.wf p (by simp))
      omega
    · rw [hs, hp]
      have h4 := of_more hi (by omega)
      rw [show x = p.1 + p.2 + 1 by omega]
      exact h4
  · rw [hs]
    refine of_new hi hx0 fun y hy => ?_
    obtain ⟨t, ht⟩ := List.getElem?_of_mem hy
    rw [List.getElem?_take] at ht
    split at ht
    · rename_i c
      have hlt := ris_lt hr t i y x c ht hx
      have hl := getD_some0 (l := a) (i := i - 1) (by omega)
      have hne : x ≠ a.getD (i - 1) 0 + 1 := by
        rcases h0 with h0 | h0
        · omega
        · exact h0
      have hlast := ris_lt hr (i - 1) i _ x (by omega) hl hx
      by_cases c2 : t = i - 1
      · subst c2
        rw [hl] at ht
        cases ht
        omega
      · have := ris_lt hr t (i - 1) y _ (by omega) ht hl
        omega
    · cases ht
end Go.Rx.Tryz
/-! Containers, part 2: lists as runs, as words; runs as words; marks. -/
namespace Go.Rx.Tryz
open Go.Rx.Plain Go.IntWalk
set_option linter.unusedVariables false
set_option linter.unusedSimpArgs false
theorem listR_ge : ∀ {r : List Run}, wfR r → r.length ≤ (listR r).length
  | [], _ => Nat.le_refl _
  | p :: t, h => by
    have hp := wfR_head h
    have := listR_ge (wfR_tail h)
    simp only [listR, List.length_append, List.length_map, List.length_range, List.length_cons]
    omega
theorem ofinv_len {a : List Int} {i : Nat} {r : List Run} (h : OfInv r (a.take i)) : r.length ≤ i := by
  have := listR_ge h.wf
  rw [h.l, List.length_take] at this
  omega
theorem Of_l0_eq {a : List Int} (hr : ris 0 a) : ∀ (d k i : Nat) (r : List Run), a.length - i ≤ d → d + 1 ≤ k → i ≤ a.length → OfInv r (a.take i) → ∃ r', runs_Of_l0 k r a a (a.length : Int) (i : Int) = some r' ∧ OfInv r' a
  | d, 0, i, r, _, hk, _, _ => by omega
  | d, k + 1, i, r, hd, hk, hi, h => by
    have hl := ris_len hr
    have hrl := ofinv_len h
    rw [runs_Of_l0]
    cases hdr : a.drop i with
    | nil =>
      have := drop_nil hdr hi
      have c : ¬ ((i : Int) < (a.length : Int)) := by omega
      refine ⟨r, by simp only [c, decide_false, cond_false], ?_⟩
      rw [this, List.take_length] at h
      exact h
    | cons x s =>
      obtain ⟨h1, h2, h3⟩ := drop_cons hdr (0 : Int)
      have n1 : a.length - (i + 1) ≤ d - 1 := by omega
      have n2 : d - 1 + 1 ≤ k := by omega
      have n3 : i + 1 ≤ a.length := by omega
      have n4 : i ≠ 0 → 0 < i := by omega
      obtain ⟨s1, s2⟩ := ofstep hr hdr h
      have hx : a[i]? = some x := by rw [getD_some0 h1, h2]
      have hx0 := ris_low hr (List.mem_of_getElem? hx)
      have c : ((i : Int) < (a.length : Int)) := by omega
      have c0 : (0 : Int) ≤ (i : Int) := by omega
      have e2 : IntKind.wrap .i64 ((i : Int) + 1) = ((i + 1 : Nat) : Int) := by rw [i64_in _ ⟨by omega, by omega⟩]; omega
      have g1 : decide ((r.length + 1) * 4 ≤ 140737488355328) = true := by simp; omega
      have g2 : decide (r.length + 1 ≤ 140737488355328) = true := by simp; omega
      simp only [c, c0, decide_true, cond_true, Int.toNat_natCast, h2, e2, List.length_cons, List.length_nil, Nat.zero_add, g1, g2]
      by_cases hi0 : i = 0
      · have q : ¬ ((0 : Int) < (i : Int)) := by omega
        simp only [q, decide_false, cond_false]
        exact Of_l0_eq hr (d - 1) k (i + 1) _ n1 n2 n3 (s2 (.inl hi0))
      · have q : ((0 : Int) < (i : Int)) := by omega
        have e1 : IntKind.wrap .i64 ((i : Int) - 1) = ((i - 1 : Nat) : Int) := by rw [i64_in _ ⟨by omega, by omega⟩]; omega
        have c1 : (0 : Int) ≤ ((i - 1 : Nat) : Int) := by omega
        have c2 : ((i - 1 : Nat) : Int) < (a.length : Int) := by omega
        have hp := getD_some0 (l := a) (i := i - 1) (by omega)
        have hp0 := ris_low hr (List.mem_of_getElem? hp)
        have hlt := ris_lt hr (i - 1) i _ x (by omega) hp hx
        have e3 : IntKind.wrap .u16 (a.getD (i - 1) 0 + 1) = a.getD (i - 1) 0 + 1 := u16_in _ ⟨by omega, by omega⟩
        simp only [q, e1, c1, c2, decide_true, cond_true, Int.toNat_natCast, e3]
        by_cases hq : x = a.getD (i - 1) 0 + 1
        · obtain ⟨r', p, hr', hp2, hnew⟩ := s1 (n4 hi0) hq
          have hpw := h.wf p (by rw [hr']; simp)
          have l1 : r.length = r'.length + 1 := by rw [hr']; simp
          have e4 : IntKind.wrap .i64 ((r.length : Int) - 1) = ((r'.length : Nat) : Int) := by rw [i64_in _ ⟨by omega, by omega⟩]; omega
          have c3 : (0 : Int) ≤ ((r'.length : Nat) : Int) := by omega
          have c4 : ((r'.length : Nat) : Int) < (r.length : Int) := by omega
          have e5 : r.getD r'.length ((0 : Int), (0 : Int)) = p := by rw [hr']; simp [List.getD]
          have e6 : r.set r'.length (p.1, p.2 + 1) = r' ++ [(p.1, p.2 + 1)] := by
            rw [hr', List.set_append_right _ _ (Nat.le_refl _)]
            simp
          have e7 : IntKind.wrap .u16 (p.2 + 1) = p.2 + 1 := u16_in _ ⟨by omega, by omega⟩
          simp only [hq, decide_true, cond_true, e4, c3, c4, Int.toNat_natCast, e5, e7, e6]
          exact Of_l0_eq hr (d - 1) k (i + 1) _ n1 n2 n3 hnew
        · simp only [hq, decide_false, cond_false]
          exact Of_l0_eq hr (d - 1) k (i + 1) _ n1 n2 n3 (s2 (.inr hq))
theorem ofinv0 (a : List Int) : OfInv [] (a.take 0) := ⟨by simp [listR], rfl, fun p hp => (nomatch hp)⟩
theorem Of_eq {a : List Int} {k : Nat} (hr : ris 0 a) (hk : a.length + 1 ≤ k) : ∃ r, runs_Of k a = some r ∧ OfInv r a := by
  obtain ⟨r, e, h⟩ := Of_l0_eq hr a.length k 0 [] (by omega) hk (by omega) (ofinv0 a)
  refine ⟨r, ?_, h⟩
  unfold runs_Of
  have e' : runs_Of_l0 k [] a a (a.length : Int) 0 = some r := e
  rw [e']
  rfl
theorem ARuns_l0_eq {a : List Int} (hr : ris 0 a) : ∀ (d k i : Nat) (r : List Run), a.length - i ≤ d → d + 1 ≤ k → i ≤ a.length → OfInv r (a.take i) → ∃ r', arrays_Runs_l0 k a (r.length : Int) a (a.length : Int) (i : Int) = some (r'.length : Int) ∧ OfInv r' a
  | d, 0, i, r, _, hk, _, _ => by omega
  | d, k + 1, i, r, hd, hk, hi, h => by
    have hl := ris_len hr
    have hrl := ofinv_len h
    rw [arrays_Runs_l0]
    cases hdr : a.drop i with
    | nil =>
      have := drop_nil hdr hi
      have c : ¬ ((i : Int) < (a.length : Int)) := by omega
      refine ⟨r, by simp only [c, decide_false, cond_false], ?_⟩
      rw [this, List.take_length] at h
      exact h
    | cons x s =>
      obtain ⟨h1, h2, h3⟩ := drop_cons hdr (0 : Int)
      have n1 : a.length - (i + 1) ≤ d - 1 := by omega
      have n2 : d - 1 + 1 ≤ k := by omega
      have n3 : i + 1 ≤ a.length := by omega
      have n4 : i ≠ 0 → 0 < i := by omega
      obtain ⟨s1, s2⟩ := ofstep hr hdr h
      have hx : a[i]? = some x := by rw [getD_some0 h1, h2]
      have hx0 := ris_low hr (List.mem_of_getElem? hx)
      have c : ((i : Int) < (a.length : Int)) := by omega
      have c0 : (0 : Int) ≤ (i : Int) := by omega
      have e2 : IntKind.wrap .i64 ((i : Int) + 1) = ((i + 1 : Nat) : Int) := by rw [i64_in _ ⟨by omega, by omega⟩]; omega
      have e8 : IntKind.wrap .i64 ((r.length : Int) + 1) = (((r ++ [(x, (0 : Int))]).length : Nat) : Int) := by rw [i64_in _ ⟨by omega, by omega⟩]; simp
      simp only [c, c0, decide_true, cond_true, Int.toNat_natCast, h2, e2, e8]
      by_cases hi0 : i = 0
      · have q : ((i : Int) = 0) := by omega
        simp only [q, decide_true, cond_true]
        exact ARuns_l0_eq hr (d - 1) k (i + 1) _ n1 n2 n3 (s2 (.inl hi0))
      · have q : ¬ ((i : Int) = 0) := by omega
        have e1 : IntKind.wrap .i64 ((i : Int) - 1) = ((i - 1 : Nat) : Int) := by rw [i64_in _ ⟨by omega, by omega⟩]; omega
        have c1 : (0 : Int) ≤ ((i - 1 : Nat) : Int) := by omega
        have c2 : ((i - 1 : Nat) : Int) < (a.length : Int) := by omega
        have hp := getD_some0 (l := a) (i := i - 1) (by omega)
        have hp0 := ris_low hr (List.mem_of_getElem? hp)
        have hlt := ris_lt hr (i - 1) i _ x (by omega) hp hx
        have e3 : IntKind.wrap .u16 (a.getD (i - 1) 0 + 1) = a.getD (i - 1) 0 + 1 := u16_in _ ⟨by omega, by omega⟩
        simp only [q, e1, c1, c2, decide_true, decide_false, cond_true, cond_false, Int.toNat_natCast, e3]
        by_cases hq : x = a.getD (i - 1) 0 + 1
        · obtain ⟨r', p, hr', hp2, hnew⟩ := s1 (n4 hi0) hq
          have l1 : r.length = (r' ++ [(p.1, p.2 + 1)]).length := by rw [hr']; simp
          simp only [hq, decide_true, Bool.not_true, cond_false]
          rw [l1]
          exact ARuns_l0_eq hr (d - 1) k (i + 1) _ n1 n2 n3 hnew
        · simp only [hq, decide_false, Bool.not_false, cond_true]
          exact ARuns_l0_eq hr (d - 1) k (i + 1) _ n1 n2 n3 (s2 (.inr hq))
theorem ARuns_eq {a : List Int} {k : Nat} (hr : ris 0 a) (hk : a.length + 1 ≤ k) : ∃ r, arrays_Runs k a = some (r.length : Int) ∧ OfInv r a := by
  obtain ⟨r, e, h⟩ := ARuns_l0_eq hr a.length k 0 [] (by omega) hk (by omega) (ofinv0 a)
  refine ⟨r, ?_, h⟩
  unfold arrays_Runs
  have e' : arrays_Runs_l0 k a 0 a (a.length : Int) 0 = some (r.length : Int) := e
  rw [e']
  rfl
/-! ### Words -/
theorem setbit_wf {W : List Nat} (hW : wfW W) {x : Nat} (hx : x < 65536) : wfW (W.set (x / 64) (W.getD (x / 64) 0 ||| (1 <<< (x % 64) % 18446744073709551616))) :=
  wfW_of (by rw [List.length_set]; exact hW.1) fun j hj => by
    rw [getD_set (by rw [hW.1]; omega)]
    split
    · exact or_lt64 (wfW_get hW.2 _) (Nat.mod_lt _ (by decide))
    · exact wfW_get hW.2 j
theorem setbit_has {W : List Nat} (hW : wfW W) {x : Nat} (hx : x < 65536) (y : Nat) (hy : y < 65536) : hasW (W.set (x / 64) (W.getD (x / 64) 0 ||| (1 <<< (x % 64) % 18446744073709551616))) y = (hasW W y || decide (y = x)) := by
  unfold hasW
  rw [getD_set (by rw [hW.1]; omega)]
  split
  · rename_i c
    rw [c, Nat.testBit_or, show (18446744073709551616 : Nat) = 2 ^ 64 from rfl, Nat.testBit_mod_two_pow, Nat.testBit_shiftLeft]
    congr 1
    have h1 : y % 64 < 64 := Nat.mod_lt _ (by omega)
    rw [Bool.eq_iff_iff]
    simp only [h1, decide_true, Bool.true_and, Bool.and_eq_true, decide_eq_true_eq, ge_iff_le]
    constructor
    · intro ⟨h2, h3⟩
      have : y % 64 - x % 64 = 0 := by
        cases hz : y % 64 - x % 64 with
        | zero => rfl
        | succ z => rw [hz, Nat.testBit_succ] at h3; simp at h3
      omega
    · intro h
      subst h
      simp
  · rename_i c
    have : ¬ y = x := fun h => c (by rw [h])
    simp [this]
theorem setbit_eq {W : List Nat} (hW : wfW W) {x : Nat} (hx : x < 65536) : bitsI .or .u64 ((W.getD (x / 64) 0 : Nat) : Int) (shlI .u64 1 ((x % 64 : Nat) : Int)) = ((W.getD (x / 64) 0 ||| (1 <<< (x % 64) % 18446744073709551616) : Nat) : Int) := by
  have s1 : shlI .u64 1 ((x % 64 : Nat) : Int) = ((1 <<< (x % 64) % 18446744073709551616 : Nat) : Int) := shl64 (a := 1) (by omega)
  rw [s1, or64 (wfW_get hW.2 _) (Nat.mod_lt _ (by decide))]
theorem tdiv64 (x : Nat) : ((x : Int).tdiv 64) = ((x / 64 : Nat) : Int) := by
  rw [Int.tdiv_eq_ediv_of_nonneg (by omega)]
  omega
theorem tmod64 (x : Nat) : ((x : Int).tmod 64) = ((x % 64 : Nat) : Int) := by
  rw [Int.tmod_eq_emod_of_nonneg (by omega)]
  omega
theorem WHas_eq {W : List Nat} {x k : Nat} (hW : wfW W) (hx : x < 65536) : words_Has k (up W) (x : Int) = some (hasW W x) := by
  unfold words_Has
  have e1 : IntKind.wrap .u16 ((x / 64 : Nat) : Int) = ((x / 64 : Nat) : Int) := u16_in _ ⟨by omega, by omega⟩
  have e2 : IntKind.wrap .i64 ((x / 64 : Nat) : Int) = ((x / 64 : Nat) : Int) := i64_in _ ⟨by omega, by omega⟩
  have c : ((x / 64 : Nat) : Int) < ((up W).length : Int) := by rw [up_len, hW.1]; omega
  have c0 : (0 : Int) ≤ ((x / 64 : Nat) : Int) := by omega
  have c1 : ¬ (((x % 64 : Nat) : Int) < 0) := by omega
  have hv := wfW_get hW.2 (x / 64)
  have s1 : shrI .u64 ((W.getD (x / 64) 0 : Nat) : Int) ((x % 64 : Nat) : Int) = ((W.getD (x / 64) 0 >>> (x % 64) : Nat) : Int) := shr64 (by omega)
  have hs : W.getD (x / 64) 0 >>> (x % 64) < 18446744073709551616 := Nat.lt_of_le_of_lt (Nat.shiftRight_le _ _) hv
  have a1 : bitsI .and .u64 ((W.getD (x / 64) 0 >>> (x % 64) : Nat) : Int) 1 = (((W.getD (x / 64) 0 >>> (x % 64)) &&& 1 : Nat) : Int) := and64 (b := 1) hs (by decide)
  simp only [tdiv64, tmod64, e1, e2, c, c0, c1, decide_true, decide_false, cond_true, Bool.not_false, Int.toNat_natCast, up_get, s1, a1]
  unfold hasW
  rw [Nat.testBit, Nat.and_comm 1, Nat.and_one_is_mod]
  rcases Nat.mod_two_eq_zero_or_one (W.getD (x / 64) 0 >>> (x % 64)) with h | h
  · rw [h]; rfl
  · rw [h]; rfl
theorem WOf_l0_eq {a : List Int} (hr : ris 0 a) : ∀ (rest : List Int) (k i : Nat) (W : List Nat), i ≤ a.length → a.drop i = rest → rest.length + 1 ≤ k → wfW W →
    ∃ W', words_Of_l0 k (up W) a (a.length : Int) (i : Int) = some (up W') ∧ wfW W' ∧ ∀ x : Nat, x < 65536 → hasW W' x = (hasW W x || decide ((x : Int) ∈ rest))
  | _, 0, _, _, _, _, hk, _ => by omega
  | [], k + 1, i, W, hi, h, hk, hW => by
    have := drop_nil h hi
    have c : ¬ ((i : Int) < (a.length : Int)) := by omega
    exact ⟨W, by rw [words_Of_l0]; simp only [c, decide_false, cond_false], hW, fun x _ => by simp⟩
  | y :: s, k + 1, i, W, hi, h, hk, hW => by
    have hl := ris_len hr
    obtain ⟨h1, h2, h3⟩ := drop_cons h (0 : Int)
    have hy0 := ris_low hr (List.mem_of_mem_drop (by rw [h]; simp) : y ∈ a)
    obtain ⟨n, rfl⟩ : ∃ n : Nat, y = (n : Int) := ⟨y.toNat, by omega⟩
    have hn : n < 65536 := by omega
    have c : ((i : Int) < (a.length : Int)) := by omega
    have c0 : (0 : Int) ≤ (i : Int) := by omega
    have e1 : IntKind.wrap .u16 ((n / 64 : Nat) : Int) = ((n / 64 : Nat) : Int) := u16_in _ ⟨by omega, by omega⟩
    have e2 : IntKind.wrap .i64 ((i : Int) + 1) = ((i + 1 : Nat) : Int) := by rw [i64_in _ ⟨by omega, by omega⟩]; omega
    have c1 : ((n / 64 : Nat) : Int) < ((up W).length : Int) := by rw [up_len, hW.1]; omega
    have c2 : (0 : Int) ≤ ((n / 64 : Nat) : Int) := by omega
    have c3 : ¬ (((n % 64 : Nat) : Int) < 0) := by omega
    obtain ⟨W', r1, r2, r3⟩ := WOf_l0_eq hr s k (i + 1) _ (by omega) h3 (by simp at hk; omega) (setbit_wf hW hn)
    refine ⟨W', ?_, r2, fun x hx => ?_⟩
    · rw [words_Of_l0]
      simp only [c, c0, decide_true, cond_true, Int.toNat_natCast, h2, tdiv64, tmod64, e1, c1, c2, c3, decide_false, Bool.not_false, up_get, setbit_eq hW hn, up_set, e2]
      exact r1
    · rw [r3 x hx, setbit_has hW hn x hx]
      have : ((x : Int) = (n : Int)) ↔ x = n := by omega
      simp [this, Bool.or_assoc]
theorem WOf_eq {a : List Int} {k : Nat} (hr : ris 0 a) (hk : a.length + 1 ≤ k) : ∃ W, words_Of k a = some (up W) ∧ wfW W ∧ ∀ x : Nat, x < 65536 → hasW W x = decide ((x : Int) ∈ a) := by
  obtain ⟨W, r1, r2, r3⟩ := WOf_l0_eq hr a k 0 _ (by omega) rfl hk zero_wf
  refine ⟨W, ?_, r2, fun x hx => by rw [r3 x hx, zero_has]; simp⟩
  unfold words_Of
  rw [replicate_up]
  have r1' : words_Of_l0 k (up (List.replicate 1024 0)) a (a.length : Int) 0 = some (up W) := r1
  simp only [Nat.le_refl, decide_true, cond_true]
  rw [r1']
  rfl
theorem CW_l1_eq {r : List Run} {n idx : Int} {p : Run} (hp : 0 ≤ p.1 ∧ p.1 < 65536 ∧ 0 ≤ p.2 ∧ p.2 < 65536) (he : p.1 + p.2 < 65536) : ∀ (d k x : Nat) (W : List Nat), p.1 ≤ (x : Int) → (x : Int) + d = p.1 + p.2 + 1 → d + 1 ≤ k → wfW W →
    ∃ W', container_Container_Words_l1 k (up W) p.1 p.2 (x : Int) r n idx = some (up W', r, n, idx) ∧ wfW W' ∧ ∀ y : Nat, y < 65536 → hasW W' y = (hasW W y || (decide (x ≤ y) && decide ((y : Int) ≤ p.1 + p.2)))
  | d, 0, x, W, _, _, hk, _ => by omega
  | d, k + 1, x, W, hx, hd, hk, hW => by
    rw [container_Container_Words_l1, i64_in p.1 ⟨by omega, by omega⟩, i64_in p.2 ⟨by omega, by omega⟩, i64_in (p.1 + p.2) ⟨by omega, by omega⟩]
    by_cases c : (x : Int) ≤ p.1 + p.2
    · have hn : x < 65536 := by omega
      have e1 : IntKind.wrap .i64 ((x / 64 : Nat) : Int) = ((x / 64 : Nat) : Int) := i64_in _ ⟨by omega, by omega⟩
      have e2 : IntKind.wrap .i64 ((x : Int) + 1) = ((x + 1 : Nat) : Int) := by rw [i64_in _ ⟨by omega, by omega⟩]; omega
      have c1 : ((x / 64 : Nat) : Int) < ((up W).length : Int) := by rw [up_len, hW.1]; omega
      have c2 : (0 : Int) ≤ ((x / 64 : Nat) : Int) := by omega
      have c3 : ¬ (((x % 64 : Nat) : Int) < 0) := by omega
      obtain ⟨W', r1, r2, r3⟩ := CW_l1_eq hp he (d - 1) k (x + 1) _ (by omega) (by omega) (by omega) (setbit_wf hW hn)
      refine ⟨W', ?_, r2, fun y hy => ?_⟩
      · simp only [c, decide_true, cond_true, tdiv64, tmod64, e1, c1, c2, c3, decide_false, Bool.not_false, Int.toNat_natCast, up_get, setbit_eq hW hn, up_set, e2]
        exact r1
      · rw [r3 y hy, setbit_has hW hn y hy, Bool.or_assoc]
        congr 1
        rw [Bool.eq_iff_iff]
        simp
        omega
    · refine ⟨W, by simp only [c, decide_false, cond_false], hW, fun y hy => ?_⟩
      have : (decide (x ≤ y) && decide ((y : Int) ≤ p.1 + p.2)) = false := by simp; omega
      rw [this]
      simp
theorem CW_l0_eq {r : List Run} {K : Nat} (hK : 65540 ≤ K) (hw : wfR r) (hb : r.length < 1000000) : ∀ (rest : List Run) (k i : Nat) (m : Int) (W : List Nat), i ≤ r.length → r.drop i = rest → mayF m rest = true → rest.length + K ≤ k → wfW W →
    ∃ W', container_Container_Words_l0 k (up W) r r.length i = some (up W') ∧ wfW W' ∧ ∀ y : Nat, y < 65536 → hasW W' y = (hasW W y || hasB rest (y : Int))
  | _, 0, _, _, _, _, _, _, hk, _ => by omega
  | [], k + 1, i, m, W, hi, h, hm, hk, hW => by
    have := drop_nil h hi
    have c : ¬ ((i : Int) < (r.length : Int)) := by omega
    exact ⟨W, by rw [container_Container_Words_l0]; simp only [c, decide_false, cond_false], hW, fun y _ => by rw [hasB_nil]; simp⟩
  | p :: s, k + 1, i, m, W, hi, h, hm, hk, hW => by
    obtain ⟨g1, g2, g3⟩ := mayF_cons.1 hm
    obtain ⟨h1, h2, h3⟩ := drop_cons h ((0 : Int), (0 : Int))
    have hp := wf_get hw h
    have c : ((i : Int) < (r.length : Int)) := by omega
    have c0 : (0 : Int) ≤ (i : Int) := by omega
    obtain ⟨n, hn⟩ : ∃ n : Nat, p.1 = (n : Int) := ⟨p.1.toNat, by omega⟩
    obtain ⟨W1, e1, w1, f1⟩ := CW_l1_eq (r := r) (n := (r.length : Int)) (idx := (i : Int)) hp g2 (p.2 + 1).toNat k n W (by omega) (by omega) (by simp at hk; omega) hW
    obtain ⟨W2, e2, w2, f2⟩ := CW_l0_eq hK hw hb s k (i + 1) _ W1 (by omega) h3 g3 (by simp at hk; omega) w1
    refine ⟨W2, ?_, w2, fun y hy => ?_⟩
    · rw [container_Container_Words_l0]
      simp only [c, c0, decide_true, cond_true, Int.toNat_natCast, h2]
      rw [i64_in p.1 ⟨by omega, by omega⟩]
      have e1' : container_Container_Words_l1 k (up W) p.1 p.2 p.1 r (r.length : Int) (i : Int) = some (up W1, r, (r.length : Int), (i : Int)) := by
        rw [← hn] at e1
        exact e1
      rw [e1']
      simp only [Option.bind_some]
      rw [i64_in _ ⟨by omega, by omega⟩, show ((i : Int) + 1) = ((i + 1 : Nat) : Int) by omega]
      exact e2
    · rw [f2 y hy, f1 y hy, hasB_cons, Bool.or_assoc]
      congr 2
      rw [Bool.eq_iff_iff]
      simp
      omega
/-! ### Marks -/
theorem MList_l0_eq {M : List Bool} (hM : M.length = 65536) : ∀ (d k i : Nat) (acc : List Int), 65536 - i ≤ d → d + 1 ≤ k → i ≤ 65536 → acc.length ≤ i → isinglassref04_Marks_List_l0 k M acc (i : Int) = some (M, acc ++ memI (fun x => M.getD x.toNat false) (i : Int) (65536 - i))
  | d, 0, i, acc, _, hk, _, _ => by omega
  | d, k + 1, i, acc, hd, hk, hi, ha => by
    rw [isinglassref04_Marks_List_l0]
    by_cases c : (i : Int) < 65536
    · have c0 : (0 : Int) ≤ (i : Int) := by omega
      have b1 : Nat.ble 65536 M.length = true := by rw [Nat.ble_eq]; omega
      have e1 : IntKind.wrap .u16 (i : Int) = (i : Int) := u16_in _ ⟨by omega, by omega⟩
      have e2 : IntKind.wrap .i64 ((i : Int) + 1) = ((i + 1 : Nat) : Int) := by rw [i64_in _ ⟨by omega, by omega⟩]; omega
      have g1 : decide ((acc.length + 1) * 2 ≤ 140737488355328) = true := by simp; omega
      have g2 : decide (acc.length + 1 ≤ 140737488355328) = true := by simp; omega
      have hs : memI (fun x => M.getD x.toNat false) (i : Int) (65536 - i) = (if M.getD i false then [(i : Int)] else []) ++ memI (fun x => M.getD x.toNat false) ((i + 1 : Nat) : Int) (65536 - (i + 1)) := by
        rw [show 65536 - i = 1 + (65536 - (i + 1)) by omega, memI_split, show (i : Int) + ((1 : Nat) : Int) = ((i + 1 : Nat) : Int) by omega]
        congr 1
        unfold memI
        rw [show List.range 1 = [0] from rfl]
        simp only [List.filter_cons, List.filter_nil, Int.natCast_zero, Int.add_zero, Int.toNat_natCast]
        split <;> simp
      simp only [c, c0, decide_true, cond_true, Int.toNat_natCast]
      rw [b1, hs, e1, e2]
      simp only [cond_true, List.length_cons, List.length_nil, Nat.zero_add, g1, g2]
      cases hg : M.getD i false with
      | true =>
        simp only [cond_true, if_true]
        rw [MList_l0_eq hM (d - 1) k (i + 1) _ (by omega) (by omega) (by omega) (by simp; omega), List.append_assoc]
      | false =>
        simp only [cond_false, Bool.false_eq_true, if_false, List.nil_append]
        exact MList_l0_eq hM (d - 1) k (i + 1) _ (by omega) (by omega) (by omega) (by omega)
    · have : i = 65536 := by omega
      have hz : memI (fun x => M.getD x.toNat false) (i : Int) (65536 - i) = [] := by
        rw [show 65536 - i = 0 by omega]
        rfl
      rw [hz]
      simp only [c, decide_false, cond_false, List.append_nil]
theorem MList_eq {M : List Bool} {k : Nat} (hM : M.length = 65536) (hk : 65540 ≤ k) : isinglassref04_Marks_List k M = some (M, memI (fun x => M.getD x.toNat false) 0 65536) := by
  unfold isinglassref04_Marks_List
  have := MList_l0_eq hM 65536 k 0 [] (by omega) (by omega) (by omega) (by simp)
  rw [Nat.sub_zero, List.nil_append] at this
  rw [Int.natCast_zero] at this
  simp only [this, Option.bind_some]
end Go.Rx.Tryz
/-! Containers, part 3: what a container is of, whatever its kind; the canonical one, a range flipped, a number more. -/
namespace Go.Rx.Tryz
open Go.Rx.Plain Go.IntWalk
set_option linter.unusedVariables false
set_option linter.unusedSimpArgs false
abbrev Cont := Int × (List Int × (List Int × List Run))
def Sup (f : Int → Bool) : Prop := ∀ x, x < 0 ∨ 65536 ≤ x → f x = false
@[irreducible] def mem (f : Int → Bool) : List Int := memI f 0 65536
theorem mem_def (f : Int → Bool) : mem f = memI f 0 65536 := by unfold mem; rfl
def nF (f : Int → Bool) : Int := ((mem f).length : Int)
@[irreducible] def rF (f : Int → Bool) : Int := ((memI (startI f) 0 65536).length : Int)
theorem rF_def (f : Int → Bool) : rF f = ((memI (startI f) 0 65536).length : Int) := by unfold rF; rfl
theorem memI_ris (f : Int → Bool) : ∀ (n : Nat) (a : Int), a + (n : Int) ≤ 65536 → ris a (memI f a n)
  | 0, a, _ => trivial
  | n + 1, a, h => by
    rw [show n + 1 = 1 + n by omega, memI_split]
    have ih := memI_ris f n (a + 1) (by omega)
    have e : memI f a 1 = if f a then [a] else [] := by
      unfold memI
      rw [show List.range 1 = [0] from rfl]
      simp only [List.filter_cons, List.filter_nil, Int.natCast_zero, Int.add_zero]
      split <;> simp
    rw [e, show a + ((1 : Nat) : Int) = a + 1 by omega]
    split
    · exact ⟨Int.le_refl _, by omega, ih⟩
    · exact ris_mono ih (by omega)
theorem ris_nil : ris 0 [] := trivial
attribute [local irreducible] ris
theorem memI_ris0 (f : Int → Bool) (n : Nat) (hn : n = 65536) : ris 0 (memI f 0 n) := memI_ris f n 0 (by omega)
theorem mem_ris (f : Int → Bool) : ris 0 (mem f) := by
  have h := memI_ris0 f 65536 rfl
  rw [← mem_def] at h
  exact h
theorem mem_iff (f : Int → Bool) (x : Int) : x ∈ mem f ↔ (0 ≤ x ∧ x < 65536) ∧ f x = true := by
  rw [mem_def]
  unfold memI
  simp only [List.mem_map, List.mem_filter, List.mem_range, Int.zero_add]
  constructor
  · rintro ⟨j, ⟨h1, h2⟩, rfl⟩
    exact ⟨by omega, h2⟩
  · rintro ⟨h1, h2⟩
    exact ⟨x.toNat, ⟨by omega, by rw [show ((x.toNat : Nat) : Int) = x by omega]; exact h2⟩, by omega⟩
theorem mem_le (f : Int → Bool) : (mem f).length ≤ 65536 := ris_len (mem_ris f)
theorem runs_facts {r : List Run} {f : Int → Bool} (hm : mayF 0 r = true) (hw : wfR r) (h : ∀ x, hasB r x = f x) : listR r = mem f ∧ (r.length : Int) = rF f ∧ lenF r = nF f := by
  have ef : hasB r = f := funext h
  have hi : ∀ x, 65536 ≤ x → hasB r x = false := fun x hx => has_top fun p hp => by
    have : ∀ {r : List Run} {m : Int}, mayF m r = true → ∀ p, p ∈ r → p.1 + p.2 < 65536 := by
      intro r
      induction r with
      | nil => intro m _ p hp; cases hp
      | cons q t ih =>
        intro m h p hp
        obtain ⟨h1, h2, h3⟩ := mayF_cons.1 h
        rcases List.mem_cons.1 hp with hp | hp
        · subst hp; exact h2
        · exact ih h3 p hp
    have := this hm p hp
    omega
  have cut : ∀ f : Int → Bool, (f 65536 = false) → memI f 0 (65537 - (0 : Int)).toNat = memI f 0 65536 := by
    intro f hf
    rw [show (65537 - (0 : Int)).toNat = 65536 + 1 by omega, memI_split, memI_none (a := 0 + ((65536 : Nat) : Int)) fun x q1 q2 => by
      have : x = 65536 := by omega
      rw [this, hf]]
    simp
  have e1 : listR r = mem f := by
    rw [listR_mem hm hw (by omega), cut _ (hi _ (Int.le_refl _)), ef, mem_def]
  refine ⟨e1, ?_, ?_⟩
  · have s := starts_mem hm hw (by omega)
    have hs : startI (hasB r) 65536 = false := by unfold startI; rw [hi _ (Int.le_refl _)]; rfl
    rw [cut _ hs, ef] at s
    have sl := congrArg List.length s
    rw [List.length_map] at sl
    rw [rF_def, sl]
  · unfold nF
    rw [← listR_len hw, e1]
theorem ofinv_has {r : List Run} {f : Int → Bool} (hs : Sup f) (h : OfInv r (mem f)) : ∀ x, hasB r x = f x := by
  intro x
  rw [Bool.eq_iff_iff, hasB_listR h.wf, h.l, mem_iff]
  constructor
  · exact fun h => h.2
  · intro hx
    refine ⟨?_, hx⟩
    by_cases c : x < 0 ∨ 65536 ≤ x
    · rw [hs x c] at hx; cases hx
    · omega
theorem words_facts {W : List Nat} {f : Int → Bool} (hs : Sup f) (hW : wfW W) (h : ∀ x : Nat, x < 65536 → hasW W x = f (x : Int)) : castL (listW 0 W) = mem f ∧ ((runsW 0 W : Nat) : Int) = rF f ∧ ((lenW W : Nat) : Int) = nF f := by
  obtain ⟨r, _, hi⟩ := Of_eq (k := (mem f).length + 1) (mem_ris f) (Nat.le_refl _)
  have hb := ofinv_has hs hi
  obtain ⟨a1, a2, a3⟩ := alike hi.may hi.wf hW (fun x hx => by rw [h x hx, hb])
  obtain ⟨b1, b2, b3⟩ := runs_facts hi.may hi.wf hb
  exact ⟨by rw [← a1, b1], by rw [← a2, b2], by rw [← a3, b3]⟩
theorem rF_bound (f : Int → Bool) : 0 ≤ rF f ∧ rF f ≤ 65536 := by
  have h := ris_len (memI_ris0 (startI f) 65536 rfl)
  rw [rF_def]
  omega
theorem nF_bound (f : Int → Bool) : 0 ≤ nF f ∧ nF f ≤ 65536 := by
  have h := mem_le f
  unfold nF
  omega
inductive IsC : Cont → (Int → Bool) → Prop
  | arr {kd : Int} {w : List Int} {r : List Run} {f : Int → Bool} (h : kd = 0 ∨ kd = 1) : IsC (kd, (mem f, (w, r))) f
  | wrd {a : List Int} {W : List Nat} {r : List Run} {f : Int → Bool} (hW : wfW W) (h : ∀ x : Nat, x < 65536 → hasW W x = f (x : Int)) : IsC (2, (a, (up W, r))) f
  | run {a w : List Int} {r : List Run} {f : Int → Bool} (hm : mayF 0 r = true) (hw : wfR r) (h : ∀ x, hasB r x = f x) : IsC (3, (a, (w, r))) f
def kF (n r : Int) : Int := if 2 + 4 * r < (if n ≤ 4096 then 2 * n else 8192) then 3 else if n ≤ 4096 then 1 else 2
theorem runs_len_le {r : List Run} {f : Int → Bool} (hm : mayF 0 r = true) (hw : wfR r) (h : ∀ x, hasB r x = f x) : r.length ≤ 65536 := by
  have := (runs_facts hm hw h).2.1
  have := rF_bound f
  omega
theorem CLen {c : Cont} {f : Int → Bool} {k : Nat} (hs : Sup f) (h : IsC c f) (hk : 70000 ≤ k) : container_Container_Len k c = some (nF f) := by
  cases h with
  | arr h =>
    rcases h with h | h
    · subst h; rfl
    · subst h; rfl
  | wrd hW h =>
    unfold container_Container_Len container_Container_Kind container_Container_wordsLen
    rw [show max (2 : Int) 1 = 2 from rfl]
    simp only [Option.bind_some, show ¬ (2 : Int) = 0 by omega, show ¬ (2 : Int) = 1 by omega, decide_false, decide_true, cond_false, cond_true]
    rw [WLen_eq hW (by omega), (words_facts hs hW h).2.2]
    rfl
  | run hm hw h =>
    unfold container_Container_Len container_Container_Kind container_Container_runsLen
    rw [show max (3 : Int) 1 = 3 from rfl]
    simp only [Option.bind_some, show ¬ (3 : Int) = 0 by omega, show ¬ (3 : Int) = 1 by omega, show ¬ (3 : Int) = 2 by omega, decide_false, decide_true, cond_false, cond_true]
    have := runs_len_le hm hw h
    rw [Len_eq hw (by omega) (by omega), (runs_facts hm hw h).2.2]
    rfl
theorem CMany {c : Cont} {f : Int → Bool} {k : Nat} (hs : Sup f) (h : IsC c f) (hk : 70000 ≤ k) : container_Container_many k c = some (rF f) := by
  cases h with
  | arr h =>
    have hl := mem_le f
    obtain ⟨r, e, hi⟩ := ARuns_eq (k := k) (mem_ris f) (by omega)
    have hb := ofinv_has hs hi
    unfold container_Container_many
    rcases h with h | h
    · subst h
      simp only [show ¬ (0 : Int) = 2 by omega, show ¬ (0 : Int) = 3 by omega, decide_false, cond_false, e, (runs_facts hi.may hi.wf hb).2.1, Option.bind_some]
    · subst h
      simp only [show ¬ (1 : Int) = 2 by omega, show ¬ (1 : Int) = 3 by omega, decide_false, cond_false, e, (runs_facts hi.may hi.wf hb).2.1, Option.bind_some]
  | wrd hW h =>
    unfold container_Container_many
    simp only [decide_true, cond_true]
    rw [WRuns_eq hW (by omega), (words_facts hs hW h).2.1]
    rfl
  | run hm hw h =>
    unfold container_Container_many
    simp only [show ¬ (3 : Int) = 2 by omega, decide_false, decide_true, cond_false, cond_true, (runs_facts hm hw h).2.1]
theorem CArray {c : Cont} {f : Int → Bool} {k : Nat} (hs : Sup f) (h : IsC c f) (hk : 140000 ≤ k) : container_Container_Array k c = some (mem f) := by
  cases h with
  | arr h =>
    have hl := mem_le f
    unfold container_Container_Array
    rcases h with h | h
    · subst h
      simp only [show ¬ (0 : Int) = 2 by omega, show ¬ (0 : Int) = 3 by omega, decide_false, cond_false, clone16_eq (k := k) (show (mem f).length < 1000000 by omega), Option.bind_some]
    · subst h
      simp only [show ¬ (1 : Int) = 2 by omega, show ¬ (1 : Int) = 3 by omega, decide_false, cond_false, clone16_eq (k := k) (show (mem f).length < 1000000 by omega), Option.bind_some]
  | wrd hW h =>
    unfold container_Container_Array
    simp only [decide_true, cond_true]
    rw [WList_eq hW (by omega), (words_facts hs hW h).1]
    rfl
  | run hm hw h =>
    have := runs_len_le hm hw h
    unfold container_Container_Array
    simp only [show ¬ (3 : Int) = 2 by omega, decide_false, decide_true, cond_false, cond_true]
    rw [List_eq hm hw (by omega) (by omega), (runs_facts hm hw h).1]
    rfl
theorem CRuns {c : Cont} {f : Int → Bool} {k : Nat} (hs : Sup f) (h : IsC c f) (hk : 140000 ≤ k) : ∃ r, container_Container_Runs k c = some r ∧ mayF 0 r = true ∧ wfR r ∧ ∀ x, hasB r x = f x := by
  have arr : ∀ c : Cont, IsC c f → c.1 ≠ 3 → ∃ r, container_Container_Runs k c = some r ∧ mayF 0 r = true ∧ wfR r ∧ ∀ x, hasB r x = f x := by
    intro c h hc
    have hl := mem_le f
    obtain ⟨r, e, hi⟩ := Of_eq (k := k) (mem_ris f) (by omega)
    refine ⟨r, ?_, hi.may, hi.wf, ofinv_has hs hi⟩
    unfold container_Container_Runs
    simp only [hc, decide_false, cond_false, CArray hs h hk, e, Option.bind_some]
  cases h with
  | arr h =>
    refine arr _ (.arr h) ?_
    show _ ≠ _
    rcases h with h | h <;> subst h <;> omega
  | wrd hW h => exact arr _ (.wrd hW h) (by show (2 : Int) ≠ 3; omega)
  | run hm hw h =>
    have := runs_len_le hm hw h
    rename_i r
    have hcl := clone_eq (k := k) (r := r) (by omega)
    refine ⟨_, ?_, hm, hw, h⟩
    unfold container_Container_Runs
    simp only [decide_true, cond_true, hcl, Option.bind_some]
theorem CWords {c : Cont} {f : Int → Bool} {k : Nat} (hs : Sup f) (h : IsC c f) (hk : 140000 ≤ k) : ∃ W, container_Container_Words k c = some (up W) ∧ wfW W ∧ ∀ x : Nat, x < 65536 → hasW W x = f (x : Int) := by
  cases h with
  | arr h =>
    have hl := mem_le f
    obtain ⟨W, e, hW, hh⟩ := WOf_eq (k := k) (mem_ris f) (by omega)
    refine ⟨W, ?_, hW, fun x hx => ?_⟩
    · unfold container_Container_Words
      rcases h with h | h
      · subst h
        simp only [show ¬ (0 : Int) = 2 by omega, show ¬ (0 : Int) = 3 by omega, decide_false, cond_false, e, Option.bind_some]
      · subst h
        simp only [show ¬ (1 : Int) = 2 by omega, show ¬ (1 : Int) = 3 by omega, decide_false, cond_false, e, Option.bind_some]
    · rw [hh x hx, Bool.eq_iff_iff, decide_eq_true_eq, mem_iff]
      constructor
      · exact fun h => h.2
      · exact fun h => ⟨by omega, h⟩
  | wrd hW h =>
    rename_i W _
    have : (up W).length < 1000000 := by rw [up_len, hW.1]; omega
    refine ⟨W, ?_, hW, h⟩
    unfold container_Container_Words
    simp only [decide_true, cond_true, clone64_eq (k := k) this, Option.bind_some]
  | run hm hw h =>
    have := runs_len_le hm hw h
    rename_i r
    obtain ⟨W0, e0, hW0, hh0⟩ := WOf_eq (a := []) (k := k) ris_nil (by simp; omega)
    obtain ⟨W, e, hW, hh⟩ := CW_l0_eq (K := 65540) (by omega) hw (by omega) r k 0 0 W0 (by omega) rfl hm (by omega) hW0
    refine ⟨W, ?_, hW, fun x hx => by rw [hh x hx, hh0 x hx, h]; simp⟩
    unfold container_Container_Words
    simp only [show ¬ (3 : Int) = 2 by omega, decide_false, decide_true, cond_false, cond_true, e0, Option.bind_some]
    have e' : container_Container_Words_l0 k (up W0) r (r.length : Int) 0 = some (up W) := e
    rw [e']
    rfl
theorem Kind_eq (k : Nat) (c : Cont) : container_Container_Kind k c = some (max c.1 1) := rfl
theorem IsC.kind {c : Cont} {f : Int → Bool} (h : IsC c f) : (max c.1 1 = 1 ∨ max c.1 1 = 2 ∨ max c.1 1 = 3) := by
  cases h with
  | arr h => rcases h with h | h <;> subst h <;> exact .inl rfl
  | wrd _ _ => exact .inr (.inl rfl)
  | run _ _ _ => exact .inr (.inr rfl)
theorem kF_cases (n m : Int) : kF n m = 3 ∨ kF n m = 1 ∨ kF n m = 2 := by
  unfold kF
  generalize (if n ≤ 4096 then 2 * n else 8192) = z
  by_cases q2 : 2 + 4 * m < z
  · rw [if_pos q2]; exact .inl rfl
  · rw [if_neg q2]
    by_cases q1 : n ≤ 4096
    · rw [if_pos q1]; exact .inr (.inl rfl)
    · rw [if_neg q1]; exact .inr (.inr rfl)
theorem canon_body {α : Type} (n m : Int) (R A W : α) : (bif decide (n ≤ 4096) then (bif decide (2 + 4 * m < 2 * n) then R else bif decide (n ≤ 4096) then A else W) else (bif decide (2 + 4 * m < 8192) then R else bif decide (n ≤ 4096) then A else W)) = if kF n m = 3 then R else if kF n m = 1 then A else W := by
  unfold kF
  by_cases q1 : n ≤ 4096
  · rw [decide_eq_true q1, if_pos q1, if_pos q1]
    by_cases q2 : 2 + 4 * m < 2 * n
    · rw [decide_eq_true q2, if_pos q2]
      rfl
    · rw [decide_eq_false q2, if_neg q2]
      rfl
  · rw [decide_eq_false q1, if_neg q1, if_neg q1]
    by_cases q2 : 2 + 4 * m < 8192
    · rw [decide_eq_true q2, if_pos q2]
      rfl
    · rw [decide_eq_false q2, if_neg q2]
      rfl
theorem CCanon {c : Cont} {f : Int → Bool} {k : Nat} (hs : Sup f) (h : IsC c f) (hk : 140000 ≤ k) : ∃ c', container_Container_Canonical k c = some c' ∧ IsC c' f ∧ max c'.1 1 = kF (nF f) (rF f) := by
  have b1 := nF_bound f
  have b2 := rF_bound f
  have eL := CLen hs h (k := k) (by omega)
  have eM := CMany hs h (k := k) (by omega)
  generalize nF f = n at *
  generalize rF f = m at *
  have w1 : IntKind.wrap .i64 (4 * m) = 4 * m := i64_in _ ⟨by omega, by omega⟩
  have w2 : IntKind.wrap .i64 (2 + 4 * m) = 2 + 4 * m := i64_in _ ⟨by omega, by omega⟩
  have w3 : IntKind.wrap .i64 (2 * n) = 2 * n := i64_in _ ⟨by omega, by omega⟩
  have toR : kF (n) (m) = 3 → ∃ c', (bif decide ((3 : Int) = max c.1 1) then some c else (container_Container_Runs k c).bind fun y => some ((3 : Int), (([] : List Int), (([] : List Int), y)))) = some c' ∧ IsC c' f ∧ max c'.1 1 = kF (n) (m) := by
    intro hk3
    by_cases q : (3 : Int) = max c.1 1
    · exact ⟨c, by rw [decide_eq_true q]; rfl, h, by rw [← q, hk3]⟩
    · obtain ⟨r, e, mm, w, hh⟩ := CRuns hs h hk
      exact ⟨_, by rw [decide_eq_false q, e]; rfl, .run mm w hh, by rw [hk3]; rfl⟩
  have toA : kF (n) (m) = 1 → ∃ c', (bif decide ((1 : Int) = max c.1 1) then some c else (container_Container_Array k c).bind fun y => some ((1 : Int), (y, (([] : List Int), ([] : List (Int × Int)))))) = some c' ∧ IsC c' f ∧ max c'.1 1 = kF (n) (m) := by
    intro hk3
    by_cases q : (1 : Int) = max c.1 1
    · exact ⟨c, by rw [decide_eq_true q]; rfl, h, by rw [← q, hk3]⟩
    · exact ⟨_, by rw [decide_eq_false q, CArray hs h hk]; rfl, .arr (.inr rfl), by rw [hk3]; rfl⟩
  have toW : kF (n) (m) = 2 → ∃ c', (bif decide ((2 : Int) = max c.1 1) then some c else (container_Container_Words k c).bind fun y => some ((2 : Int), (([] : List Int), (y, ([] : List (Int × Int)))))) = some c' ∧ IsC c' f ∧ max c'.1 1 = kF (n) (m) := by
    intro hk3
    by_cases q : (2 : Int) = max c.1 1
    · exact ⟨c, by rw [decide_eq_true q]; rfl, h, by rw [← q, hk3]⟩
    · obtain ⟨W, e, w, hh⟩ := CWords hs h hk
      exact ⟨_, by rw [decide_eq_false q, e]; rfl, .wrd w hh, by rw [hk3]; rfl⟩
  unfold container_Container_Canonical
  rw [eL]
  simp only [Option.bind_some]
  rw [eM]
  simp only [Option.bind_some, w1, w2, w3, Kind_eq]
  rw [canon_body]
  have hk3 : kF n m = 3 ∨ kF n m = 1 ∨ kF n m = 2 := kF_cases n m
  rcases hk3 with q | q | q
  · rw [if_pos q]
    exact toR q
  · rw [if_neg (by rw [q]; decide), if_pos q]
    exact toA q
  · rw [if_neg (by rw [q]; decide), if_neg (by rw [q]; decide)]
    exact toW q
def fx (f : Int → Bool) (lo hi : Int) (x : Int) : Bool := f x != (decide (max lo 0 ≤ x) && decide (x < min hi 65536))
theorem fx_sup {f : Int → Bool} (hs : Sup f) (lo hi : Int) : Sup (fx f lo hi) := by
  intro x hx
  unfold fx
  rw [hs x hx]
  have : (decide (max lo 0 ≤ x) && decide (x < min hi 65536)) = false := by simp; omega
  rw [this]
  rfl
theorem CFlip {c : Cont} {f : Int → Bool} {k : Nat} {lo hi : Int} (hs : Sup f) (h : IsC c f) (hk : 140000 ≤ k) : ∃ c', container_Container_Flip k c lo hi = some c' ∧ IsC c' (fx f lo hi) ∧ max c'.1 1 = kF (nF (fx f lo hi)) (rF (fx f lo hi)) := by
  have gen : c.1 ≠ 2 → ∃ c', container_Container_Flip k c lo hi = some c' ∧ IsC c' (fx f lo hi) ∧ max c'.1 1 = kF (nF (fx f lo hi)) (rF (fx f lo hi)) := by
    intro hc
    obtain ⟨r, e, m, w, hh⟩ := CRuns hs h hk
    have hl := runs_len_le m w hh
    obtain ⟨r2, e2, q⟩ := Flip_ans (k := k) (lo := lo) (hi := hi) m w (by omega) (by omega)
    obtain ⟨c', e3, i3, k3⟩ := CCanon (c := ((3 : Int), (([] : List Int), (([] : List Int), r2)))) (k := k) (fx_sup hs lo hi) (.run q.may q.wf (fun x => by rw [q.has, hh]; rfl)) hk
    exact ⟨c', by unfold container_Container_Flip; simp only [hc, decide_false, cond_false, e, e2, e3, Option.bind_some], i3, k3⟩
  cases h with
  | arr h =>
    refine gen ?_
    show _ ≠ _
    rcases h with h | h <;> subst h <;> omega
  | wrd hW h =>
    obtain ⟨W2, e2, w2, h2⟩ := WFlip_eq (lo := lo) (hi := hi) (k := k) hW (by omega)
    obtain ⟨c', e3, i3, k3⟩ := CCanon (c := ((2 : Int), (([] : List Int), (up W2, ([] : List (Int × Int)))))) (k := k) (fx_sup hs lo hi) (.wrd w2 (fun x hx => by rw [h2 x hx, h x hx]; rfl)) hk
    exact ⟨c', by unfold container_Container_Flip; simp only [decide_true, cond_true, e2, e3, Option.bind_some], i3, k3⟩
  | run hm hw h => exact gen (by show (3 : Int) ≠ 2; omega)
theorem CHas {c : Cont} {f : Int → Bool} {k : Nat} {x : Int} (hs : Sup f) (h : IsC c f) (hk : 140000 ≤ k) (hx : 0 ≤ x ∧ x < 65536) : container_Container_Has k c x = some (f x) := by
  cases h with
  | arr h =>
    have hl := mem_le f
    obtain ⟨i, e, _⟩ := Find_eq (k := k) (x := x) (mem_ris f) (by omega)
    have hd : decide (x ∈ mem f) = f x := by
      rw [Bool.eq_iff_iff, decide_eq_true_eq, mem_iff]
      constructor
      · exact fun h => h.2
      · exact fun h => ⟨hx, h⟩
    have ha : ∀ kd : Int, ∀ w r, container_Container_arrayHas k (kd, (mem f, (w, r))) x = some (f x) := by
      intro kd w r
      unfold container_Container_arrayHas
      simp only [e, Option.bind_some, hd]
    unfold container_Container_Has
    rw [Kind_eq]
    rcases h with h | h
    · subst h
      rw [show max (0 : Int) 1 = 1 from rfl]
      simp only [Option.bind_some, show ¬ (1 : Int) = 0 by omega, decide_false, decide_true, cond_false, cond_true, ha]
    · subst h
      rw [show max (1 : Int) 1 = 1 from rfl]
      simp only [Option.bind_some, show ¬ (1 : Int) = 0 by omega, decide_false, decide_true, cond_false, cond_true, ha]
  | wrd hW h =>
    obtain ⟨n, rfl⟩ : ∃ n : Nat, x = (n : Int) := ⟨x.toNat, by omega⟩
    unfold container_Container_Has container_Container_wordsHas
    rw [Kind_eq, show max (2 : Int) 1 = 2 from rfl]
    simp only [Option.bind_some, show ¬ (2 : Int) = 0 by omega, show ¬ (2 : Int) = 1 by omega, decide_false, decide_true, cond_false, cond_true]
    rw [WHas_eq hW (by omega), h n (by omega)]
    rfl
  | run hm hw h =>
    have hl := runs_len_le hm hw h
    unfold container_Container_Has container_Container_runsHas
    rw [Kind_eq, show max (3 : Int) 1 = 3 from rfl]
    simp only [Option.bind_some, show ¬ (3 : Int) = 0 by omega, show ¬ (3 : Int) = 1 by omega, show ¬ (3 : Int) = 2 by omega, decide_false, decide_true, cond_false, cond_true]
    rw [Has_eq hm hw (by omega) (by omega) hx, h]
    rfl
end Go.Rx.Tryz
/-! Containers, part 4: numbers sifted, arrays merged, and the containers of both, either, the rest, just one of two. Printed by contops.py. -/
namespace Go.Rx.Tryz
open Go.Rx.Plain Go.IntWalk
set_option linter.unusedVariables false
set_option linter.unusedSimpArgs false
theorem arr_of {c : Cont} {f : Int → Bool} (h : IsC c f) (hk : max c.1 1 = 1) : c.2.1 = mem f := by
  cases h with
  | arr h => rfl
  | wrd _ _ => exact absurd hk (by show ¬ max (2 : Int) 1 = 1; omega)
  | run _ _ _ => exact absurd hk (by show ¬ max (3 : Int) 1 = 1; omega)
theorem sub_len {k : Nat} {g : Int → Bool} {l : List Int} : (l.filter g).length ≤ l.length := List.length_filter_le _ _
theorem ris_filter {g : Int → Bool} : ∀ {l : List Int} {m : Int}, ris m l → ris m (l.filter g)
  | [], m, h => trivial
  | a :: t, m, ⟨h1, h2, h3⟩ => by
    rw [List.filter_cons]
    split
    · exact ⟨h1, h2, ris_filter h3⟩
    · exact ris_mono (ris_filter h3) (by omega)
/-- A rising list is told by what it has. -/
theorem ris_ext {l : List Int} {f : Int → Bool} (h : ris 0 l) (hf : ∀ x, 0 ≤ x → x < 65536 → (x ∈ l ↔ f x = true)) : l = mem f := by
  rw [ris_mem h (by omega), mem_def]
  exact memI_congr fun x h1 h2 => by
    rw [Bool.eq_iff_iff, decide_eq_true_eq]
    exact hf x (by omega) (by omega)
theorem mem_filter (f g : Int → Bool) : (mem f).filter g = mem (fun x => f x && g x) :=
  ris_ext (ris_filter (mem_ris f)) fun x h1 h2 => by
    rw [List.mem_filter, mem_iff, Bool.and_eq_true]
    constructor
    · exact fun h => ⟨h.1.2, h.2⟩
    · exact fun h => ⟨⟨⟨h1, h2⟩, h.1⟩, h.2⟩
theorem filter_all {g : Int → Bool} {l : List Int} (h : ∀ x, x ∈ l → g x = true) : l.filter g = l := List.filter_eq_self.2 h
theorem take_of_append {a b : List Int} {i : Nat} {l : List Int} (h : l.take i = a) (hi : i ≤ l.length) : (a ++ b).take i = a := by
  have : a.length = i := by rw [← h, List.length_take]; omega
  rw [← this, List.take_left']
  rfl
theorem set_take {l : List Int} {i j : Nat} (h : i < j) (v : Int) : (l.set i v).drop j = l.drop j := by
  rw [List.drop_set_of_lt h]
theorem set_snoc {l : List Int} {i : Nat} (h : i < l.length) (v : Int) : (l.set i v).take (i + 1) = l.take i ++ [v] := by
  rw [List.take_add_one, List.take_set_of_le (Nat.le_refl i)]
  simp [h]
abbrev ann (a b : Bool) : Bool := a && !b

theorem Idx_o_l0 {g : Int → Bool} {c : Cont} {K : Nat} (hp : ∀ k x, K ≤ k → 0 ≤ x → x < 65536 → container_sift_1 k c.1 c.2.1 c.2.2.1 c.2.2.2 x = some (c.1, c.2.1, c.2.2.1, c.2.2.2, !g x)) {a : List Int} (ha : ∀ x, x ∈ a → 0 ≤ x ∧ x < 65536) (hb : a.length < 1000000) : ∀ (rest : List Int) (k j : Nat), j ≤ a.length → a.drop j = rest → rest.length + K + 1 ≤ k →
    ((∀ x, x ∈ rest → g x = true) ∧ slices_IndexFunc_uint16_sift_1_l0 k a c.1 c.2.1 c.2.2.1 c.2.2.2 (a.length : Int) (j : Int) = some (.inr (a, c.1, c.2.1, c.2.2.1, c.2.2.2))) ∨
    (∃ i : Nat, j ≤ i ∧ i < a.length ∧ (∀ x, x ∈ rest.take (i - j) → g x = true) ∧ g (a.getD i 0) = false ∧ slices_IndexFunc_uint16_sift_1_l0 k a c.1 c.2.1 c.2.2.1 c.2.2.2 (a.length : Int) (j : Int) = some (.inl (a, c.1, c.2.1, c.2.2.1, c.2.2.2, (i : Int))))
  | _, 0, _, _, _, hk => by omega
  | [], k + 1, j, hj, h, hk => by
    have := drop_nil h hj
    have q : ¬ ((j : Int) < (a.length : Int)) := by omega
    refine .inl ⟨fun x hx => (nomatch hx), ?_⟩
    rw [slices_IndexFunc_uint16_sift_1_l0, decide_eq_false q]
    rfl
  | x :: s, k + 1, j, hj, h, hk => by
    obtain ⟨h1, h2, h3⟩ := drop_cons h (0 : Int)
    have hx := ha x (List.mem_of_mem_drop (by rw [h]; simp))
    have q : ((j : Int) < (a.length : Int)) := by omega
    have q0 : (0 : Int) ≤ (j : Int) := by omega
    have e2 : IntKind.wrap .i64 ((j : Int) + 1) = ((j + 1 : Nat) : Int) := by rw [i64_in _ ⟨by omega, by omega⟩]; omega
    have n1 : K ≤ k := by simp at hk; omega
    have n2 : s.length + K + 1 ≤ k := by simp at hk; omega
    have e := hp k x n1 hx.1 hx.2
    rw [slices_IndexFunc_uint16_sift_1_l0, decide_eq_true q, decide_eq_true q0, Int.toNat_natCast, h2]
    simp only [cond_true, e, Option.bind_some, e2]
    cases hg : g x with
    | false =>
      refine .inr ⟨j, Nat.le_refl _, h1, fun y hy => ?_, by rw [h2]; exact hg, rfl⟩
      rw [Nat.sub_self] at hy
      cases hy
    | true =>
      simp only [Bool.not_true, cond_false]
      rcases Idx_o_l0 hp ha hb s k (j + 1) (by omega) h3 n2 with ⟨r1, r2⟩ | ⟨i, r1, r2, r3, r4, r5⟩
      · refine .inl ⟨fun y hy => ?_, r2⟩
        rcases List.mem_cons.1 hy with rfl | hy
        · exact hg
        · exact r1 y hy
      · refine .inr ⟨i, by omega, r2, fun y hy => ?_, r4, r5⟩
        rw [show i - j = (i - (j + 1)) + 1 by omega, List.take_succ_cons] at hy
        rcases List.mem_cons.1 hy with rfl | hy
        · exact hg
        · exact r3 y hy
theorem Del_o_l0 {g : Int → Bool} {c : Cont} {K : Nat} (hp : ∀ k x, K ≤ k → 0 ≤ x → x < 65536 → container_sift_1 k c.1 c.2.1 c.2.2.1 c.2.2.2 x = some (c.1, c.2.1, c.2.2.1, c.2.2.2, !g x)) {n : Nat} (hb : n < 1000000) : ∀ (rest : List Int) (k i j : Nat) (a : List Int), (∀ x, x ∈ rest → 0 ≤ x ∧ x < 65536) → a.length = n → i < j → j ≤ n → a.drop j = rest → rest.length + K + 1 ≤ k →
    ∃ a', slices_DeleteFunc_uint16_sift_1_l0 k a c.1 c.2.1 c.2.2.1 c.2.2.2 (i : Int) (j : Int) = some (a', c.1, c.2.1, c.2.2.1, c.2.2.2, ((i + (rest.filter g).length : Nat) : Int)) ∧ a'.length = n ∧ a'.take (i + (rest.filter g).length) = a.take i ++ rest.filter g
  | _, 0, _, _, _, _, _, _, _, _, hk => by omega
  | [], k + 1, i, j, a, hx, hn, hij, hj, h, hk => by
    have := drop_nil h (by omega)
    have q : ¬ ((j : Int) < (a.length : Int)) := by omega
    refine ⟨a, ?_, hn, by simp⟩
    rw [slices_DeleteFunc_uint16_sift_1_l0, decide_eq_false q]
    rfl
  | x :: s, k + 1, i, j, a, hx, hn, hij, hj, h, hk => by
    obtain ⟨h1, h2, h3⟩ := drop_cons h (0 : Int)
    have hx0 := hx x (by simp)
    have hxs : ∀ y, y ∈ s → 0 ≤ y ∧ y < 65536 := fun y hy => hx y (by simp [hy])
    have q : ((j : Int) < (a.length : Int)) := by omega
    have q0 : (0 : Int) ≤ (j : Int) := by omega
    have q1 : (0 : Int) ≤ (i : Int) := by omega
    have q2 : ((i : Int) < (a.length : Int)) := by omega
    have e2 : IntKind.wrap .i64 ((j : Int) + 1) = ((j + 1 : Nat) : Int) := by rw [i64_in _ ⟨by omega, by omega⟩]; omega
    have e3 : IntKind.wrap .i64 ((i : Int) + 1) = ((i + 1 : Nat) : Int) := by rw [i64_in _ ⟨by omega, by omega⟩]; omega
    have n1 : K ≤ k := by simp at hk; omega
    have n2 : s.length + K + 1 ≤ k := by simp at hk; omega
    have e := hp k x n1 hx0.1 hx0.2
    rw [slices_DeleteFunc_uint16_sift_1_l0, decide_eq_true q, decide_eq_true q0, decide_eq_true q1, decide_eq_true q2, Int.toNat_natCast, h2, Int.toNat_natCast]
    simp only [cond_true, e, Option.bind_some, e2, e3]
    cases hg : g x with
    | true =>
      simp only [Bool.not_true, Bool.not_false, cond_true, cond_false]
      obtain ⟨a', r1, r2, r3⟩ := Del_o_l0 hp hb s k (i + 1) (j + 1) (a.set i x) hxs (by simp [hn]) (by omega) (by omega) (by rw [set_take (by omega), h3]) n2
      have e4 : i + ((x :: s).filter g).length = i + 1 + (s.filter g).length := by rw [List.filter_cons, if_pos hg, List.length_cons]; omega
      refine ⟨a', ?_, r2, ?_⟩
      · rw [e4]; exact r1
      · rw [e4, r3, set_snoc (by omega), List.filter_cons, if_pos hg, List.append_assoc]
        rfl
    | false =>
      simp only [Bool.not_true, Bool.not_false, cond_true, cond_false]
      obtain ⟨a', r1, r2, r3⟩ := Del_o_l0 hp hb s k i (j + 1) a hxs hn (by omega) (by omega) h3 n2
      have e4 : (x :: s).filter g = s.filter g := by rw [List.filter_cons, if_neg (by rw [hg]; decide)]
      exact ⟨a', by rw [e4]; exact r1, r2, by rw [e4]; exact r3⟩
theorem Delete_o {g : Int → Bool} {c : Cont} {K k : Nat} (hp : ∀ k x, K ≤ k → 0 ≤ x → x < 65536 → container_sift_1 k c.1 c.2.1 c.2.2.1 c.2.2.2 x = some (c.1, c.2.1, c.2.2.1, c.2.2.2, !g x)) {a : List Int} (ha : ∀ x, x ∈ a → 0 ≤ x ∧ x < 65536) (hb : a.length < 1000000) (hk : a.length + K + 1 ≤ k) :
    slices_DeleteFunc_uint16_sift_1 k a c.1 c.2.1 c.2.2.1 c.2.2.2 = some (c.1, c.2.1, c.2.2.1, c.2.2.2, a.filter g) := by
  unfold slices_DeleteFunc_uint16_sift_1 slices_IndexFunc_uint16_sift_1
  rcases Idx_o_l0 hp ha hb a k 0 (by omega) rfl hk with ⟨r1, r2⟩ | ⟨i, _, r2, r3, r4, r5⟩
  · have r2' : slices_IndexFunc_uint16_sift_1_l0 k a c.1 c.2.1 c.2.2.1 c.2.2.2 (a.length : Int) 0 = some (.inr (a, c.1, c.2.1, c.2.2.1, c.2.2.2)) := r2
    rw [r2', filter_all r1]
    rfl
  · have r5' : slices_IndexFunc_uint16_sift_1_l0 k a c.1 c.2.1 c.2.2.1 c.2.2.2 (a.length : Int) 0 = some (.inl (a, c.1, c.2.1, c.2.2.1, c.2.2.2, (i : Int))) := r5
    have hd : a.drop i = a.getD i 0 :: a.drop (i + 1) := by
      rw [List.drop_eq_getElem_cons r2]
      simp [List.getD, r2]
    have hf : a.filter g = a.take i ++ (a.drop (i + 1)).filter g := by
      conv => lhs; rw [← List.take_append_drop i a, List.filter_append, hd, List.filter_cons, if_neg (by rw [r4]; decide)]
      rw [filter_all (l := a.take i) (fun x hx => r3 x (by rw [Nat.sub_zero]; exact hx))]
    have hm1 : ¬ ((i : Int) = -1) := by omega
    have e2 : IntKind.wrap .i64 ((i : Int) + 1) = ((i + 1 : Nat) : Int) := by rw [i64_in _ ⟨by omega, by omega⟩]; omega
    have hl := List.length_drop (i := i + 1) (l := a)
    have hl2 := List.length_filter_le g (a.drop (i + 1))
    obtain ⟨a', s1, s2, s3⟩ := Del_o_l0 hp (n := a.length) hb (a.drop (i + 1)) k i (i + 1) a (fun x hx => ha x (List.mem_of_mem_drop hx)) rfl (by omega) (by omega) rfl (by omega)
    generalize hq : i + ((a.drop (i + 1)).filter g).length = q at s1 s3
    have c0 : (0 : Int) ≤ (q : Int) := by omega
    have c1 : ((q : Int) ≤ ((List.length a' : Nat) : Int)) := by omega
    have c2 : Nat.blt q (List.length a') = true := by
      have : q < a'.length := by omega
      exact Nat.ble_eq_true_of_le this
    have c3 : (List.take q a' ++ List.replicate (List.length a' - q) (0 : Int)).length = a'.length := by
      rw [List.length_append, List.length_take, List.length_replicate]; omega
    have c4 : 0 < List.length a' := by omega
    have c5 : (List.take q a' ++ List.replicate (List.length a' - q) (0 : Int)).take q = a'.take q := by
      rw [List.take_append_of_le_length (by rw [List.length_take]; omega), List.take_take, Nat.min_self]
    rw [r5', hf]
    simp only [Option.bind_some, decide_eq_false hm1, cond_false, e2]
    rw [s1]
    simp only [Option.bind_some, decide_eq_true c0, decide_eq_true c1, cond_true, Int.toNat_natCast, c2, c3, decide_eq_true c4, c5]
    rw [s3]

theorem sift_hasn {c : Cont} {g : Int → Bool} {k : Nat} {x : Int} (hs : Sup g) (h : IsC c g) (hk : 140000 ≤ k) (h0 : 0 ≤ x) (h1 : x < 65536) : container_sift_1 k c.1 c.2.1 c.2.2.1 c.2.2.2 x = some (c.1, c.2.1, c.2.2.1, c.2.2.2, !(!g x)) := by
  have e : container_Container_Has k (c.1, (c.2.1, (c.2.2.1, c.2.2.2))) x = some (g x) := CHas hs h hk ⟨h0, h1⟩
  unfold container_sift_1 container_Container_AndNot_1
  rw [e]
  rfl
theorem sift_AndNot {c : Cont} {f g : Int → Bool} {k : Nat} (hf : Sup f) (hs : Sup g) (h : IsC c g) (hk : 300000 ≤ k) : ∃ e, container_sift_Container_AndNot_1 k c.1 c.2.1 c.2.2.1 c.2.2.2 (mem f) = some (c.1, c.2.1, c.2.2.1, c.2.2.2, e) ∧ IsC e (fun x => f x && !g x) ∧ max e.1 1 = kF (nF (fun x => f x && !g x)) (rF (fun x => f x && !g x)) := by
  have hl := mem_le f
  have hm : ∀ x, x ∈ mem f → 0 ≤ x ∧ x < 65536 := fun x hx => ((mem_iff f x).1 hx).1
  have d := Delete_o (g := fun x => !g x) (c := c) (K := 140000) (k := k) (fun k x hk h0 h1 => sift_hasn hs h hk h0 h1) (a := mem f) hm (by omega) (by omega)
  rw [mem_filter] at d
  obtain ⟨e, e1, e2, e3⟩ := CCanon (k := k) (f := fun x => f x && !g x) (fun x hx => by simp only [hf x hx, Bool.false_and]) (IsC.arr (w := []) (r := []) (.inr rfl)) (by omega)
  refine ⟨e, ?_, e2, e3⟩
  unfold container_sift_Container_AndNot_1
  rw [clone16_eq (by omega)]
  simp only [Option.bind_some, d, e1]

theorem tk_Or1 (k : Nat) : arrays_Or_1 k true true = some (or true true) := rfl
theorem tk_Or2 (k : Nat) : arrays_Or_1 k true false = some (or true false) := rfl
theorem tk_Or3 (k : Nat) : arrays_Or_1 k false true = some (or false true) := rfl
theorem Merge_Or_l0 : ∀ (d k : Nat) (acc a b : List Int) (m : Int), a.length + b.length ≤ d → d + 1 ≤ k → acc.length + d ≤ 1000000 → ris m a → ris m b →
    ∃ r, arrays_merge_Or_1_l0 k acc a b = some (acc ++ r) ∧ ris m r ∧ ∀ x, x ∈ r ↔ or (decide (x ∈ a)) (decide (x ∈ b)) = true
  | d, 0, acc, a, b, m, hd, hk, _, _, _ => by omega
  | d, k + 1, acc, a, b, m, hd, hk, hn, ha, hb => by
    have put : ∀ (c : Bool) (z : Int) (a' b' : List Int), a'.length + b'.length + 1 ≤ d → m ≤ z → z < 65536 → ris (z + 1) a' → ris (z + 1) b' → (∀ x, x ≠ z → ((x ∈ a' ↔ x ∈ a) ∧ (x ∈ b' ↔ x ∈ b))) → c = or (decide (z ∈ a)) (decide (z ∈ b)) →
        ∃ r, (bif c then bif decide ((List.length acc + List.length [z]) * 2 ≤ 140737488355328) then bif decide (List.length acc + List.length [z] ≤ 140737488355328) then arrays_merge_Or_1_l0 k (acc ++ [z]) a' b' else none else none else arrays_merge_Or_1_l0 k acc a' b') = some (acc ++ r) ∧ ris m r ∧ ∀ x, x ∈ r ↔ or (decide (x ∈ a)) (decide (x ∈ b)) = true := by
      intro c z a' b' hd' hz1 hz2 ha' hb' hx hc
      have dx : ∀ x, x ≠ z → decide (x ∈ a') = decide (x ∈ a) := fun x q => by rw [Bool.eq_iff_iff, decide_eq_true_eq, decide_eq_true_eq]; exact (hx x q).1
      have dy : ∀ x, x ≠ z → decide (x ∈ b') = decide (x ∈ b) := fun x q => by rw [Bool.eq_iff_iff, decide_eq_true_eq, decide_eq_true_eq]; exact (hx x q).2
      have hz : ∀ r : List Int, ris (z + 1) r → ∀ x, x ∈ r → x ≠ z := fun r hr x hx he => by
        have := (ris_low hr hx).1
        omega
      cases hcc : c with
      | true =>
        obtain ⟨r, r1, r2, r3⟩ := Merge_Or_l0 (d - 1) k (acc ++ [z]) a' b' (z + 1) (by omega) (by omega) (by simp; omega) ha' hb'
        have g1 : decide ((List.length acc + List.length [z]) * 2 ≤ 140737488355328) = true := decide_eq_true (by simp only [List.length_cons, List.length_nil]; omega)
        have g2 : decide (List.length acc + List.length [z] ≤ 140737488355328) = true := decide_eq_true (by simp only [List.length_cons, List.length_nil]; omega)
        refine ⟨z :: r, by rw [g1, g2, cond_true, cond_true, cond_true, r1, List.append_assoc]; rfl, ⟨hz1, hz2, r2⟩, fun x => ?_⟩
        by_cases q : x = z
        · subst q
          rw [← hc, hcc]
          simp
        · rw [List.mem_cons, r3 x, dx x q, dy x q]
          simp [q]
      | false =>
        obtain ⟨r, r1, r2, r3⟩ := Merge_Or_l0 (d - 1) k acc a' b' (z + 1) (by omega) (by omega) (by omega) ha' hb'
        refine ⟨r, by rw [cond_false, r1], ris_mono r2 (by omega), fun x => ?_⟩
        by_cases q : x = z
        · subst q
          rw [← hc, hcc]
          exact ⟨fun h => absurd rfl (hz r r2 x h), fun h => absurd h (by decide)⟩
        · rw [r3 x, dx x q, dy x q]
    cases a with
    | nil =>
      cases b with
      | nil =>
        refine ⟨[], ?_, trivial, fun x => ?_⟩
        · rw [arrays_merge_Or_1_l0, List.append_nil]
          rfl
        · refine ⟨fun h => (nomatch h), fun h => absurd h ?_⟩
          rw [decide_eq_false (List.not_mem_nil)]
          decide
      | cons y t =>
        obtain ⟨b1, b2, b3⟩ := hb
        have h1 : ¬ ((0 : Int) < ((List.length ([] : List Int) : Nat) : Int)) := by simp
        have h2 : (((List.length ([] : List Int) : Nat) : Int) = 0) := rfl
        have h3 : ((0 : Int) < ((List.length (y :: t) : Nat) : Int)) := by simp only [List.length_cons]; omega
        have h4 : ¬ (((List.length (y :: t) : Nat) : Int) = 0) := by omega
        have h5 : ((1 : Int) ≤ ((List.length (y :: t) : Nat) : Int)) := by omega
        have g1 : (y :: t).getD (Int.toNat 0) (0 : Int) = y := rfl
        have g2 : (y :: t).drop (Int.toNat 1) = t := rfl
        obtain ⟨r, r1, r2, r3⟩ := put (or false true) y [] t (by simp only [List.length_cons, List.length_nil] at hd ⊢; omega) b1 b2 trivial b3 (fun x hx => ⟨Iff.rfl, by simp [hx]⟩) (by simp)
        refine ⟨r, ?_, r2, r3⟩
        rw [arrays_merge_Or_1_l0]
        simp only [h1, h2, h3, h4, h5, g1, g2, decide_true, decide_false, cond_true, cond_false, tk_Or1, tk_Or2, tk_Or3, Option.bind_some]
        exact r1
    | cons x s =>
      obtain ⟨a1, a2, a3⟩ := ha
      have h1 : ((0 : Int) < ((List.length (x :: s) : Nat) : Int)) := by simp only [List.length_cons]; omega
      have h2 : ¬ (((List.length (x :: s) : Nat) : Int) = 0) := by omega
      have h5 : ((1 : Int) ≤ ((List.length (x :: s) : Nat) : Int)) := by omega
      have g1 : (x :: s).getD (Int.toNat 0) (0 : Int) = x := rfl
      have g2 : (x :: s).drop (Int.toNat 1) = s := rfl
      cases b with
      | nil =>
        have h3 : ¬ ((0 : Int) < ((List.length ([] : List Int) : Nat) : Int)) := by simp
        have h4 : (((List.length ([] : List Int) : Nat) : Int) = 0) := rfl
        obtain ⟨r, r1, r2, r3⟩ := put (or true false) x s [] (by simp only [List.length_cons, List.length_nil] at hd ⊢; omega) a1 a2 a3 trivial (fun x hx => ⟨by simp [hx], Iff.rfl⟩) (by simp)
        refine ⟨r, ?_, r2, r3⟩
        rw [arrays_merge_Or_1_l0]
        simp only [h1, h2, h3, h4, h5, g1, g2, decide_true, decide_false, cond_true, cond_false, tk_Or1, tk_Or2, tk_Or3, Option.bind_some]
        exact r1
      | cons y t =>
        obtain ⟨b1, b2, b3⟩ := hb
        have h3 : ((0 : Int) < ((List.length (y :: t) : Nat) : Int)) := by simp only [List.length_cons]; omega
        have h4 : ¬ (((List.length (y :: t) : Nat) : Int) = 0) := by omega
        have h6 : ((1 : Int) ≤ ((List.length (y :: t) : Nat) : Int)) := by omega
        have g3 : (y :: t).getD (Int.toNat 0) (0 : Int) = y := rfl
        have g4 : (y :: t).drop (Int.toNat 1) = t := rfl
        have nx : ∀ z, z ∈ s → x < z := fun z hz => by have := (ris_low a3 hz).1; omega
        have ny : ∀ z, z ∈ t → y < z := fun z hz => by have := (ris_low b3 hz).1; omega
        have hd' : s.length + t.length + 2 ≤ d := by simp only [List.length_cons] at hd; omega
        by_cases q1 : x ≤ y
        · by_cases q2 : y ≤ x
          · have : y = x := by omega
            subst this
            obtain ⟨r, r1, r2, r3⟩ := put (or true true) y s t (by omega) a1 a2 a3 b3 (fun x hx => ⟨by simp [hx], by simp [hx]⟩) (by simp)
            refine ⟨r, ?_, r2, r3⟩
            rw [arrays_merge_Or_1_l0]
            simp only [h1, h2, h3, h4, h5, h6, g1, g2, g3, g4, q1, decide_true, decide_false, cond_true, cond_false, tk_Or1, tk_Or2, tk_Or3, Option.bind_some]
            exact r1
          · have hn : ¬ x ∈ y :: t := fun h => by
              rcases List.mem_cons.1 h with h | h
              · omega
              · have := ny x h; omega
            obtain ⟨r, r1, r2, r3⟩ := put (or true false) x s (y :: t) (by simp only [List.length_cons]; omega) a1 a2 a3 ⟨by omega, b2, b3⟩ (fun x hx => ⟨by simp [hx], Iff.rfl⟩) (by rw [decide_eq_false hn]; simp)
            refine ⟨r, ?_, r2, r3⟩
            rw [arrays_merge_Or_1_l0]
            simp only [h1, h2, h3, h4, h5, h6, g1, g2, g3, g4, q1, q2, decide_true, decide_false, cond_true, cond_false, tk_Or1, tk_Or2, tk_Or3, Option.bind_some]
            exact r1
        · have q2 : y ≤ x := by omega
          have hn : ¬ y ∈ x :: s := fun h => by
            rcases List.mem_cons.1 h with h | h
            · omega
            · have := nx y h; omega
          obtain ⟨r, r1, r2, r3⟩ := put (or false true) y (x :: s) t (by simp only [List.length_cons]; omega) b1 b2 ⟨by omega, a2, a3⟩ b3 (fun x hx => ⟨Iff.rfl, by simp [hx]⟩) (by rw [decide_eq_false hn]; simp)
          refine ⟨r, ?_, r2, r3⟩
          rw [arrays_merge_Or_1_l0]
          simp only [h1, h2, h3, h4, h5, h6, g1, g2, g3, g4, q1, q2, decide_true, decide_false, cond_true, cond_false, tk_Or1, tk_Or2, tk_Or3, Option.bind_some]
          exact r1
theorem AOr_eq (f g : Int → Bool) {k : Nat} (hk : 140000 ≤ k) : arrays_Or k (mem f) (mem g) = some (mem fun x => or (f x) (g x)) := by
  have h1 := mem_le f
  have h2 := mem_le g
  obtain ⟨r, r1, r2, r3⟩ := Merge_Or_l0 ((mem f).length + (mem g).length) k [] (mem f) (mem g) 0 (Nat.le_refl _) (by omega) (by simp; omega) (mem_ris f) (mem_ris g)
  have : r = mem fun x => or (f x) (g x) := ris_ext r2 fun x a b => by
    have e1 : decide (x ∈ mem f) = f x := by
      rw [Bool.eq_iff_iff, decide_eq_true_eq, mem_iff]
      exact ⟨fun h => h.2, fun h => ⟨⟨a, b⟩, h⟩⟩
    have e2 : decide (x ∈ mem g) = g x := by
      rw [Bool.eq_iff_iff, decide_eq_true_eq, mem_iff]
      exact ⟨fun h => h.2, fun h => ⟨⟨a, b⟩, h⟩⟩
    rw [r3, e1, e2]
  unfold arrays_Or arrays_merge_Or_1
  rw [r1, this]
  rfl

theorem sup_Or {f g : Int → Bool} (hf : Sup f) (hg : Sup g) : Sup fun x => or (f x) (g x) := fun x hx => by show or (f x) (g x) = false; rw [hf x hx, hg x hx]; rfl
/-- The containers of two sets, of whatever kinds. -/
theorem Pair_Or {c d : Cont} {f g : Int → Bool} {k : Nat} (hf : Sup f) (hg : Sup g) (hc : IsC c f) (hd : IsC d g) (hk : 300000 ≤ k) :
    ∃ e, container_pair_do k c d = some e ∧ IsC e (fun x => or (f x) (g x)) ∧ max e.1 1 = kF (nF fun x => or (f x) (g x)) (rF fun x => or (f x) (g x)) := by
  have hs := sup_Or hf hg
  have wds : ∃ e, ((container_Container_Words k c).bind fun y => (container_Container_Words k d).bind fun z => (words_Or k y z).bind fun w => (container_Container_Canonical k (2, (([] : (List Int)), (w, ([] : (List (Int × Int))))))).bind fun v => some v) = some e ∧ IsC e (fun x => or (f x) (g x)) ∧ max e.1 1 = kF (nF fun x => or (f x) (g x)) (rF fun x => or (f x) (g x)) := by
    obtain ⟨W, w1, w2, w3⟩ := CWords (k := k) hf hc (by omega)
    obtain ⟨V, v1, v2, v3⟩ := CWords (k := k) hg hd (by omega)
    obtain ⟨U, u1, u2, u3⟩ := WOr_eq (k := k) w2 v2 (by omega)
    obtain ⟨e, e1, e2, e3⟩ := CCanon (c := ((2 : Int), (([] : List Int), (up U, ([] : List (Int × Int)))))) (k := k) hs (.wrd u2 fun x hx => by rw [u3 x hx, w3 x hx, v3 x hx]) (by omega)
    exact ⟨e, by rw [w1]; simp only [Option.bind_some, v1, u1, e1], e2, e3⟩
  unfold container_pair_do
  simp only [Kind_eq, Option.bind_some]
  cases hc with
  | arr h =>
    have k1 : ∀ n : Int, n = 0 ∨ n = 1 → max n 1 = 1 := fun n h => by rcases h with h | h <;> subst h <;> rfl
    have n3 : ∀ n : Int, n = 0 ∨ n = 1 → ¬ n = 3 := fun n h => by rcases h with h | h <;> subst h <;> omega
    cases hd with
    | arr h' =>
      obtain ⟨e, e1, e2, e3⟩ := CCanon (c := ((1 : Int), ((mem fun x => or (f x) (g x)), (([] : List Int), ([] : List (Int × Int)))))) (k := k) hs (.arr (.inr rfl)) (by omega)
      exact ⟨e, by simp only [k1 _ h, k1 _ h', decide_true, cond_true, AOr_eq f g (k := k) (by omega), Option.bind_some, e1], e2, e3⟩
    | wrd _ _ => simp only [k1 _ h, n3 _ h, show max (2 : Int) 1 = 2 from rfl, show ¬ (2 : Int) = 1 by omega, decide_true, decide_false, cond_true, cond_false]; exact wds
    | run _ _ _ => simp only [k1 _ h, n3 _ h, show max (3 : Int) 1 = 3 from rfl, show ¬ (3 : Int) = 1 by omega, decide_true, decide_false, cond_true, cond_false]; exact wds
  | wrd hW h =>
    simp only [show max (2 : Int) 1 = 2 from rfl, show ¬ (2 : Int) = 1 by omega, show ¬ (2 : Int) = 3 by omega, decide_false, cond_false]
    exact wds
  | run hm hw h =>
    cases hd with
    | arr h' =>
      have n3 : ∀ n : Int, n = 0 ∨ n = 1 → ¬ n = 3 := fun n h => by rcases h with h | h <;> subst h <;> omega
      simp only [show max (3 : Int) 1 = 3 from rfl, show ¬ (3 : Int) = 1 by omega, n3 _ h', decide_true, decide_false, cond_true, cond_false]
      exact wds
    | wrd _ _ =>
      simp only [show max (3 : Int) 1 = 3 from rfl, show ¬ (3 : Int) = 1 by omega, show ¬ (2 : Int) = 3 by omega, decide_true, decide_false, cond_true, cond_false]
      exact wds
    | run hm' hw' h' =>
      have l1 := runs_len_le hm hw h
      have l2 := runs_len_le hm' hw' h'
      obtain ⟨r2, e2, q⟩ := Or_ans (k := k) hm hm' hw hw' (by omega) (by omega) (by omega)
      obtain ⟨e, e3, i3, k3⟩ := CCanon (c := ((3 : Int), (([] : List Int), (([] : List Int), r2)))) (k := k) hs (.run q.may q.wf (fun x => by rw [q.has, h, h'])) (by omega)
      exact ⟨e, by simp only [show max (3 : Int) 1 = 3 from rfl, show ¬ (3 : Int) = 1 by omega, decide_true, decide_false, cond_true, cond_false, e2, e3, Option.bind_some], i3, k3⟩

theorem COr {c d : Cont} {f g : Int → Bool} {k : Nat} (hf : Sup f) (hg : Sup g) (hc : IsC c f) (hd : IsC d g) (hk : 300000 ≤ k) :
    ∃ e, container_Container_Or k c d = some e ∧ IsC e (fun x => or (f x) (g x)) ∧ max e.1 1 = kF (nF fun x => or (f x) (g x)) (rF fun x => or (f x) (g x)) := by
  obtain ⟨e, e1, e2⟩ := Pair_Or hf hg hc hd hk
  exact ⟨e, by unfold container_Container_Or; rw [e1]; rfl, e2⟩

theorem tk_AndNot1 (k : Nat) : arrays_AndNot_1 k true true = some (ann true true) := rfl
theorem tk_AndNot2 (k : Nat) : arrays_AndNot_1 k true false = some (ann true false) := rfl
theorem tk_AndNot3 (k : Nat) : arrays_AndNot_1 k false true = some (ann false true) := rfl
theorem Merge_AndNot_l0 : ∀ (d k : Nat) (acc a b : List Int) (m : Int), a.length + b.length ≤ d → d + 1 ≤ k → acc.length + d ≤ 1000000 → ris m a → ris m b →
    ∃ r, arrays_merge_AndNot_1_l0 k acc a b = some (acc ++ r) ∧ ris m r ∧ ∀ x, x ∈ r ↔ ann (decide (x ∈ a)) (decide (x ∈ b)) = true
  | d, 0, acc, a, b, m, hd, hk, _, _, _ => by omega
  | d, k + 1, acc, a, b, m, hd, hk, hn, ha, hb => by
    have put : ∀ (c : Bool) (z : Int) (a' b' : List Int), a'.length + b'.length + 1 ≤ d → m ≤ z → z < 65536 → ris (z + 1) a' → ris (z + 1) b' → (∀ x, x ≠ z → ((x ∈ a' ↔ x ∈ a) ∧ (x ∈ b' ↔ x ∈ b))) → c = ann (decide (z ∈ a)) (decide (z ∈ b)) →
        ∃ r, (bif c then bif decide ((List.length acc + List.length [z]) * 2 ≤ 140737488355328) then bif decide (List.length acc + List.length [z] ≤ 140737488355328) then arrays_merge_AndNot_1_l0 k (acc ++ [z]) a' b' else none else none else arrays_merge_AndNot_1_l0 k acc a' b') = some (acc ++ r) ∧ ris m r ∧ ∀ x, x ∈ r ↔ ann (decide (x ∈ a)) (decide (x ∈ b)) = true := by
      intro c z a' b' hd' hz1 hz2 ha' hb' hx hc
      have dx : ∀ x, x ≠ z → decide (x ∈ a') = decide (x ∈ a) := fun x q => by rw [Bool.eq_iff_iff, decide_eq_true_eq, decide_eq_true_eq]; exact (hx x q).1
      have dy : ∀ x, x ≠ z → decide (x ∈ b') = decide (x ∈ b) := fun x q => by rw [Bool.eq_iff_iff, decide_eq_true_eq, decide_eq_true_eq]; exact (hx x q).2
      have hz : ∀ r : List Int, ris (z + 1) r → ∀ x, x ∈ r → x ≠ z := fun r hr x hx he => by
        have := (ris_low hr hx).1
        omega
      cases hcc : c with
      | true =>
        obtain ⟨r, r1, r2, r3⟩ := Merge_AndNot_l0 (d - 1) k (acc ++ [z]) a' b' (z + 1) (by omega) (by omega) (by simp; omega) ha' hb'
        have g1 : decide ((List.length acc + List.length [z]) * 2 ≤ 140737488355328) = true := decide_eq_true (by simp only [List.length_cons, List.length_nil]; omega)
        have g2 : decide (List.length acc + List.length [z] ≤ 140737488355328) = true := decide_eq_true (by simp only [List.length_cons, List.length_nil]; omega)
        refine ⟨z :: r, by rw [g1, g2, cond_true, cond_true, cond_true, r1, List.append_assoc]; rfl, ⟨hz1, hz2, r2⟩, fun x => ?_⟩
        by_cases q : x = z
        · subst q
          rw [← hc, hcc]
          simp
        · rw [List.mem_cons, r3 x, dx x q, dy x q]
          simp [q]
      | false =>
        obtain ⟨r, r1, r2, r3⟩ := Merge_AndNot_l0 (d - 1) k acc a' b' (z + 1) (by omega) (by omega) (by omega) ha' hb'
        refine ⟨r, by rw [cond_false, r1], ris_mono r2 (by omega), fun x => ?_⟩
        by_cases q : x = z
        · subst q
          rw [← hc, hcc]
          exact ⟨fun h => absurd rfl (hz r r2 x h), fun h => absurd h (by decide)⟩
        · rw [r3 x, dx x q, dy x q]
    cases a with
    | nil =>
      cases b with
      | nil =>
        refine ⟨[], ?_, trivial, fun x => ?_⟩
        · rw [arrays_merge_AndNot_1_l0, List.append_nil]
          rfl
        · refine ⟨fun h => (nomatch h), fun h => absurd h ?_⟩
          rw [decide_eq_false (List.not_mem_nil)]
          decide
      | cons y t =>
        obtain ⟨b1, b2, b3⟩ := hb
        have h1 : ¬ ((0 : Int) < ((List.length ([] : List Int) : Nat) : Int)) := by simp
        have h2 : (((List.length ([] : List Int) : Nat) : Int) = 0) := rfl
        have h3 : ((0 : Int) < ((List.length (y :: t) : Nat) : Int)) := by simp only [List.length_cons]; omega
        have h4 : ¬ (((List.length (y :: t) : Nat) : Int) = 0) := by omega
        have h5 : ((1 : Int) ≤ ((List.length (y :: t) : Nat) : Int)) := by omega
        have g1 : (y :: t).getD (Int.toNat 0) (0 : Int) = y := rfl
        have g2 : (y :: t).drop (Int.toNat 1) = t := rfl
        obtain ⟨r, r1, r2, r3⟩ := put (ann false true) y [] t (by simp only [List.length_cons, List.length_nil] at hd ⊢; omega) b1 b2 trivial b3 (fun x hx => ⟨Iff.rfl, by simp [hx]⟩) (by simp)
        refine ⟨r, ?_, r2, r3⟩
        rw [arrays_merge_AndNot_1_l0]
        simp only [h1, h2, h3, h4, h5, g1, g2, decide_true, decide_false, cond_true, cond_false, tk_AndNot1, tk_AndNot2, tk_AndNot3, Option.bind_some]
        exact r1
    | cons x s =>
      obtain ⟨a1, a2, a3⟩ := ha
      have h1 : ((0 : Int) < ((List.length (x :: s) : Nat) : Int)) := by simp only [List.length_cons]; omega
      have h2 : ¬ (((List.length (x :: s) : Nat) : Int) = 0) := by omega
      have h5 : ((1 : Int) ≤ ((List.length (x :: s) : Nat) : Int)) := by omega
      have g1 : (x :: s).getD (Int.toNat 0) (0 : Int) = x := rfl
      have g2 : (x :: s).drop (Int.toNat 1) = s := rfl
      cases b with
      | nil =>
        have h3 : ¬ ((0 : Int) < ((List.length ([] : List Int) : Nat) : Int)) := by simp
        have h4 : (((List.length ([] : List Int) : Nat) : Int) = 0) := rfl
        obtain ⟨r, r1, r2, r3⟩ := put (ann true false) x s [] (by simp only [List.length_cons, List.length_nil] at hd ⊢; omega) a1 a2 a3 trivial (fun x hx => ⟨by simp [hx], Iff.rfl⟩) (by simp)
        refine ⟨r, ?_, r2, r3⟩
        rw [arrays_merge_AndNot_1_l0]
        simp only [h1, h2, h3, h4, h5, g1, g2, decide_true, decide_false, cond_true, cond_false, tk_AndNot1, tk_AndNot2, tk_AndNot3, Option.bind_some]
        exact r1
      | cons y t =>
        obtain ⟨b1, b2, b3⟩ := hb
        have h3 : ((0 : Int) < ((List.length (y :: t) : Nat) : Int)) := by simp only [List.length_cons]; omega
        have h4 : ¬ (((List.length (y :: t) : Nat) : Int) = 0) := by omega
        have h6 : ((1 : Int) ≤ ((List.length (y :: t) : Nat) : Int)) := by omega
        have g3 : (y :: t).getD (Int.toNat 0) (0 : Int) = y := rfl
        have g4 : (y :: t).drop (Int.toNat 1) = t := rfl
        have nx : ∀ z, z ∈ s → x < z := fun z hz => by have := (ris_low a3 hz).1; omega
        have ny : ∀ z, z ∈ t → y < z := fun z hz => by have := (ris_low b3 hz).1; omega
        have hd' : s.length + t.length + 2 ≤ d := by simp only [List.length_cons] at hd; omega
        by_cases q1 : x ≤ y
        · by_cases q2 : y ≤ x
          · have : y = x := by omega
            subst this
            obtain ⟨r, r1, r2, r3⟩ := put (ann true true) y s t (by omega) a1 a2 a3 b3 (fun x hx => ⟨by simp [hx], by simp [hx]⟩) (by simp)
            refine ⟨r, ?_, r2, r3⟩
            rw [arrays_merge_AndNot_1_l0]
            simp only [h1, h2, h3, h4, h5, h6, g1, g2, g3, g4, q1, decide_true, decide_false, cond_true, cond_false, tk_AndNot1, tk_AndNot2, tk_AndNot3, Option.bind_some]
            exact r1
          · have hn : ¬ x ∈ y :: t := fun h => by
              rcases List.mem_cons.1 h with h | h
              · omega
              · have := ny x h; omega
            obtain ⟨r, r1, r2, r3⟩ := put (ann true false) x s (y :: t) (by simp only [List.length_cons]; omega) a1 a2 a3 ⟨by omega, b2, b3⟩ (fun x hx => ⟨by simp [hx], Iff.rfl⟩) (by rw [decide_eq_false hn]; simp)
            refine ⟨r, ?_, r2, r3⟩
            rw [arrays_merge_AndNot_1_l0]
            simp only [h1, h2, h3, h4, h5, h6, g1, g2, g3, g4, q1, q2, decide_true, decide_false, cond_true, cond_false, tk_AndNot1, tk_AndNot2, tk_AndNot3, Option.bind_some]
            exact r1
        · have q2 : y ≤ x := by omega
          have hn : ¬ y ∈ x :: s := fun h => by
            rcases List.mem_cons.1 h with h | h
            · omega
            · have := nx y h; omega
          obtain ⟨r, r1, r2, r3⟩ := put (ann false true) y (x :: s) t (by simp only [List.length_cons]; omega) b1 b2 ⟨by omega, a2, a3⟩ b3 (fun x hx => ⟨Iff.rfl, by simp [hx]⟩) (by rw [decide_eq_false hn]; simp)
          refine ⟨r, ?_, r2, r3⟩
          rw [arrays_merge_AndNot_1_l0]
          simp only [h1, h2, h3, h4, h5, h6, g1, g2, g3, g4, q1, q2, decide_true, decide_false, cond_true, cond_false, tk_AndNot1, tk_AndNot2, tk_AndNot3, Option.bind_some]
          exact r1
theorem AAndNot_eq (f g : Int → Bool) {k : Nat} (hk : 140000 ≤ k) : arrays_AndNot k (mem f) (mem g) = some (mem fun x => ann (f x) (g x)) := by
  have h1 := mem_le f
  have h2 := mem_le g
  obtain ⟨r, r1, r2, r3⟩ := Merge_AndNot_l0 ((mem f).length + (mem g).length) k [] (mem f) (mem g) 0 (Nat.le_refl _) (by omega) (by simp; omega) (mem_ris f) (mem_ris g)
  have : r = mem fun x => ann (f x) (g x) := ris_ext r2 fun x a b => by
    have e1 : decide (x ∈ mem f) = f x := by
      rw [Bool.eq_iff_iff, decide_eq_true_eq, mem_iff]
      exact ⟨fun h => h.2, fun h => ⟨⟨a, b⟩, h⟩⟩
    have e2 : decide (x ∈ mem g) = g x := by
      rw [Bool.eq_iff_iff, decide_eq_true_eq, mem_iff]
      exact ⟨fun h => h.2, fun h => ⟨⟨a, b⟩, h⟩⟩
    rw [r3, e1, e2]
  unfold arrays_AndNot arrays_merge_AndNot_1
  rw [r1, this]
  rfl

theorem sup_AndNot {f g : Int → Bool} (hf : Sup f) (hg : Sup g) : Sup fun x => ann (f x) (g x) := fun x hx => by show ann (f x) (g x) = false; rw [hf x hx, hg x hx]; rfl
/-- The containers of two sets, of whatever kinds. -/
theorem Pair_AndNot {c d : Cont} {f g : Int → Bool} {k : Nat} (hf : Sup f) (hg : Sup g) (hc : IsC c f) (hd : IsC d g) (hk : 300000 ≤ k) :
    ∃ e, container_pair_do_o k c d = some e ∧ IsC e (fun x => ann (f x) (g x)) ∧ max e.1 1 = kF (nF fun x => ann (f x) (g x)) (rF fun x => ann (f x) (g x)) := by
  have hs := sup_AndNot hf hg
  have wds : ∃ e, ((container_Container_Words k c).bind fun y => (container_Container_Words k d).bind fun z => (words_AndNot k y z).bind fun w => (container_Container_Canonical k (2, (([] : (List Int)), (w, ([] : (List (Int × Int))))))).bind fun v => some v) = some e ∧ IsC e (fun x => ann (f x) (g x)) ∧ max e.1 1 = kF (nF fun x => ann (f x) (g x)) (rF fun x => ann (f x) (g x)) := by
    obtain ⟨W, w1, w2, w3⟩ := CWords (k := k) hf hc (by omega)
    obtain ⟨V, v1, v2, v3⟩ := CWords (k := k) hg hd (by omega)
    obtain ⟨U, u1, u2, u3⟩ := WAndNot_eq (k := k) w2 v2 (by omega)
    obtain ⟨e, e1, e2, e3⟩ := CCanon (c := ((2 : Int), (([] : List Int), (up U, ([] : List (Int × Int)))))) (k := k) hs (.wrd u2 fun x hx => by rw [u3 x hx, w3 x hx, v3 x hx]) (by omega)
    exact ⟨e, by rw [w1]; simp only [Option.bind_some, v1, u1, e1], e2, e3⟩
  unfold container_pair_do_o
  simp only [Kind_eq, Option.bind_some]
  cases hc with
  | arr h =>
    have k1 : ∀ n : Int, n = 0 ∨ n = 1 → max n 1 = 1 := fun n h => by rcases h with h | h <;> subst h <;> rfl
    have n3 : ∀ n : Int, n = 0 ∨ n = 1 → ¬ n = 3 := fun n h => by rcases h with h | h <;> subst h <;> omega
    cases hd with
    | arr h' =>
      obtain ⟨e, e1, e2, e3⟩ := CCanon (c := ((1 : Int), ((mem fun x => ann (f x) (g x)), (([] : List Int), ([] : List (Int × Int)))))) (k := k) hs (.arr (.inr rfl)) (by omega)
      exact ⟨e, by simp only [k1 _ h, k1 _ h', decide_true, cond_true, AAndNot_eq f g (k := k) (by omega), Option.bind_some, e1], e2, e3⟩
    | wrd _ _ => simp only [k1 _ h, n3 _ h, show max (2 : Int) 1 = 2 from rfl, show ¬ (2 : Int) = 1 by omega, decide_true, decide_false, cond_true, cond_false]; exact wds
    | run _ _ _ => simp only [k1 _ h, n3 _ h, show max (3 : Int) 1 = 3 from rfl, show ¬ (3 : Int) = 1 by omega, decide_true, decide_false, cond_true, cond_false]; exact wds
  | wrd hW h =>
    simp only [show max (2 : Int) 1 = 2 from rfl, show ¬ (2 : Int) = 1 by omega, show ¬ (2 : Int) = 3 by omega, decide_false, cond_false]
    exact wds
  | run hm hw h =>
    cases hd with
    | arr h' =>
      have n3 : ∀ n : Int, n = 0 ∨ n = 1 → ¬ n = 3 := fun n h => by rcases h with h | h <;> subst h <;> omega
      simp only [show max (3 : Int) 1 = 3 from rfl, show ¬ (3 : Int) = 1 by omega, n3 _ h', decide_true, decide_false, cond_true, cond_false]
      exact wds
    | wrd _ _ =>
      simp only [show max (3 : Int) 1 = 3 from rfl, show ¬ (3 : Int) = 1 by omega, show ¬ (2 : Int) = 3 by omega, decide_true, decide_false, cond_true, cond_false]
      exact wds
    | run hm' hw' h' =>
      have l1 := runs_len_le hm hw h
      have l2 := runs_len_le hm' hw' h'
      obtain ⟨r2, e2, q⟩ := AndNot_ans (k := k) hm hm' hw hw' (by omega) (by omega) (by omega)
      obtain ⟨e, e3, i3, k3⟩ := CCanon (c := ((3 : Int), (([] : List Int), (([] : List Int), r2)))) (k := k) hs (.run q.may q.wf (fun x => by rw [q.has, h, h'])) (by omega)
      exact ⟨e, by simp only [show max (3 : Int) 1 = 3 from rfl, show ¬ (3 : Int) = 1 by omega, decide_true, decide_false, cond_true, cond_false, e2, e3, Option.bind_some], i3, k3⟩

theorem CAndNot {c d : Cont} {f g : Int → Bool} {k : Nat} (hf : Sup f) (hg : Sup g) (hc : IsC c f) (hd : IsC d g) (hk : 300000 ≤ k) :
    ∃ e, container_Container_AndNot k c d = some e ∧ IsC e (fun x => ann (f x) (g x)) ∧ max e.1 1 = kF (nF fun x => ann (f x) (g x)) (rF fun x => ann (f x) (g x)) := by
  unfold container_Container_AndNot
  simp only [Kind_eq, Option.bind_some]
  by_cases q : max c.1 1 = 1
  · obtain ⟨e, e1, e2⟩ := sift_AndNot hf hg hd hk
    exact ⟨e, by rw [decide_eq_true q, arr_of hc q, e1]; rfl, e2⟩
  · obtain ⟨e, e1, e2⟩ := Pair_AndNot hf hg hc hd hk
    exact ⟨e, by rw [decide_eq_false q, e1]; rfl, e2⟩
end Go.Rx.Tryz
/-! Containers, part 5: marks, and what is made of them; three kinds of a set; sizes. -/
namespace Go.Rx.Tryz
open Go.Rx.Plain Go.IntWalk
set_option linter.unusedVariables false
set_option linter.unusedSimpArgs false
def setL (l : List Int) (y : Int) : Bool := decide (y ∈ l)
theorem setL_sup {l : List Int} (h : ∀ y, y ∈ l → 0 ≤ y ∧ y < 65536) : Sup (setL l) := by
  intro x hx
  unfold setL
  rw [decide_eq_false]
  intro hm
  have := h x hm
  omega
theorem OfArray_eq {f : Int → Bool} {k : Nat} (hk : 70000 ≤ k) : container_OfArray k (mem f) = some (((1 : Int), (mem f, (([] : List Int), ([] : List (Int × Int))))), true) := by
  have hl := mem_le f
  unfold container_OfArray
  rw [AMay_eq (mem_ris f) (by omega)]
  simp only [Option.bind_some, Bool.not_true, cond_false]
  rw [clone16_eq (by omega)]
  rfl
theorem SameM (f : Int → Bool) {k : Nat} (hk : 70000 ≤ k) : isinglassref04_Same k (mem f) (mem f) = some true := by
  have hl := mem_le f
  rw [RSame_eq (by omega) (by omega), decide_eq_true rfl]
/-! ### Marks -/
structure IsM (M : List Bool) (f : Int → Bool) : Prop where
  len : M.length = 65536
  has : ∀ x : Nat, x < 65536 → M.getD x false = f (x : Int)
theorem setB_get {M : List Bool} {n : Nat} (h : n < M.length) (v : Bool) (x : Nat) : (M.set n v).getD x false = if x = n then v else M.getD x false := by
  rw [List.getD_eq_getElem?_getD, List.getElem?_set, List.getD_eq_getElem?_getD]
  by_cases q : n = x
  · subst q
    rw [if_pos rfl, if_pos h, if_pos rfl]
    rfl
  · have : ¬ x = n := fun h => q h.symm
    rw [if_neg q, if_neg this]
theorem falseB_get (x : Nat) : (List.replicate 65536 false).getD x false = false := by
  rw [List.getD_eq_getElem?_getD, List.getElem?_replicate]
  split <;> rfl
theorem IsM.list {M : List Bool} {f : Int → Bool} {k : Nat} (h : IsM M f) (hk : 65540 ≤ k) : isinglassref04_Marks_List k M = some (M, mem f) := by
  rw [MList_eq h.len hk, mem_def]
  have : memI (fun x => M.getD x.toNat false) 0 65536 = memI f 0 65536 := memI_congr fun x h1 h2 => by
    rw [h.has x.toNat (by omega), show ((x.toNat : Nat) : Int) = x by omega]
  rw [this]
theorem IsM.set {M : List Bool} {f : Int → Bool} (h : IsM M f) {x : Int} (h0 : 0 ≤ x) (h1 : x < 65536) : IsM (M.set x.toNat true) (fun y => f y || decide (y = x)) := by
  have hl := h.len
  refine ⟨by rw [List.length_set]; exact h.len, fun y hy => ?_⟩
  rw [setB_get (by omega), h.has y hy]
  by_cases q : y = x.toNat
  · have : (y : Int) = x := by omega
    rw [if_pos q, decide_eq_true this, Bool.or_true]
  · have : ¬ (y : Int) = x := by omega
    rw [if_neg q, decide_eq_false this, Bool.or_false]
/-- An array of marks, made place by place. -/
structure Done (M M' : List Bool) (f : Int → Bool) (i : Nat) : Prop where
  len : M'.length = 65536
  low : ∀ j, j < i → M'.getD j false = M.getD j false
  high : ∀ j, i ≤ j → j < 65536 → M'.getD j false = f (j : Int)
theorem Done.step {M M' : List Bool} {f : Int → Bool} {i : Nat} {v : Bool} (hi : i < M.length) (hv : v = f (i : Int)) (h : Done (M.set i v) M' f (i + 1)) : Done M M' f i := by
  refine ⟨h.len, fun j hj => ?_, fun j hj hj2 => ?_⟩
  · rw [h.low j (by omega), setB_get hi, if_neg (by omega)]
  · by_cases q : j = i
    · subst q
      rw [h.low j (by omega), setB_get hi, if_pos rfl, hv]
    · exact h.high j (by omega) hj2
theorem Done.all {M M' : List Bool} {f : Int → Bool} (h : Done M M' f 0) : IsM M' f := ⟨h.len, fun x hx => h.high x (Nat.zero_le _) hx⟩
def opN (n : Int) (a b : Bool) : Bool := if n = 1 then a && b else if n = 2 then a || b else if n = 3 then a && !b else a != b
def fl (f : Int → Bool) (lo hi x : Int) : Bool := f x != (decide (lo ≤ x) && decide (x < hi))
theorem fl_fx {f : Int → Bool} {lo hi x : Int} (h0 : 0 ≤ x) (h1 : x < 65536) : fl f lo hi x = fx f lo hi x := by
  unfold fl fx
  congr 1
  rw [Bool.eq_iff_iff]
  simp only [Bool.and_eq_true, decide_eq_true_eq]
  omega
theorem add_bit {w t : Nat} (ht : t < 64) (hw : w < 18446744073709551616) (h : ∀ j, t ≤ j → j < 64 → w.testBit j = false) : IntKind.wrap .u64 ((w : Int) + shlI .u64 1 (t : Int)) = ((w ||| (1 <<< t % 18446744073709551616) : Nat) : Int) := by
  have s1 : shlI .u64 1 (t : Int) = ((1 <<< t % 18446744073709551616 : Nat) : Int) := shl64 (a := 1) (by omega)
  have e : 1 <<< t % 18446744073709551616 = 2 ^ t := by
    rw [Nat.shiftLeft_eq, Nat.one_mul]
    exact Nat.mod_eq_of_lt (Nat.pow_lt_pow_right (a := 2) (m := t) (n := 64) (by omega) ht)
  have hlt : w < 2 ^ t := Nat.lt_pow_two_of_testBit w fun j hj => by
    by_cases q : j < 64
    · exact h j hj q
    · exact Nat.testBit_lt_two_pow (Nat.lt_of_lt_of_le (show w < 2 ^ 64 from hw) (Nat.pow_le_pow_right (by omega) (by omega)))
  have hp : 2 ^ t < 2 ^ 64 := Nat.pow_lt_pow_right (a := 2) (m := t) (n := 64) (by omega) ht
  have hs : w + 2 ^ t < 2 ^ 64 := by
    have : 2 ^ (t + 1) ≤ 2 ^ 64 := Nat.pow_le_pow_right (by omega) (by omega)
    rw [Nat.pow_succ] at this
    omega
  have eo := Nat.two_pow_add_eq_or_of_lt hlt 1
  rw [Nat.mul_one] at eo
  rw [s1, e, Nat.or_comm, ← eo, Nat.add_comm (2 ^ t) w]
  exact u64_in _ ⟨by omega, by have : (2 : Nat) ^ 64 = 18446744073709551616 := by decide
                               omega⟩
theorem memI_snoc (f : Int → Bool) (i : Nat) : memI f 0 (i + 1) = memI f 0 i ++ (if f (i : Int) then [(i : Int)] else []) := by
  rw [memI_split]
  congr 1
  unfold memI
  rw [show List.range 1 = [0] from rfl]
  simp only [List.filter_cons, List.filter_nil, Int.natCast_zero, Int.add_zero, Int.zero_add]
  split <;> simp
theorem memI_len (f : Int → Bool) (a : Int) (n : Nat) : (memI f a n).length ≤ n := by
  unfold memI
  rw [List.length_map]
  exact Nat.le_trans (List.length_filter_le _ _) (by rw [List.length_range]; omega)
theorem memI_mem {f : Int → Bool} {n : Nat} {x : Int} (h : x ∈ memI f 0 n) : 0 ≤ x ∧ x < (n : Int) ∧ f x = true := by
  unfold memI at h
  rw [List.mem_map] at h
  obtain ⟨j, h1, h2⟩ := h
  rw [List.mem_filter, List.mem_range] at h1
  rw [Int.zero_add] at h1 h2
  subst h2
  exact ⟨by omega, by omega, h1.2⟩
theorem MRuns_l0_eq {M : List Bool} {f : Int → Bool} (hs : Sup f) (hM : IsM M f) : ∀ (d k i n : Nat), 65536 - i ≤ d → d + 1 ≤ k → i ≤ 65536 → n = (memI (startI f) 0 i).length →
    isinglassref04_Marks_Runs_l0 k M (n : Int) (i : Int) = some (M, ((memI (startI f) 0 65536).length : Int))
  | d, 0, i, n, _, hk, _, _ => by omega
  | d, k + 1, i, n, hd, hk, hi, h => by
    rw [isinglassref04_Marks_Runs_l0]
    by_cases c : (i : Int) < 65536
    · have c0 : (0 : Int) ≤ (i : Int) := by omega
      have b1 : Nat.ble 65536 M.length = true := by rw [hM.len, Nat.ble_eq]; omega
      have e2 : IntKind.wrap .i64 ((i : Int) + 1) = ((i + 1 : Nat) : Int) := by rw [i64_in _ ⟨by omega, by omega⟩]; omega
      have hl := memI_len (startI f) 0 i
      have e3 : IntKind.wrap .i64 ((n : Int) + 1) = ((n + 1 : Nat) : Int) := by rw [i64_in _ ⟨by omega, by omega⟩]; omega
      have fa := hM.has i (by omega)
      have hsn := memI_snoc (startI f) i
      have yes : startI f (i : Int) = true → isinglassref04_Marks_Runs_l0 k M ((n + 1 : Nat) : Int) ((i + 1 : Nat) : Int) = some (M, ((memI (startI f) 0 65536).length : Int)) := fun hy =>
        MRuns_l0_eq hs hM (d - 1) k (i + 1) (n + 1) (by omega) (by omega) (by omega) (by rw [hsn, hy, if_pos rfl, List.length_append, ← h]; rfl)
      have nope : startI f (i : Int) = false → isinglassref04_Marks_Runs_l0 k M (n : Int) ((i + 1 : Nat) : Int) = some (M, ((memI (startI f) 0 65536).length : Int)) := fun hy =>
        MRuns_l0_eq hs hM (d - 1) k (i + 1) n (by omega) (by omega) (by omega) (by rw [hsn, hy, if_neg (by decide), List.append_nil, ← h])
      unfold startI at yes nope
      simp only [c, c0, decide_true, cond_true, Int.toNat_natCast, b1, fa, e2, e3]
      cases hf : f (i : Int) with
      | false =>
        simp only [cond_false]
        exact nope (by rw [hf]; rfl)
      | true =>
        simp only [cond_true]
        by_cases hi0 : i = 0
        · have q : ((i : Int) = 0) := by omega
          simp only [decide_eq_true q, cond_true]
          exact yes (by rw [hf, hs _ (.inl (by omega))]; rfl)
        · have q : ¬ ((i : Int) = 0) := by omega
          have e1 : IntKind.wrap .i64 ((i : Int) - 1) = ((i - 1 : Nat) : Int) := by rw [i64_in _ ⟨by omega, by omega⟩]; omega
          have c1 : (0 : Int) ≤ ((i - 1 : Nat) : Int) := by omega
          have c2 : ((i - 1 : Nat) : Int) < 65536 := by omega
          have fb := hM.has (i - 1) (by omega)
          have e9 : ((i - 1 : Nat) : Int) = (i : Int) - 1 := by omega
          simp only [decide_eq_false q, e1, c1, c2, decide_true, cond_true, cond_false, Int.toNat_natCast, fb]
          cases hg : f ((i - 1 : Nat) : Int) with
          | false =>
            simp only [Bool.not_false, cond_true]
            exact yes (by rw [hf, ← e9, hg]; rfl)
          | true =>
            simp only [Bool.not_true, cond_false]
            exact nope (by rw [hf, ← e9, hg]; rfl)
    · have : i = 65536 := by omega
      simp only [c, decide_false, cond_false]
      rw [h, this]
theorem MRuns_eq {M : List Bool} {f : Int → Bool} {k : Nat} (hs : Sup f) (hM : IsM M f) (hk : 65540 ≤ k) : isinglassref04_Marks_Runs k M = some (M, rF f) := by
  have r1 := MRuns_l0_eq hs hM 65536 k 0 0 (by omega) (by omega) (by omega) (by simp [memI])
  have r1' : isinglassref04_Marks_Runs_l0 k M 0 0 = some (M, ((memI (startI f) 0 65536).length : Int)) := r1
  unfold isinglassref04_Marks_Runs
  rw [r1', rF_def]
  rfl
theorem RKind_eq {M : List Bool} {f : Int → Bool} {k : Nat} (hs : Sup f) (hM : IsM M f) (hk : 65540 ≤ k) : isinglassref07_Kind k M = some (M, kF (nF f) (rF f)) := by
  have b1 := nF_bound f
  have b2 := rF_bound f
  have e1 := hM.list hk
  have e2 := MRuns_eq hs hM hk
  have hn : ((mem f).length : Int) = nF f := rfl
  generalize mem f = l at e1 hn
  generalize nF f = n at *
  generalize rF f = m at *
  unfold isinglassref07_Kind
  rw [e1]
  simp only [Option.bind_some, e2, hn]
  have w1 : IntKind.wrap .i64 (4 * m) = 4 * m := i64_in _ ⟨by omega, by omega⟩
  have w2 : IntKind.wrap .i64 (2 + 4 * m) = 2 + 4 * m := i64_in _ ⟨by omega, by omega⟩
  have w3 : IntKind.wrap .i64 (2 * n) = 2 * n := i64_in _ ⟨by omega, by omega⟩
  simp only [w1, w2, w3]
  rw [canon_body]
  rcases kF_cases n m with q | q | q
  · rw [if_pos q, q]
  · rw [if_neg (by rw [q]; decide), if_pos q, q]
  · rw [if_neg (by rw [q]; decide), if_neg (by rw [q]; decide), q]
/-! ### Made of numbers, as a kind -/
theorem OfWords_eq {W : List Nat} {k : Nat} (hW : wfW W) : container_OfWords k (up W) = some (((2 : Int), (([] : List Int), (up W, ([] : List (Int × Int))))), true) := by
  have hl : (up W).length = 1024 := by rw [up_len, hW.1]
  unfold container_OfWords
  rw [hl, clone64_eq (by omega)]
  rfl
theorem OfRuns_eq {r : List Run} {k : Nat} (hm : mayF 0 r = true) (hw : wfR r) (hb : r.length ≤ 65536) (hk : 65540 ≤ k) : container_OfRuns k r = some (((3 : Int), (([] : List Int), (([] : List Int), r))), true) := by
  unfold container_OfRuns
  rw [May_eq hw (by omega) (by omega), hm]
  simp only [Option.bind_some, Bool.not_true, cond_false]
  rw [clone_eq (by omega)]
  rfl
end Go.Rx.Tryz

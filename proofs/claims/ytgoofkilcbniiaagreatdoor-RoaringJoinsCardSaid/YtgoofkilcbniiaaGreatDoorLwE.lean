/- LwE: texts of one kind, laid side by side. -/
import Derived.Test.YtgoofkilcbniiaaGreatDoorLwD
import Derived.Test.YtgoofkilcbniiaaGreatDoorLwC
/-! Counting the numbers of a set below a place; the k-th number. -/
namespace Go.Rx.Tryz
open Go.Rx.Plain Go.IntWalk
set_option linter.unusedVariables false
set_option linter.unusedSimpArgs false
def bel (f : Int → Bool) (x y : Int) : Bool := f y && decide (y < x)
def abv (f : Int → Bool) (x y : Int) : Bool := f y && decide (x ≤ y)
theorem memI_cnt (f : Int → Bool) : ∀ n : Nat, ((memI f 0 n).length : Int) = cnt f n
  | 0 => by simp [memI, cnt]
  | n + 1 => by
    rw [memI_one, List.length_append, cnt, ← memI_cnt f n]
    cases f (n : Int) <;> simp
theorem nF_cnt (f : Int → Bool) : nF f = cnt f 65536 := by
  unfold nF
  rw [mem_def, memI_cnt]
theorem cnt_mono (f : Int → Bool) (n : Nat) : ∀ m : Nat, cnt f n ≤ cnt f (n + m)
  | 0 => Int.le_refl _
  | m + 1 => by
    have := cnt_mono f n m
    rw [← Nat.add_assoc, cnt]
    cases f ((n + m : Nat) : Int) <;> simp <;> omega
theorem cnt_bel (f : Int → Bool) (n : Nat) : ∀ m : Nat, cnt (bel f (n : Int)) (n + m) = cnt f n
  | 0 => by
    have : ∀ j : Nat, j ≤ n → cnt (bel f (n : Int)) j = cnt f j := by
      intro j
      induction j with
      | zero => intro _; rfl
      | succ j ih =>
        intro hj
        rw [cnt, cnt, ih (by omega)]
        unfold bel
        rw [decide_eq_true (by omega), Bool.and_true]
    exact this n (Nat.le_refl _)
  | m + 1 => by
    rw [← Nat.add_assoc, cnt, cnt_bel f n m]
    unfold bel
    rw [decide_eq_false (by omega), Bool.and_false]
    simp
theorem nF_bel (f : Int → Bool) {n : Nat} (h : n ≤ 65536) : nF (bel f (n : Int)) = cnt f n := by
  rw [nF_cnt]
  generalize e : 65536 = N at *
  obtain ⟨m, rfl⟩ : ∃ m, N = n + m := ⟨N - n, by omega⟩
  exact cnt_bel f n m
theorem nF_or {f g : Int → Bool} (h : ∀ i, f i = true → g i = true → False) : nF (fun x => f x || g x) = nF f + nF g := by
  rw [nF_cnt, nF_cnt, nF_cnt, cnt_or _ h]
theorem nF_nonneg (f : Int → Bool) : 0 ≤ nF f := (nF_bound f).1
theorem sumI_add (g h : Int → Int) : ∀ (n : Nat) (a : Int), sumI (fun x => g x + h x) a n = sumI g a n + sumI h a n
  | 0, _ => rfl
  | n + 1, a => by
    rw [sumI, sumI, sumI, sumI_add g h n]
    omega
theorem sumI_nonneg {g : Int → Int} (h : ∀ x, 0 ≤ g x) : ∀ (n : Nat) (a : Int), 0 ≤ sumI g a n
  | 0, _ => Int.le_refl _
  | n + 1, a => by
    rw [sumI]
    have := sumI_nonneg h n (a + 1)
    have := h a
    omega
def cts (F : Int → Bool) (K : Int) : Int := nF (row F K)
theorem tot_def (F : Int → Bool) : tot F = sumI (cts F) 0 65536 := rfl
theorem cts_nonneg (F : Int → Bool) (K : Int) : 0 ≤ cts F K := nF_nonneg _
theorem tot_nonneg (F : Int → Bool) : 0 ≤ tot F := sumI_nonneg (g := cts F) (cts_nonneg F) _ _
theorem row_or (F G : Int → Bool) (K : Int) : row (fun x => F x || G x) K = fun y => row F K y || row G K y := by
  funext y
  unfold row
  cases (decide (0 ≤ y) && decide (y < 65536)) <;> rfl
theorem row_true {F : Int → Bool} {K y : Int} (h : row F K y = true) : (0 ≤ y ∧ y < 65536) ∧ F (K * 65536 + y) = true := by
  unfold row at h
  simp only [Bool.and_eq_true, decide_eq_true_eq] at h
  exact ⟨⟨h.1.1, h.1.2⟩, h.2⟩
theorem tot_or {F G : Int → Bool} (h : ∀ x, F x = true → G x = true → False) : tot (fun x => F x || G x) = tot F + tot G := by
  rw [tot_def, tot_def, tot_def, ← sumI_add]
  refine sumI_congr fun K _ _ => ?_
  show nF (row _ K) = nF (row F K) + nF (row G K)
  rw [row_or, nF_or]
  intro y h1 h2
  exact h _ (row_true h1).2 (row_true h2).2
theorem tot_split (F : Int → Bool) (x : Int) : tot F = tot (bel F x) + tot (abv F x) := by
  rw [← tot_or]
  · congr 1
    funext y
    unfold bel abv
    by_cases q : y < x
    · rw [decide_eq_true q, decide_eq_false (by omega)]; simp
    · rw [decide_eq_false q, decide_eq_true (by omega)]; simp
  · intro y h1 h2
    unfold bel at h1
    unfold abv at h2
    simp only [Bool.and_eq_true, decide_eq_true_eq] at h1 h2
    omega
theorem abv_pos {F : Int → Bool} {x : Int} (h : F x = true) (h0 : 0 ≤ x) (h1 : x < 4294967296) : 1 ≤ tot (abv F x) := by
  have e : abv F x = fun y => ivl x (x + 1) y || abv F (x + 1) y := by
    funext y
    unfold abv ivl
    by_cases q : y = x
    · subst q
      rw [h, decide_eq_true (Int.le_refl _), decide_eq_true (by omega)]
      rfl
    · by_cases q2 : x ≤ y
      · rw [decide_eq_true q2, decide_eq_false (by omega), decide_eq_true (by omega)]; simp
      · rw [decide_eq_false q2, decide_eq_false (p := x + 1 ≤ y) (by omega)]; simp
  rw [e, tot_or, tot_ivl h0 (by omega)]
  · have := tot_nonneg (abv F (x + 1))
    omega
  · intro y a b
    unfold ivl at a
    unfold abv at b
    simp only [Bool.and_eq_true, decide_eq_true_eq] at a b
    omega
/-- The k-th number: as many are below it. -/
structure Nth (F : Int → Bool) (k x : Int) : Prop where
  has : F x = true
  cnt : tot (bel F x) = k
theorem bel_bel (F : Int → Bool) {x y : Int} (h : x ≤ y) : bel (bel F y) x = bel F x := by
  funext z
  unfold bel
  by_cases q : z < x
  · rw [decide_eq_true q, decide_eq_true (by omega)]; simp
  · rw [decide_eq_false q]; simp
theorem Sup32.at {F : Int → Bool} (hF : Sup32 F) {x : Int} (h : F x = true) : 0 ≤ x ∧ x < 4294967296 := by
  apply Classical.byContradiction
  intro q
  rw [hF x (by omega)] at h
  cases h
theorem bel_lt {F : Int → Bool} (hF : Sup32 F) {x y : Int} (hx : F x = true) (h : x < y) : tot (bel F x) < tot (bel F y) := by
  have b := hF.at hx
  have := abv_pos (F := bel F y) (x := x) (by unfold bel; rw [hx, decide_eq_true h]; rfl) b.1 b.2
  have e := tot_split (bel F y) x
  rw [bel_bel F (by omega)] at e
  omega
theorem Nth.unique {F : Int → Bool} (hF : Sup32 F) {k x y : Int} (h : Nth F k x) (g : Nth F k y) : x = y := by
  rcases Int.lt_trichotomy x y with q | q | q
  · have := bel_lt hF h.has q
    have := h.cnt
    have := g.cnt
    omega
  · exact q
  · have := bel_lt hF g.has q
    have := h.cnt
    have := g.cnt
    omega
theorem Nth.lt {F : Int → Bool} (hF : Sup32 F) {k x : Int} (h : Nth F k x) : k < tot F := by
  have b := hF.at h.has
  have := abv_pos h.has b.1 b.2
  have := tot_split F x
  have := h.cnt
  omega
theorem row_bel_lo {F : Int → Bool} {K K' y : Int} (h : K' < K) (hy : 0 ≤ y) : row (bel F (K * 65536 + y)) K' = row F K' := by
  refine row_congr fun z h0 h1 => ?_
  unfold bel
  rw [decide_eq_true (by omega), Bool.and_true]
theorem row_bel_at {F : Int → Bool} {K y : Int} : row (bel F (K * 65536 + y)) K = bel (row F K) y := by
  funext z
  unfold bel
  by_cases q : 0 ≤ z ∧ z < 65536
  · rw [row_in q.1 q.2, row_in q.1 q.2]
    congr 1
    exact decide_eq_decide.2 (by omega)
  · rw [row_sup _ _ z (by omega), row_sup _ _ z (by omega)]
    rfl
theorem row_bel_hi {F : Int → Bool} {K K' y : Int} (h : K < K') (hy : y ≤ 65536) (z : Int) : row (bel F (K * 65536 + y)) K' z = false := by
  unfold row bel
  by_cases q : 0 ≤ z ∧ z < 65536
  · rw [decide_eq_false (p := K' * 65536 + z < K * 65536 + y) (by omega)]; simp
  · have : (decide (0 ≤ z) && decide (z < 65536)) = false := by
      rw [Bool.and_eq_false_iff, decide_eq_false_iff_not, decide_eq_false_iff_not]
      omega
    rw [this]; rfl
theorem sum3 (g : Int → Int) (K : Int) (h0 : 0 ≤ K) {N : Nat} (h1 : K < (N : Int)) : sumI g 0 N = sumI g 0 K.toNat + g K + sumI g (K + 1) (N - K.toNat - 1) := by
  obtain ⟨r, rfl⟩ : ∃ r, N = K.toNat + (1 + r) := ⟨N - K.toNat - 1, by omega⟩
  rw [sumI_split, sumI_split, sumI, sumI, show ((K.toNat : Nat) : Int) = K by omega, show (K.toNat + (1 + r)) - K.toNat - 1 = r by omega, Int.zero_add, show K + ((1 : Nat) : Int) = K + 1 by omega]
  omega
/-- How many are below a place. -/
theorem tot_bel {F : Int → Bool} {K y : Int} (h0 : 0 ≤ K) (h1 : K < 65536) (hy0 : 0 ≤ y) (hy1 : y ≤ 65536) : tot (bel F (K * 65536 + y)) = sumI (cts F) 0 K.toNat + nF (bel (row F K) y) := by
  rw [tot_def, sum3 _ K h0 h1]
  have e1 : sumI (cts (bel F (K * 65536 + y))) 0 K.toNat = sumI (cts F) 0 K.toNat := sumI_congr fun x a b => by
    unfold cts
    rw [row_bel_lo (by omega) hy0]
  have e2 : cts (bel F (K * 65536 + y)) K = nF (bel (row F K) y) := by
    unfold cts
    rw [row_bel_at]
  have e3 : sumI (cts (bel F (K * 65536 + y))) (K + 1) (65536 - K.toNat - 1) = 0 := sumI_zero fun x a b => nF_zero fun z => row_bel_hi (by omega) hy1 z
  rw [e1, e2, e3]
  omega
theorem tot_pre {F : Int → Bool} {K : Int} (h0 : 0 ≤ K) (h1 : K < 65536) : sumI (cts F) 0 K.toNat ≤ tot F := by
  have e := sum3 (cts F) K h0 (N := 65536) (by omega)
  rw [← tot_def] at e
  have a := cts_nonneg F K
  have b := sumI_nonneg (g := cts F) (cts_nonneg F) (65536 - K.toNat - 1) (K + 1)
  omega
end Go.Rx.Tryz
/-! Containers that are no words: how many are below a place, the k-th. -/
namespace Go.Rx.Tryz
open Go.Rx.Plain Go.IntWalk
set_option linter.unusedVariables false
set_option linter.unusedSimpArgs false
theorem ris_take : ∀ {l : List Int} {m : Int} (i : Nat), ris m l → ris m (l.take i)
  | _, _, 0, _ => trivial
  | [], _, _ + 1, _ => trivial
  | a :: t, m, i + 1, ⟨h1, h2, h3⟩ => ⟨h1, h2, ris_take i h3⟩
theorem idx_cnt {f : Int → Bool} {i : Nat} {y : Int} (hi : i ≤ (mem f).length) (hlo : ∀ t p, t < i → (mem f)[t]? = some p → p < y) (hhi : ∀ t p, i ≤ t → (mem f)[t]? = some p → y ≤ p) : nF (bel f y) = (i : Int) := by
  have e : (mem f).take i = mem (bel f y) := ris_ext (ris_take i (mem_ris f)) fun x h0 h1 => by
    constructor
    · intro hx
      obtain ⟨t, ht⟩ := List.getElem?_of_mem hx
      have hti : t < i := by
        have := (List.getElem?_eq_some_iff.1 ht).1
        rw [List.length_take] at this
        omega
      rw [List.getElem?_take_of_lt hti] at ht
      have := hlo t x hti ht
      have := (mem_iff f x).1 (List.mem_of_getElem? ht)
      unfold bel
      rw [this.2, decide_eq_true (by omega)]
      rfl
    · intro hx
      unfold bel at hx
      rw [Bool.and_eq_true, decide_eq_true_eq] at hx
      obtain ⟨t, ht⟩ := List.getElem?_of_mem ((mem_iff f x).2 ⟨⟨h0, h1⟩, hx.1⟩)
      have hti : t < i := Nat.lt_of_not_le fun q => by
        have := hhi t x q ht
        omega
      rw [← List.getElem?_take_of_lt hti] at ht
      exact List.mem_of_getElem? ht
  unfold nF
  rw [← e, List.length_take]
  omega
theorem bel_run {f : Int → Bool} {r : List Run} (hm : mayF 0 r = true) (hw : wfR r) (h : ∀ x, hasB r x = f x) {x : Int} (h0 : 0 ≤ x) (h1 : x ≤ 65536) : rankF r x = nF (bel f x) := by
  obtain ⟨n, rfl⟩ : ∃ n : Nat, x = (n : Int) := ⟨x.toNat, by omega⟩
  rw [nF_bel f (by omega), rank_cnt n hm hw, cnt_congr n h]
theorem CRank {c : Cont} {f : Int → Bool} {k : Nat} {x : Int} (hs : Sup f) (h : IsC c f) (hkd : max c.1 1 ≠ 2) (hk : 140000 ≤ k) (h0 : 0 ≤ x) (h1 : x < 65536) : container_Container_Rank k c x = some (nF (bel f x)) := by
  unfold container_Container_Rank
  rw [Kind_eq, Option.bind_some]
  have z1 : ¬ (1 : Int) = 0 := by omega
  have z3 : ¬ (3 : Int) = 0 := by omega
  have z4 : ¬ (3 : Int) = 1 := by omega
  have z5 : ¬ (3 : Int) = 2 := by omega
  cases h with
  | arr hkk =>
    rename_i kd w r
    have hm : max kd 1 = 1 := by omega
    dsimp only
    rw [hm, decide_eq_false z1, cond_false, decide_eq_true rfl, cond_true]
    unfold container_Container_arrayRank
    dsimp only
    by_cases q : x ≤ 0
    · have : x = ((0 : Nat) : Int) := by omega
      rw [decide_eq_true q, this, nF_bel f (by omega)]
      rfl
    · have q2 : ¬ (65536 : Int) ≤ x := by omega
      have hl := mem_le f
      obtain ⟨i, e, g1, g2, g3⟩ := Find_eq (k := k) (x := x) (mem_ris f) (by omega)
      rw [decide_eq_false q, decide_eq_false q2, cond_false, cond_false, u16_in x ⟨by omega, by omega⟩, e, idx_cnt g1 g2 g3]
      rfl
  | wrd hW h => exact absurd rfl hkd
  | run hm hw hh =>
    rename_i a w r
    have hl := runs_len_le hm hw hh
    have e : max (3 : Int) 1 = 3 := rfl
    dsimp only
    rw [e, decide_eq_false z3, decide_eq_false z4, decide_eq_false z5, cond_false, cond_false, cond_false, decide_eq_true rfl, cond_true]
    unfold container_Container_runsRank
    dsimp only
    rw [Rank_eq (by omega) hw (by omega) (by omega), show max x 0 = x by omega, bel_run hm hw hh h0 (by omega)]
    rfl
theorem sel_some : ∀ {r : List Run} {n : Int}, 0 ≤ n → n < lenF r → ∃ p t k', selF r n = (p :: t, k') ∧ 0 ≤ k'
  | [], n, h0, h => by rw [lenF] at h; omega
  | p :: t, n, h0, h => by
    rw [selF]
    by_cases q : n ≤ p.2
    · exact ⟨p, t, n, by rw [if_pos q], h0⟩
    · rw [if_neg q]
      exact sel_some (by omega) (by rw [lenF] at h; omega)
theorem CSel {c : Cont} {f : Int → Bool} {k : Nat} {n : Int} (hs : Sup f) (h : IsC c f) (hkd : max c.1 1 ≠ 2) (hk : 140000 ≤ k) (h0 : 0 ≤ n) (h1 : n < nF f) :
    ∃ y, container_Container_Select k c n = some (y, true) ∧ 0 ≤ y ∧ y < 65536 ∧ f y = true ∧ nF (bel f y) = n := by
  have hb := nF_bound f
  have z1 : ¬ (1 : Int) = 0 := by omega
  have z3 : ¬ (3 : Int) = 0 := by omega
  have z4 : ¬ (3 : Int) = 1 := by omega
  have z5 : ¬ (3 : Int) = 2 := by omega
  cases h with
  | arr hkk =>
    rename_i kd w r
    obtain ⟨i, rfl⟩ : ∃ i : Nat, n = (i : Int) := ⟨n.toNat, by omega⟩
    have hi : i < (mem f).length := by unfold nF at h1; omega
    have hg := getD_some0 hi
    have hm := (mem_iff f _).1 (List.mem_of_getElem? hg)
    refine ⟨(mem f).getD i 0, ?_, hm.1.1, hm.1.2, hm.2, ?_⟩
    · unfold container_Container_Select
      rw [Kind_eq, Option.bind_some]
      have hm : max kd 1 = 1 := by omega
      have q1 : ¬ (i : Int) < 0 := by omega
      have q2 : ¬ ((mem f).length : Int) ≤ (i : Int) := by omega
      have q3 : (0 : Int) ≤ (i : Int) := by omega
      have q4 : (i : Int) < ((mem f).length : Int) := by omega
      dsimp only
      rw [hm, decide_eq_false z1, cond_false, decide_eq_true rfl, cond_true]
      unfold container_Container_arraySelect
      dsimp only
      simp only [decide_eq_false q1, decide_eq_false q2, decide_eq_true q3, decide_eq_true q4, cond_true, cond_false, Int.toNat_natCast, Option.bind_some]
    · refine idx_cnt (by omega) (fun t p ht hp => ris_lt (mem_ris f) t i p _ ht hp hg) fun t p ht hp => ?_
      rcases Nat.eq_or_lt_of_le ht with q | q
      · subst q
        rw [hg] at hp
        exact Int.le_of_eq (Option.some.inj hp)
      · have := ris_lt (mem_ris f) i t _ p q hg hp
        omega
  | wrd hW h => exact absurd rfl hkd
  | run hm hw hh =>
    rename_i a w r
    have hl := runs_len_le hm hw hh
    have hf := runs_facts hm hw hh
    have e : max (3 : Int) 1 = 3 := rfl
    have key : ∃ x, runs_Select k r n = some (x, true) ∧ 0 ≤ x ∧ x < 65536 ∧ rankF r x = n ∧ hasB r x = true := by
      rcases Select_eq (k := k) hm hw (by omega) (by omega) (n := n) (by omega) (by omega) with g | ⟨x, g, g1, g2, g3, _, g4⟩
      · exfalso
        obtain ⟨p, t, k', es, hk'⟩ := sel_some (r := r) h0 (by rw [hf.2.2]; exact h1)
        unfold runs_Select at g
        rw [show runs_Select_l0 k r n r r.length 0 = runs_Select_l0 k r n r r.length ((0 : Nat) : Int) from rfl, Select_l0_eq hw (by omega) r k n 0 (by omega) rfl (by omega) (by omega) (by omega), es, Option.bind_some] at g
        have q1 : ¬ k' < 0 := by omega
        have q2 : ¬ (((p :: t).length : Nat) : Int) = 0 := by rw [List.length_cons]; omega
        have q3 : (0 : Int) < (((p :: t).length : Nat) : Int) := by rw [List.length_cons]; omega
        dsimp only at g
        rw [decide_eq_false q1, decide_eq_false q2, decide_eq_true q3] at g
        simp at g
      · exact ⟨x, g, g1, g2, g3, g4⟩
    obtain ⟨x, g, g1, g2, g3, g4⟩ := key
    refine ⟨x, ?_, g1, g2, by rw [← hh]; exact g4, by rw [← bel_run hm hw hh g1 (by omega), g3]⟩
    unfold container_Container_Select
    rw [Kind_eq, Option.bind_some]
    dsimp only
    rw [e, decide_eq_false z3, decide_eq_false z4, decide_eq_false z5, cond_false, cond_false, cond_false, decide_eq_true rfl, cond_true]
    unfold container_Container_runsSelect
    dsimp only
    rw [g]
    rfl
end Go.Rx.Tryz
/-! The document's sets of spans: how many are below a place, how many, the k-th, is a number there. -/
namespace Go.Rx.Tryz
open Go.Rx.Plain Go.IntWalk
set_option linter.unusedVariables false
set_option linter.unusedSimpArgs false
theorem bel_cons {p : Int × Int} {t : List (Int × Int)} {m : Int} (h : spF m (p :: t)) (x : Int) : tot (bel (hasS (p :: t)) x) = max 0 (min p.2 x - p.1) + tot (bel (hasS t) x) ∨ m < 0 := by
  by_cases hm : m < 0
  · exact Or.inr hm
  left
  obtain ⟨h1, h2, h3, h4⟩ := h
  have e : bel (hasS (p :: t)) x = fun y => ivl p.1 (min p.2 x) y || bel (hasS t) x y := by
    funext y
    unfold bel ivl
    rw [hasS_cons]
    by_cases q : y < x
    · rw [decide_eq_true q, Bool.and_true, Bool.and_true]
      congr 2
      exact decide_eq_decide.2 (by omega)
    · rw [decide_eq_false q, decide_eq_false (p := y < min p.2 x) (by omega)]
      simp
  rw [e, tot_or, tot_ivl (by omega) (by omega)]
  intro y a b
  unfold ivl at a
  unfold bel at b
  simp only [Bool.and_eq_true, decide_eq_true_eq] at a b
  rw [sp_low h4 (by omega)] at b
  exact absurd b.1 (by simp)
theorem tot_none (x : Int) : tot (bel (hasS []) x) = 0 := by
  rw [tot_def]
  exact sumI_zero fun K _ _ => nF_zero fun y => by
    unfold row bel hasS
    simp
theorem RRank_l0 {l : List (Int × Int)} {x : Int} (hx0 : 0 ≤ x) (hb : l.length < 1000000000000) : ∀ (rest : List (Int × Int)) (k i : Nat) (n m : Int), i ≤ l.length → l.drop i = rest → spF m rest → rest.length + 1 ≤ k → 0 ≤ n → n ≤ m → m ≤ 4294967297 →
    isinglassref08_Set_Rank_l0 k l x n (i : Int) = some (n + tot (bel (hasS rest) x)) ∧ n + tot (bel (hasS rest) x) ≤ 4294967297
  | [], 0, _, _, _, _, _, _, hk, _, _, _ => by simp at hk
  | _ :: _, 0, _, _, _, _, _, _, hk, _, _, _ => by simp at hk
  | [], k + 1, i, n, m, hi, h, hs, hk, h0, h1, h2 => by
    have := drop_nil h hi
    have q : ¬ ((i : Int) < (l.length : Int)) := by omega
    rw [isinglassref08_Set_Rank_l0, decide_eq_false q, tot_none]
    exact ⟨by simp, by omega⟩
  | p :: t, k + 1, i, n, m, hi, h, hs, hk, h0, h1, h2 => by
    obtain ⟨d1, d2, d3⟩ := drop_cons h ((0 : Int), (0 : Int))
    have bc := bel_cons hs x
    obtain ⟨s1, s2, s3, s4⟩ := hs
    have q : ((i : Int) < (l.length : Int)) := by omega
    have q0 : (0 : Int) ≤ (i : Int) := by omega
    have e2 : IntKind.wrap .i64 ((i : Int) + 1) = ((i + 1 : Nat) : Int) := by rw [i64_in _ ⟨by omega, by omega⟩]; omega
    have hk' : t.length + 1 ≤ k := by simp at hk; omega
    have ih := fun (n' : Int) (a : 0 ≤ n') (b : n' ≤ p.2 + 1) (c : p.2 + 1 ≤ 4294967297) => RRank_l0 hx0 hb t k (i + 1) n' (p.2 + 1) (by omega) d3 s4 hk' a b c
    rw [isinglassref08_Set_Rank_l0]
    simp only [decide_eq_true q, decide_eq_true q0, cond_true, Int.toNat_natCast, d2, e2]
    generalize tot (bel (hasS (p :: t)) x) = T at *
    generalize tot (bel (hasS t) x) = T' at *
    have z : n + max 0 (min p.2 x - p.1) + T' = n + T := by omega
    rw [← z]
    by_cases c : x < p.2
    · rw [decide_eq_true c, cond_true]
      by_cases c2 : p.1 < x
      · have w : IntKind.wrap .u64 (IntKind.wrap .u64 (n + x) - p.1) = n + max 0 (min p.2 x - p.1) := by
          rw [u64_in (n + x) ⟨by omega, by omega⟩, u64_in _ ⟨by omega, by omega⟩]
          omega
        rw [decide_eq_true c2, cond_true, w]
        exact ih _ (by omega) (by omega) (by omega)
      · rw [decide_eq_false c2, cond_false, show n + max 0 (min p.2 x - p.1) = n by omega]
        exact ih _ (by omega) (by omega) (by omega)
    · rw [decide_eq_false c, cond_false]
      have w : IntKind.wrap .u64 (IntKind.wrap .u64 (n + p.2) - p.1) = n + max 0 (min p.2 x - p.1) := by
        rw [u64_in (n + p.2) ⟨by omega, by omega⟩, u64_in _ ⟨by omega, by omega⟩]
        omega
      rw [decide_eq_true s2, cond_true, w]
      exact ih _ (by omega) (by omega) (by omega)
theorem sp_bound {l : List (Int × Int)} (h : spF 0 l) : l.length < 1000000000000 := by
  have := sp_len h
  omega
theorem RRank {l : List (Int × Int)} {F : Int → Bool} {x : Int} {k : Nat} (h : spF 0 l) (hF : ∀ y, hasS l y = F y) (hx0 : 0 ≤ x) (hk : l.length + 1 ≤ k) : isinglassref08_Set_Rank k l x = some (tot (bel F x)) := by
  have hFe : hasS l = F := funext hF
  subst hFe
  obtain ⟨e, b⟩ := RRank_l0 hx0 (sp_bound h) l k 0 0 0 (by omega) rfl h hk (by omega) (by omega) (by omega)
  have e' : isinglassref08_Set_Rank_l0 k l x 0 0 = _ := e
  have := tot_nonneg (bel (hasS l) x)
  generalize tot (bel (hasS l) x) = T at *
  unfold isinglassref08_Set_Rank
  rw [e', Option.bind_some, i64_in _ ⟨by omega, by omega⟩, Int.zero_add]
theorem bel_all {F : Int → Bool} (hF : Sup32 F) : bel F 4294967296 = F := by
  funext y
  unfold bel
  by_cases q : y < 4294967296
  · rw [decide_eq_true q, Bool.and_true]
  · rw [hF y (by omega)]; rfl
theorem RLen {l : List (Int × Int)} {F : Int → Bool} {k : Nat} (h : spF 0 l) (hF : ∀ y, hasS l y = F y) (hs : Sup32 F) (hk : l.length + 1 ≤ k) : isinglassref08_Set_Len k l = some (tot F) := by
  unfold isinglassref08_Set_Len
  rw [RRank h hF (by omega) hk, bel_all hs, Option.bind_some]
theorem sp_high {x : Int} (hx : 4294967296 ≤ x) : ∀ {l : List (Int × Int)} {m : Int}, spF m l → hasS l x = false
  | [], _, _ => rfl
  | p :: t, m, ⟨h1, h2, h3, h4⟩ => by
    rw [hasS_cons, sp_high hx h4, decide_eq_false (p := x < p.2) (by omega)]
    simp
theorem nth_cons {p : Int × Int} {t : List (Int × Int)} {m left x : Int} (hm : 0 ≤ m) (h : spF m (p :: t)) (hn : Nth (hasS t) (left - (p.2 - p.1)) x) : Nth (hasS (p :: t)) left x := by
  have hx : p.2 ≤ x := by
    apply Classical.byContradiction
    intro q
    have := hn.has
    rw [sp_low h.2.2.2 (by omega)] at this
    cases this
  refine ⟨by rw [hasS_cons, hn.has, Bool.or_true], ?_⟩
  have a := bel_cons h x
  have b := hn.cnt
  have c := h.2.1
  generalize tot (bel (hasS (p :: t)) x) = T at *
  generalize tot (bel (hasS t) x) = T' at *
  omega
theorem RSel_l0 {l : List (Int × Int)} (hb : l.length < 1000000000000) : ∀ (rest : List (Int × Int)) (k i : Nat) (left m : Int), i ≤ l.length → l.drop i = rest → spF m rest → 0 ≤ m → rest.length + 1 ≤ k → 0 ≤ left → left < 9223372036854775808 →
    (∃ x, isinglassref08_Set_Select_l0 k l left (i : Int) = some (.inl (x, true)) ∧ Nth (hasS rest) left x) ∨ (isinglassref08_Set_Select_l0 k l left (i : Int) = some (.inr ()) ∧ tot (hasS rest) ≤ left)
  | [], 0, _, _, _, _, _, _, _, hk, _, _ => by simp at hk
  | _ :: _, 0, _, _, _, _, _, _, _, hk, _, _ => by simp at hk
  | [], k + 1, i, left, m, hi, h, hs, hm, hk, h0, h1 => by
    have := drop_nil h hi
    have q : ¬ ((i : Int) < (l.length : Int)) := by omega
    right
    rw [isinglassref08_Set_Select_l0, decide_eq_false q]
    refine ⟨rfl, ?_⟩
    have e : bel (hasS []) 0 = hasS [] := by funext y; unfold bel hasS; simp
    rw [← e, tot_none]
    exact h0
  | p :: t, k + 1, i, left, m, hi, h, hs, hm, hk, h0, h1 => by
    obtain ⟨d1, d2, d3⟩ := drop_cons h ((0 : Int), (0 : Int))
    obtain ⟨s1, s2, s3, s4⟩ := hs
    have q : ((i : Int) < (l.length : Int)) := by omega
    have q0 : (0 : Int) ≤ (i : Int) := by omega
    have e2 : IntKind.wrap .i64 ((i : Int) + 1) = ((i + 1 : Nat) : Int) := by rw [i64_in _ ⟨by omega, by omega⟩]; omega
    have hk' : t.length + 1 ≤ k := by simp at hk; omega
    have w : IntKind.wrap .u64 (p.2 - p.1) = p.2 - p.1 := u64_in _ ⟨by omega, by omega⟩
    rw [isinglassref08_Set_Select_l0]
    simp only [decide_eq_true q, decide_eq_true q0, cond_true, Int.toNat_natCast, d2, e2, w]
    by_cases c : left < p.2 - p.1
    · left
      have w2 : IntKind.wrap .u32 (IntKind.wrap .u64 (p.1 + left)) = p.1 + left := by rw [u64_in (p.1 + left) ⟨by omega, by omega⟩, u32_in _ ⟨by omega, by omega⟩]
      refine ⟨p.1 + left, by rw [decide_eq_true c, cond_true, w2], ?_⟩
      refine ⟨by rw [hasS_cons, decide_eq_true (by omega), decide_eq_true (by omega)]; rfl, ?_⟩
      have b := bel_cons (x := p.1 + left) (show spF m (p :: t) from ⟨s1, s2, s3, s4⟩)
      generalize tot (bel (hasS (p :: t)) (p.1 + left)) = T at *
      have z : tot (bel (hasS t) (p.1 + left)) = 0 := by
        have : bel (hasS t) (p.1 + left) = bel (hasS []) 0 := by
          funext y
          unfold bel
          by_cases q : y < p.1 + left
          · rw [sp_low s4 (by omega)]; simp [hasS]
          · rw [decide_eq_false q]; simp [hasS]
        rw [this, tot_none]
      rw [z] at b
      omega
    · have w3 : IntKind.wrap .u64 (left - (p.2 - p.1)) = left - (p.2 - p.1) := u64_in _ ⟨by omega, by omega⟩
      rw [decide_eq_false c, cond_false, w3]
      rcases RSel_l0 hb t k (i + 1) (left - (p.2 - p.1)) (p.2 + 1) (by omega) d3 s4 (by omega) hk' (by omega) (by omega) with ⟨x, e, g⟩ | ⟨e, g⟩
      · exact Or.inl ⟨x, e, nth_cons hm ⟨s1, s2, s3, s4⟩ g⟩
      · refine Or.inr ⟨e, ?_⟩
        have b := bel_cons (x := 4294967296) (show spF m (p :: t) from ⟨s1, s2, s3, s4⟩)
        have a1 : bel (hasS (p :: t)) 4294967296 = hasS (p :: t) := by
          funext y
          unfold bel
          by_cases q : y < 4294967296
          · rw [decide_eq_true q, Bool.and_true]
          · rw [sp_high (Int.not_lt.1 q) (show spF m (p :: t) from ⟨s1, s2, s3, s4⟩)]; rfl
        have a2 : bel (hasS t) 4294967296 = hasS t := by
          funext y
          unfold bel
          by_cases q : y < 4294967296
          · rw [decide_eq_true q, Bool.and_true]
          · rw [sp_high (Int.not_lt.1 q) s4]; rfl
        rw [a1, a2] at b
        generalize tot (hasS (p :: t)) = T at *
        generalize tot (hasS t) = T' at *
        omega
theorem RSel {l : List (Int × Int)} {F : Int → Bool} {n : Int} {k : Nat} (h : spF 0 l) (hF : ∀ y, hasS l y = F y) (h0 : 0 ≤ n) (h1 : n < 9223372036854775808) (hk : l.length + 1 ≤ k) :
    (∃ x, isinglassref08_Set_Select k l n = some (x, true) ∧ Nth F n x) ∨ (isinglassref08_Set_Select k l n = some (0, false) ∧ tot F ≤ n) := by
  have hFe : hasS l = F := funext hF
  subst hFe
  have q : ¬ n < 0 := by omega
  unfold isinglassref08_Set_Select
  rw [decide_eq_false q, cond_false, u64_in n ⟨by omega, by omega⟩]
  rcases RSel_l0 (sp_bound h) l k 0 n 0 (by omega) rfl h (by omega) hk h0 h1 with ⟨x, e, g⟩ | ⟨e, g⟩
  · have e' : isinglassref08_Set_Select_l0 k l n 0 = _ := e
    exact Or.inl ⟨x, by rw [e', Option.bind_some], g⟩
  · have e' : isinglassref08_Set_Select_l0 k l n 0 = _ := e
    exact Or.inr ⟨by rw [e', Option.bind_some], g⟩
end Go.Rx.Tryz
/-! The document's sets of spans: is a number there; the upper halves; lists alike. -/
namespace Go.Rx.Tryz
open Go.Rx.Plain Go.IntWalk
set_option linter.unusedVariables false
set_option linter.unusedSimpArgs false
theorem RHas_l0 {l : List (Int × Int)} {x : Int} (hb : l.length < 1000000000000) : ∀ (rest : List (Int × Int)) (k i : Nat), i ≤ l.length → l.drop i = rest → rest.length + 1 ≤ k →
    isinglassref08_Set_Has_l0 k l x (i : Int) = some (bif hasS rest x then .inl true else .inr ())
  | [], 0, _, _, _, hk => by simp at hk
  | _ :: _, 0, _, _, _, hk => by simp at hk
  | [], k + 1, i, hi, h, hk => by
    have := drop_nil h hi
    have q : ¬ ((i : Int) < (l.length : Int)) := by omega
    rw [isinglassref08_Set_Has_l0, decide_eq_false q]
    rfl
  | p :: t, k + 1, i, hi, h, hk => by
    obtain ⟨d1, d2, d3⟩ := drop_cons h ((0 : Int), (0 : Int))
    have q : ((i : Int) < (l.length : Int)) := by omega
    have q0 : (0 : Int) ≤ (i : Int) := by omega
    have e2 : IntKind.wrap .i64 ((i : Int) + 1) = ((i + 1 : Nat) : Int) := by rw [i64_in _ ⟨by omega, by omega⟩]; omega
    have hk' : t.length + 1 ≤ k := by simp at hk; omega
    have ih := RHas_l0 (x := x) hb t k (i + 1) (by omega) d3 hk'
    rw [isinglassref08_Set_Has_l0, hasS_cons]
    simp only [decide_eq_true q, decide_eq_true q0, cond_true, Int.toNat_natCast, d2, e2]
    by_cases c : p.1 ≤ x
    · by_cases c2 : x < p.2
      · rw [decide_eq_true c, decide_eq_true c2]; rfl
      · rw [decide_eq_true c, decide_eq_false c2, cond_true, cond_false, ih, Bool.and_false, Bool.false_or]
    · rw [decide_eq_false c, cond_false, ih, Bool.false_and, Bool.false_or]
theorem RHas {l : List (Int × Int)} {F : Int → Bool} {x : Int} {k : Nat} (h : spF 0 l) (hF : ∀ y, hasS l y = F y) (hk : l.length + 1 ≤ k) : isinglassref08_Set_Has k l x = some (F x) := by
  have e := RHas_l0 (x := x) (sp_bound h) l k 0 (by omega) rfl hk
  have e' : isinglassref08_Set_Has_l0 k l x 0 = _ := e
  unfold isinglassref08_Set_Has
  rw [e', hF]
  cases F x <;> rfl
theorem SameL_l0 {a : List Int} (hb : a.length < 1000000000000) : ∀ (rest : List Int) (k i : Nat), i ≤ a.length → a.drop i = rest → rest.length + 1 ≤ k → isinglassref04_Same_l0 k a a (i : Int) = some (.inr ())
  | [], 0, _, _, _, hk => by simp at hk
  | _ :: _, 0, _, _, _, hk => by simp at hk
  | [], k + 1, i, hi, h, hk => by
    have := drop_nil h hi
    have q : ¬ ((i : Int) < (a.length : Int)) := by omega
    rw [isinglassref04_Same_l0, decide_eq_false q]
    rfl
  | p :: t, k + 1, i, hi, h, hk => by
    obtain ⟨d1, d2, d3⟩ := drop_cons h (0 : Int)
    have q : ((i : Int) < (a.length : Int)) := by omega
    have q0 : (0 : Int) ≤ (i : Int) := by omega
    have e2 : IntKind.wrap .i64 ((i : Int) + 1) = ((i + 1 : Nat) : Int) := by rw [i64_in _ ⟨by omega, by omega⟩]; omega
    have hk' : t.length + 1 ≤ k := by simp at hk; omega
    have ih := SameL_l0 hb t k (i + 1) (by omega) d3 hk'
    rw [isinglassref04_Same_l0]
    simp only [decide_eq_true q, decide_eq_true q0, cond_true, Int.toNat_natCast, d2, e2, decide_true, Bool.not_true, cond_false, ih]
theorem SameL {a : List Int} {k : Nat} (hb : a.length < 1000000000000) (hk : a.length + 1 ≤ k) : isinglassref04_Same k a a = some true := by
  have e := SameL_l0 hb a k 0 (by omega) rfl hk
  have e' : isinglassref04_Same_l0 k a a 0 = _ := e
  unfold isinglassref04_Same
  rw [decide_eq_true rfl, e']
  rfl
/-- Keys told so far: those of the first spans, and of a part of the next one. -/
structure KTo (out : List Int) (P : Int → Prop) (B : Int) : Prop where
  ris : ris 0 out
  mem : ∀ K, K ∈ out ↔ P K
  top : ∀ K, K ∈ out → K ≤ B
theorem last_mem {out : List Int} (h : out ≠ []) : out.getD (out.length - 1) 0 ∈ out := by
  have : out.length - 1 < out.length := by
    cases out with
    | nil => exact absurd rfl h
    | cons a t => simp
  rw [List.getD_eq_getElem?_getD, List.getElem?_eq_getElem this]
  exact List.getElem_mem this
theorem ris_last : ∀ {l : List Int} {m : Int}, ris m l → ∀ x, x ∈ l → x ≤ l.getD (l.length - 1) 0
  | [a], m, h, x, hx => by
    rw [List.mem_singleton.1 hx]
    exact Int.le_refl _
  | a :: b :: t, m, ⟨h1, h2, h3⟩, x, hx => by
    have ih := ris_last h3
    have e : (a :: b :: t).getD ((a :: b :: t).length - 1) 0 = (b :: t).getD ((b :: t).length - 1) 0 := rfl
    rw [e]
    rcases List.mem_cons.1 hx with q | q
    · have h4 := ih b (by simp)
      have := h3.1
      omega
    · exact ih x q
theorem RKeys_l1 {l : List (Int × Int)} {i : Nat} {q : Int × Int} (hb : l.length < 1000000000000) (hi : i < l.length) (hq : l.getD i ((0 : Int), (0 : Int)) = q) (q0 : 0 ≤ q.1) (q1 : q.1 < q.2) (q2 : q.2 ≤ 4294967296) {P : Int → Prop} : ∀ (d k : Nat) (c : Int) (out : List Int), (q.2 - 1) / 65536 + 1 - c ≤ (d : Int) → d + 1 ≤ k → 0 ≤ c → c ≤ (q.2 - 1) / 65536 + 1 → q.1 / 65536 ≤ c → KTo out (fun K => P K ∨ q.1 / 65536 ≤ K ∧ K < c) c →
    ∃ out', isinglassref08_Set_Keys_l1 k out l (i : Int) c = some (out', l, (i : Int)) ∧ KTo out' (fun K => P K ∨ q.1 / 65536 ≤ K ∧ K ≤ (q.2 - 1) / 65536) ((q.2 - 1) / 65536 + 1)
  | d, 0, c, out, _, hk, _, _, _, _ => by omega
  | d, k + 1, c, out, hd, hk, hc0, hc1, hc2, h => by
    have a1 : (0 : Int) ≤ (i : Int) := by omega
    have a2 : (i : Int) < (l.length : Int) := by omega
    have w1 : IntKind.wrap .u64 (q.2 - 1) = q.2 - 1 := u64_in _ ⟨by omega, by omega⟩
    have w2 : (q.2 - 1).tdiv 65536 = (q.2 - 1) / 65536 := Int.tdiv_eq_ediv_of_nonneg (by omega)
    have w3 : IntKind.wrap .u64 ((q.2 - 1) / 65536) = (q.2 - 1) / 65536 := u64_in _ ⟨by omega, by omega⟩
    rw [isinglassref08_Set_Keys_l1]
    simp only [decide_eq_true a1, decide_eq_true a2, cond_true, Int.toNat_natCast, hq, w1, w2, w3]
    by_cases cc : c ≤ (q.2 - 1) / 65536
    · have w4 : IntKind.wrap .u64 (c + 1) = c + 1 := u64_in _ ⟨by omega, by omega⟩
      have w5 : IntKind.wrap .u16 c = c := u16_in _ ⟨by omega, by omega⟩
      have hol := ris_len h.ris
      have fit1 : (out.length + [c].length) * 2 ≤ 140737488355328 := by simp; omega
      have fit2 : out.length + [c].length ≤ 140737488355328 := by simp; omega
      obtain ⟨d, rfl⟩ : ∃ e, d = e + 1 := ⟨d - 1, by omega⟩
      have new : (∀ x, x ∈ out → x < c) → KTo (out ++ [c]) (fun K => P K ∨ q.1 / 65536 ≤ K ∧ K < c + 1) (c + 1) := fun hx => by
        refine ⟨ris_snoc h.ris hx hc0 (by omega), fun K => ?_, fun K hK => ?_⟩
        · rw [List.mem_append, h.mem, List.mem_singleton]
          constructor
          · rintro ((g | g) | g)
            · exact Or.inl g
            · exact Or.inr (by omega)
            · exact Or.inr (by omega)
          · rintro (g | g)
            · exact Or.inl (Or.inl g)
            · by_cases e : K = c
              · exact Or.inr e
              · exact Or.inl (Or.inr (by omega))
        · rcases List.mem_append.1 hK with g | g
          · have := hx K g
            omega
          · have := List.mem_singleton.1 g
            omega
      rw [decide_eq_true cc, cond_true, w4, w5, decide_eq_true fit1, decide_eq_true fit2]
      by_cases e0 : out = []
      · have z : (out.length : Int) = 0 := by rw [e0]; rfl
        rw [decide_eq_true z]
        simp only [cond_true]
        exact RKeys_l1 hb hi hq q0 q1 q2 d k (c + 1) _ (by omega) (by omega) (by omega) (by omega) (by omega) (new fun x hx => by rw [e0] at hx; cases hx)
      · have hpos : 0 < out.length := List.length_pos_iff.2 e0
        have z : ¬ (out.length : Int) = 0 := by omega
        have w6 : IntKind.wrap .i64 ((out.length : Int) - 1) = ((out.length - 1 : Nat) : Int) := by rw [i64_in _ ⟨by omega, by omega⟩]; omega
        have b1 : (0 : Int) ≤ ((out.length - 1 : Nat) : Int) := by omega
        have b2 : ((out.length - 1 : Nat) : Int) < (out.length : Int) := by omega
        have lm := last_mem e0
        have ll := ris_last h.ris
        rw [decide_eq_false z, w6]
        simp only [cond_false, decide_eq_true b1, decide_eq_true b2, cond_true, Int.toNat_natCast]
        by_cases e1 : out.getD (out.length - 1) 0 = c
        · rw [decide_eq_true e1, Bool.not_true, cond_false]
          refine RKeys_l1 hb hi hq q0 q1 q2 d k (c + 1) _ (by omega) (by omega) (by omega) (by omega) (by omega) ⟨h.ris, fun K => ?_, fun K hK => by have := h.top K hK; omega⟩
          rw [h.mem]
          constructor
          · rintro (g | g)
            · exact Or.inl g
            · exact Or.inr (by omega)
          · rintro (g | g)
            · exact Or.inl g
            · by_cases e : K = c
              · rw [e1] at lm
                rw [e]
                exact (h.mem c).1 lm
              · exact Or.inr (by omega)
        · rw [decide_eq_false e1, Bool.not_false, cond_true]
          refine RKeys_l1 hb hi hq q0 q1 q2 d k (c + 1) _ (by omega) (by omega) (by omega) (by omega) (by omega) (new fun x hx => ?_)
          have := ll x hx
          have := h.top _ lm
          omega
    · rw [decide_eq_false cc]
      have e : c = (q.2 - 1) / 65536 + 1 := by omega
      subst e
      refine ⟨out, rfl, h.ris, fun K => ?_, h.top⟩
      rw [h.mem]
      constructor
      · rintro (g | g)
        · exact Or.inl g
        · exact Or.inr (by omega)
      · rintro (g | g)
        · exact Or.inl g
        · exact Or.inr (by omega)
theorem RKeys_l0 {l : List (Int × Int)} {K0 : Nat} (hK0 : 65540 ≤ K0) (hb : l.length < 1000000000000) : ∀ (rest : List (Int × Int)) (k i : Nat) (m : Int) (out : List Int) (P : Int → Prop), i ≤ l.length → l.drop i = rest → spF m rest → 0 ≤ m → rest.length + K0 + 1 ≤ k → (∀ K, P K → K * 65536 ≤ m) → ris 0 out → (∀ K, K ∈ out ↔ P K) →
    ∃ out', isinglassref08_Set_Keys_l0 k out l (i : Int) = some out' ∧ ris 0 out' ∧ ∀ K, K ∈ out' ↔ P K ∨ ∃ p, p ∈ rest ∧ p.1 / 65536 ≤ K ∧ K ≤ (p.2 - 1) / 65536
  | _, 0, _, _, _, _, _, _, _, _, hk, _, _, _ => by omega
  | [], k + 1, i, m, out, P, hi, h, hs, hm, hk, hP, hr, ho => by
    have := drop_nil h hi
    have q : ¬ ((i : Int) < (l.length : Int)) := by omega
    rw [isinglassref08_Set_Keys_l0, decide_eq_false q]
    refine ⟨out, rfl, hr, fun K => ?_⟩
    rw [ho]
    constructor
    · exact Or.inl
    · rintro (g | ⟨p, g, _⟩)
      · exact g
      · cases g
  | p :: t, k + 1, i, m, out, P, hi, h, hs, hm, hk, hP, hr, ho => by
    obtain ⟨d1, d2, d3⟩ := drop_cons h ((0 : Int), (0 : Int))
    obtain ⟨s1, s2, s3, s4⟩ := hs
    have q : ((i : Int) < (l.length : Int)) := by omega
    have q0 : (0 : Int) ≤ (i : Int) := by omega
    have e2 : IntKind.wrap .i64 ((i : Int) + 1) = ((i + 1 : Nat) : Int) := by rw [i64_in _ ⟨by omega, by omega⟩]; omega
    have hk' : t.length + K0 + 1 ≤ k := by simp at hk; omega
    have w2 : p.1.tdiv 65536 = p.1 / 65536 := Int.tdiv_eq_ediv_of_nonneg (by omega)
    have w3 : IntKind.wrap .u64 (p.1 / 65536) = p.1 / 65536 := u64_in _ ⟨by omega, by omega⟩
    obtain ⟨o1, e1, g1⟩ := RKeys_l1 (P := P) hb d1 d2 (by omega) s2 s3 ((p.2 - 1) / 65536 + 1 - p.1 / 65536).toNat k (p.1 / 65536) out (by omega) (by omega) (by omega) (by omega) (by omega) ⟨hr, fun K => by
      rw [ho]
      constructor
      · exact Or.inl
      · rintro (g | g)
        · exact g
        · omega, fun K hK => by
      have := hP K ((ho K).1 hK)
      omega⟩
    obtain ⟨o2, e3, g2, g3⟩ := RKeys_l0 hK0 hb t k (i + 1) (p.2 + 1) o1 (fun K => P K ∨ p.1 / 65536 ≤ K ∧ K ≤ (p.2 - 1) / 65536) (by omega) d3 s4 (by omega) hk' (fun K g => by
      rcases g with g | g
      · have := hP K g
        omega
      · omega) g1.ris g1.mem
    rw [isinglassref08_Set_Keys_l0]
    simp only [decide_eq_true q, decide_eq_true q0, cond_true, Int.toNat_natCast, d2, e2, w2, w3, e1, Option.bind_some, e3]
    refine ⟨o2, rfl, g2, fun K => ?_⟩
    rw [g3]
    constructor
    · rintro ((g | g) | ⟨r, g, g'⟩)
      · exact Or.inl g
      · exact Or.inr ⟨p, by simp, g⟩
      · exact Or.inr ⟨r, by simp [g], g'⟩
    · rintro (g | ⟨r, g, g'⟩)
      · exact Or.inl (Or.inl g)
      · rcases List.mem_cons.1 g with e | e
        · subst e
          exact Or.inl (Or.inr g')
        · exact Or.inr ⟨r, e, g'⟩
theorem sp_in : ∀ {l : List (Int × Int)} {m : Int}, spF m l → ∀ p, p ∈ l → m ≤ p.1 ∧ p.1 < p.2 ∧ p.2 ≤ 4294967296
  | q :: t, m, ⟨h1, h2, h3, h4⟩, p, hp => by
    rcases List.mem_cons.1 hp with e | e
    · subst e
      exact ⟨h1, h2, h3⟩
    · have := sp_in h4 p e
      exact ⟨by omega, this.2⟩
theorem RKeys {l : List (Int × Int)} {ks : List Int} {cs : List Cont} {F : Int → Bool} {k : Nat} (hs : IsS ks cs F) (h : spF 0 l) (hF : ∀ y, hasS l y = F y) (hk : l.length + 65541 ≤ k) : isinglassref08_Set_Keys k l = some ks := by
  obtain ⟨o, e, g1, g2⟩ := RKeys_l0 (K0 := 65540) (Nat.le_refl _) (sp_bound h) l k 0 0 [] (fun _ => False) (by omega) rfl h (by omega) hk (fun _ g => g.elim) trivial (fun K => by simp)
  have e' : isinglassref08_Set_Keys_l0 k [] l 0 = _ := e
  have : o = ks := ris_eq g1 hs.ris fun K => by
    rw [g2, hs.mem]
    constructor
    · rintro (g | ⟨p, hp, a, b⟩)
      · exact g.elim
      · obtain ⟨b1, b2, b3⟩ := sp_in h p hp
        refine ⟨by omega, max p.1 (K * 65536) - K * 65536, ?_⟩
        rw [row_in (by omega) (by omega), ← hF]
        unfold hasS
        rw [List.any_eq_true]
        exact ⟨p, hp, by rw [decide_eq_true (by omega), decide_eq_true (by omega)]; rfl⟩
    · rintro ⟨hK, y, hy⟩
      obtain ⟨hy0, hy1⟩ := row_true hy
      rw [← hF] at hy1
      unfold hasS at hy1
      rw [List.any_eq_true] at hy1
      obtain ⟨p, hp, hc⟩ := hy1
      rw [Bool.and_eq_true, decide_eq_true_eq, decide_eq_true_eq] at hc
      exact Or.inr ⟨p, hp, by omega, by omega⟩
  unfold isinglassref08_Set_Keys
  rw [e', Option.bind_some, this]
end Go.Rx.Tryz
/-! The document's two sets of spans, edge by edge. -/
namespace Go.Rx.Tryz
open Go.Rx.Plain Go.IntWalk
set_option linter.unusedVariables false
set_option linter.unusedSimpArgs false
theorem RIn (k : Nat) (x y : Bool) (n : Int) : isinglassref08_in k x y n = some (opN n x y) := by
  unfold isinglassref08_in opN
  by_cases c1 : n = 1
  · rw [decide_eq_true c1, if_pos c1]; cases x <;> cases y <;> rfl
  · by_cases c2 : n = 2
    · rw [decide_eq_false c1, decide_eq_true c2, if_neg c1, if_pos c2]; cases x <;> cases y <;> rfl
    · by_cases c3 : n = 3
      · rw [decide_eq_false c1, decide_eq_false c2, decide_eq_true c3, if_neg c1, if_neg c2, if_pos c3]; cases x <;> cases y <;> rfl
      · rw [decide_eq_false c1, decide_eq_false c2, decide_eq_false c3, if_neg c1, if_neg c2, if_neg c3]; cases x <;> cases y <;> rfl
theorem opN_ff (n : Int) : opN n false false = false := by
  unfold opN
  split
  · rfl
  · split
    · rfl
    · split <;> rfl
/-- Where a walk over one set stands. -/
def At1 (s : List (Int × Int)) (x : Bool) (last : Int) : Prop := match x, s with
  | false, [] => True
  | false, p :: _ => last ≤ p.1
  | true, p :: _ => p.1 ≤ last ∧ last ≤ p.2
  | true, [] => False
structure Side (a : List (Int × Int)) (i : Nat) (x : Bool) (last : Int) : Prop where
  le : i ≤ a.length
  has : ∀ z, last ≤ z → hasS a z = hasS (a.drop i) z
  sp : spF 0 (a.drop i)
  at1 : At1 (a.drop i) x last
def mu (a : List (Int × Int)) (i : Nat) (x : Bool) : Nat := 2 * (a.length - i) + (bif x then 0 else 1)
def nxt (i : Nat) (x : Bool) : Nat := bif x then i + 1 else i
theorem sp_weak : ∀ {l : List (Int × Int)} {m n : Int}, spF m l → n ≤ m → spF n l
  | [], _, _, _, _ => trivial
  | p :: t, m, n, ⟨h1, h2, h3, h4⟩, h => ⟨by omega, h2, h3, h4⟩
structure Edge (a : List (Int × Int)) (i : Nat) (x : Bool) (last E : Int) : Prop where
  ge : last ≤ E
  fin : i < a.length → E ≤ 4294967296
  inf : ¬ i < a.length → E = 4611686018427387904 ∧ x = false
  mid : ∀ z, last ≤ z → z < E → hasS a z = x
  go : ∀ nx, last ≤ nx → nx ≤ E → nx ≤ 4294967296 → (E = nx → Side a (nxt i x) (!x) nx ∧ mu a (nxt i x) (!x) + 1 = mu a i x) ∧ (E ≠ nx → Side a i x nx)
theorem REdge {a : List (Int × Int)} {i : Nat} {x : Bool} {last : Int} (k : Nat) (hl : 0 ≤ last) (hl1 : last ≤ 4294967296) (h : Side a i x last) : ∃ E, isinglassref08_Set_edge k a (i : Int) x = some E ∧ Edge a i x last E := by
  obtain ⟨h1, h2, h3, h4⟩ := h
  unfold isinglassref08_Set_edge
  cases hd : a.drop i with
  | nil =>
    rw [hd] at h2 h3 h4
    have hx : x = false := by
      cases x with
      | false => rfl
      | true => exact h4.elim
    have := drop_nil hd h1
    have q : (a.length : Int) ≤ (i : Int) := by omega
    rw [decide_eq_true q, cond_true]
    refine ⟨_, rfl, by omega, fun c => by omega, fun _ => ⟨rfl, hx⟩, fun z hz _ => by rw [h2 z hz, hx]; rfl, fun nx a1 a2 a3 => ⟨fun e => by omega, fun _ => ⟨h1, fun z hz => by rw [h2 z (by omega), hd], by rw [hd]; trivial, by rw [hd, hx]; trivial⟩⟩⟩
  | cons p t =>
    rw [hd] at h2 h3 h4
    obtain ⟨d1, d2, d3⟩ := drop_cons hd ((0 : Int), (0 : Int))
    obtain ⟨s1, s2, s3, s4⟩ := h3
    have q : ¬ (a.length : Int) ≤ (i : Int) := by omega
    have q0 : (0 : Int) ≤ (i : Int) := by omega
    have q1 : (i : Int) < (a.length : Int) := by omega
    rw [decide_eq_false q, cond_false]
    simp only [decide_eq_true q0, decide_eq_true q1, cond_true, Int.toNat_natCast, d2]
    cases x with
    | false =>
      have h4 : last ≤ p.1 := h4
      refine ⟨p.1, rfl, h4, fun _ => by omega, fun c => absurd d1 c, fun z z1 z2 => ?_, fun nx a1 a2 a3 => ⟨fun e => ⟨⟨h1, fun z hz => by rw [h2 z (by omega)]; show _ = hasS (a.drop i) z; rw [hd], ?_, ?_⟩, ?_⟩, fun e => ⟨h1, fun z hz => by rw [h2 z (by omega), hd], ?_, ?_⟩⟩⟩
      · rw [h2 z z1, hasS_cons, decide_eq_false (by omega), sp_low s4 (by omega)]; rfl
      · show spF 0 (a.drop i)
        rw [hd]
        exact ⟨s1, s2, s3, s4⟩
      · show At1 (a.drop i) true nx
        rw [hd]
        exact ⟨by omega, by omega⟩
      · show 2 * (a.length - i) + 0 + 1 = 2 * (a.length - i) + 1
        omega
      · rw [hd]
        exact ⟨s1, s2, s3, s4⟩
      · rw [hd]
        exact a2
    | true =>
      have h4 : p.1 ≤ last ∧ last ≤ p.2 := h4
      refine ⟨p.2, rfl, h4.2, fun _ => by omega, fun c => absurd d1 c, fun z z1 z2 => ?_, fun nx a1 a2 a3 => ⟨fun e => ⟨⟨d1, fun z hz => ?_, ?_, ?_⟩, ?_⟩, fun e => ⟨h1, fun z hz => by rw [h2 z (by omega), hd], ?_, ?_⟩⟩⟩
      · rw [h2 z z1, hasS_cons, decide_eq_true (by omega), decide_eq_true (by omega)]; rfl
      · show _ = hasS (a.drop (i + 1)) z
        rw [d3, h2 z (by omega), hasS_cons, decide_eq_false (p := z < p.2) (by omega), Bool.and_false, Bool.false_or]
      · show spF 0 (a.drop (i + 1))
        rw [d3]
        exact sp_weak s4 (by omega)
      · show At1 (a.drop (i + 1)) false nx
        rw [d3]
        cases t with
        | nil => trivial
        | cons r t =>
          have := s4.1
          show nx ≤ r.1
          omega
      · show 2 * (a.length - (i + 1)) + 1 + 1 = 2 * (a.length - i) + 0
        omega
      · rw [hd]
        exact ⟨s1, s2, s3, s4⟩
      · rw [hd]
        exact ⟨by omega, a2⟩
/-- What is laid down in one turn, whatever follows. -/
theorem bothStep {G : Int → Bool} {out : List (Int × Int)} {last nx : Int} {b : Bool} {P : List (Int × Int) → Prop} (R : List (Int × Int) → Option (List (Int × Int))) (hs : SpTo out G last) (h0 : 0 ≤ last) (h1 : last ≤ nx) (h2 : nx ≤ 4294967296) (hG : ∀ z, last ≤ z → z < nx → G z = b)
    (hR : ∀ o, SpTo o G nx → ∃ r, R o = some r ∧ P r) :
    ∃ r, (bif b then
 bif (decide (last < nx)) then
 bif (decide ((0 : Int) < (out.length : Int))) then
 let v127 := IntKind.wrap .i64 ((out.length : Int) - 1)
 bif decide ((0 : Int) ≤ v127) then
 bif decide (v127 < (out.length : Int)) then
 bif (decide ((out.getD (Int.toNat v127) ((0 : Int), (0 : Int))).2 = last)) then
 let v130 := IntKind.wrap .i64 ((out.length : Int) - 1)
 bif decide ((0 : Int) ≤ v130) then
 bif decide (v130 < (out.length : Int)) then
 R (out.set (Int.toNat v130) (((out.getD (Int.toNat v130) ((0 : Int), (0 : Int)))).1, nx))
 else none
 else none
 else
 bif decide ((List.length out + List.length [(last, nx)]) * 16 ≤ 140737488355328) then
 bif decide (List.length out + List.length [(last, nx)] ≤ 140737488355328) then
 R (out ++ [(last, nx)])
 else none
 else none
 else none
 else none
 else
 bif decide ((List.length out + List.length [(last, nx)]) * 16 ≤ 140737488355328) then
 bif decide (List.length out + List.length [(last, nx)] ≤ 140737488355328) then
 R (out ++ [(last, nx)])
 else none
 else none
 else R out
 else R out) = some r ∧ P r := by
  have hal := sp_len hs.sp
  have g1 : (out.length + 1) * 16 ≤ 140737488355328 := by omega
  have g2 : out.length + 1 ≤ 140737488355328 := by omega
  cases b with
  | false => exact hR _ (hs.skip h1 hG)
  | true =>
    by_cases c : last < nx
    · simp only [cond_true, decide_eq_true c, List.length_cons, List.length_nil, Nat.zero_add, decide_eq_true g1, decide_eq_true g2]
      rcases List.eq_nil_or_concat out with ha | ⟨init, z, ha⟩
      · subst ha
        have z0 : ¬ ((0 : Int) < ((List.length ([] : List (Int × Int)) : Nat) : Int)) := by simp
        rw [decide_eq_false z0]
        exact hR _ (hs.new h0 (fun p hp => (nomatch hp)) c h2 hG)
      · rw [List.concat_eq_append] at ha
        subst ha
        have hlen : (init ++ [z]).length = init.length + 1 := by simp
        have z0 : ((0 : Int) < (((init ++ [z]).length : Nat) : Int)) := by omega
        have z1 : IntKind.wrap .i64 (((init ++ [z]).length : Int) - 1) = ((init.length : Nat) : Int) := by rw [i64_in _ ⟨by omega, by omega⟩]; omega
        have z2 : (0 : Int) ≤ ((init.length : Nat) : Int) := by omega
        have z3 : ((init.length : Nat) : Int) < (((init ++ [z]).length : Nat) : Int) := by omega
        have z4 : (init ++ [z]).getD init.length ((0 : Int), (0 : Int)) = z := by simp [List.getD]
        have z5 : (init ++ [z]).set init.length (z.1, nx) = init ++ [(z.1, nx)] := by
          rw [List.set_append_right _ _ (Nat.le_refl _)]
          simp
        simp only [decide_eq_true z0, z1, decide_eq_true z2, decide_eq_true z3, cond_true, Int.toNat_natCast, z4, z5]
        by_cases c2 : z.2 = last
        · rw [decide_eq_true c2]
          exact hR _ (hs.more c2 c h2 hG)
        · rw [decide_eq_false c2]
          refine hR _ (hs.new h0 (fun p' hp' => ?_) c h2 hG)
          rcases List.mem_append.1 hp' with hp' | hp'
          · have b1 := sp_bef hs.sp
            have := b1.2.2 p' hp'
            have := hs.le z (by simp)
            omega
          · rw [List.mem_singleton.1 hp']; exact c2
    · have e : nx = last := by omega
      rw [decide_eq_false c]
      rw [e] at hR
      exact hR _ hs
def GB (n : Int) (a b : List (Int × Int)) (z : Int) : Bool := opN n (hasS a z) (hasS b z)
theorem RBoth_l0 {a b : List (Int × Int)} {n : Int} (la : a.length < 1000000000000) (lb : b.length < 1000000000000) : ∀ (d k i j : Nat) (x y : Bool) (last : Int) (out : List (Int × Int)), mu a i x + mu b j y ≤ d → d + 1 ≤ k → Side a i x last → Side b j y last → 0 ≤ last → last ≤ 4294967296 → SpTo out (GB n a b) last →
    ∃ r, isinglassref08_Both_l0 k out a b n (i : Int) (j : Int) x y last = some r ∧ (spF 0 r ∧ ∀ z, hasS r z = GB n a b z)
  | d, 0, i, j, x, y, last, out, hd, hk, hA, hB, h0, h1, hs => by omega
  | d, k + 1, i, j, x, y, last, out, hd, hk, hA, hB, h0, h1, hs => by
    obtain ⟨ea, e1, a1, a2, a3, a4, gA⟩ := REdge k h0 h1 hA
    obtain ⟨eb, e2, b1, b2, b3, b4, gB⟩ := REdge k h0 h1 hB
    have wi : IntKind.wrap .i64 ((i : Int) + 1) = ((i + 1 : Nat) : Int) := by
      have := hA.le
      rw [i64_in _ ⟨by omega, by omega⟩]; omega
    have wj : IntKind.wrap .i64 ((j : Int) + 1) = ((j + 1 : Nat) : Int) := by
      have := hB.le
      rw [i64_in _ ⟨by omega, by omega⟩]; omega
    by_cases hin : i < a.length ∨ j < b.length
    · obtain ⟨nx, hnx⟩ : ∃ nx, nx = min eb ea := ⟨_, rfl⟩
      have n1 : last ≤ nx := by omega
      have n2 : nx ≤ ea := by omega
      have n3 : nx ≤ eb := by omega
      have n4 : nx ≤ 4294967296 := by
        rcases hin with q | q
        · have := a2 q; omega
        · have := b2 q; omega
      have hG : ∀ z, last ≤ z → z < nx → GB n a b z = opN n x y := fun z z1 z2 => by
        unfold GB
        rw [a4 z z1 (by omega), b4 z z1 (by omega)]
      have hgo : ∀ {i' j' : Nat} {x' y' : Bool}, mu a i' x' + mu b j' y' + 1 ≤ d → Side a i' x' nx → Side b j' y' nx → ∀ o, SpTo o (GB n a b) nx → ∃ r, isinglassref08_Both_l0 k o a b n (i' : Int) (j' : Int) x' y' nx = some r ∧ (spF 0 r ∧ ∀ z, hasS r z = GB n a b z) := fun hm sA sB o ho => by
        exact RBoth_l0 la lb (d - 1) k _ _ _ _ nx o (by omega) (by omega) sA sB (by omega) n4 ho
      have step : ∀ c1 c2 : Bool, (decide ((i : Int) < (a.length : Int)) = c1) → (decide ((j : Int) < (b.length : Int)) = c2) → ∃ r, isinglassref08_Both_l0 (k + 1) out a b n (i : Int) (j : Int) x y last = some r ∧ (spF 0 r ∧ ∀ z, hasS r z = GB n a b z) := by
        intro c1 c2 hc1 hc2
        have hor : (c1 || c2) = true := by
          rw [← hc1, ← hc2, Bool.or_eq_true, decide_eq_true_eq, decide_eq_true_eq]
          omega
        rw [isinglassref08_Both_l0, hc1, hc2, e1, Option.bind_some, e2, Option.bind_some]
        dsimp only
        rw [RIn]
        simp only [Option.bind_some]
        by_cases cab : eb < ea
        · have en : nx = eb := by omega
          subst en
          have q1 : ¬ ea = nx := by omega
          cases y with
          | true =>
            have sA := (gA nx n1 n2 n4).2 q1
            have sB := (gB nx n1 n3 n4).1 rfl
            have mB : mu b (j + 1) false + 1 = mu b j true := sB.2
            have key := bothStep _ hs h0 n1 n4 hG (hgo (i' := i) (j' := j + 1) (x' := x) (y' := false) (by omega) sA sB.1)
            simp only [decide_eq_true cab, decide_eq_false q1, decide_true, cond_true, cond_false, wi, wj, Bool.not_true, Bool.not_false]
            cases c1 with
            | true => exact key
            | false =>
              cases c2 with
              | true => exact key
              | false => cases hor
          | false =>
            have sA := (gA nx n1 n2 n4).2 q1
            have sB := (gB nx n1 n3 n4).1 rfl
            have mB : mu b (j) true + 1 = mu b j false := sB.2
            have key := bothStep _ hs h0 n1 n4 hG (hgo (i' := i) (j' := j) (x' := x) (y' := true) (by omega) sA sB.1)
            simp only [decide_eq_true cab, decide_eq_false q1, decide_true, cond_true, cond_false, wi, wj, Bool.not_true, Bool.not_false]
            cases c1 with
            | true => exact key
            | false =>
              cases c2 with
              | true => exact key
              | false => cases hor
        · have en : nx = ea := by omega
          subst en
          by_cases q1 : eb = nx
          · cases x with
            | true =>
              cases y with
              | true =>
                have sA := (gA nx n1 n2 n4).1 rfl
                have sB := (gB nx n1 n3 n4).1 q1
                have mA : mu a (i + 1) false + 1 = mu a i true := sA.2
                have mB : mu b (j + 1) false + 1 = mu b j true := sB.2
                have key := bothStep _ hs h0 n1 n4 hG (hgo (i' := i + 1) (j' := j + 1) (x' := false) (y' := false) (by omega) sA.1 sB.1)
                simp only [decide_eq_false cab, decide_eq_true q1, decide_true, cond_true, cond_false, wi, wj, Bool.not_true, Bool.not_false]
                cases c1 with
                | true => exact key
                | false =>
                  cases c2 with
                  | true => exact key
                  | false => cases hor
              | false =>
                have sA := (gA nx n1 n2 n4).1 rfl
                have sB := (gB nx n1 n3 n4).1 q1
                have mA : mu a (i + 1) false + 1 = mu a i true := sA.2
                have mB : mu b (j) true + 1 = mu b j false := sB.2
                have key := bothStep _ hs h0 n1 n4 hG (hgo (i' := i + 1) (j' := j) (x' := false) (y' := true) (by omega) sA.1 sB.1)
                simp only [decide_eq_false cab, decide_eq_true q1, decide_true, cond_true, cond_false, wi, wj, Bool.not_true, Bool.not_false]
                cases c1 with
                | true => exact key
                | false =>
                  cases c2 with
                  | true => exact key
                  | false => cases hor
            | false =>
              cases y with
              | true =>
                have sA := (gA nx n1 n2 n4).1 rfl
                have sB := (gB nx n1 n3 n4).1 q1
                have mA : mu a (i) true + 1 = mu a i false := sA.2
                have mB : mu b (j + 1) false + 1 = mu b j true := sB.2
                have key := bothStep _ hs h0 n1 n4 hG (hgo (i' := i) (j' := j + 1) (x' := true) (y' := false) (by omega) sA.1 sB.1)
                simp only [decide_eq_false cab, decide_eq_true q1, decide_true, cond_true, cond_false, wi, wj, Bool.not_true, Bool.not_false]
                cases c1 with
                | true => exact key
                | false =>
                  cases c2 with
                  | true => exact key
                  | false => cases hor
              | false =>
                have sA := (gA nx n1 n2 n4).1 rfl
                have sB := (gB nx n1 n3 n4).1 q1
                have mA : mu a (i) true + 1 = mu a i false := sA.2
                have mB : mu b (j) true + 1 = mu b j false := sB.2
                have key := bothStep _ hs h0 n1 n4 hG (hgo (i' := i) (j' := j) (x' := true) (y' := true) (by omega) sA.1 sB.1)
                simp only [decide_eq_false cab, decide_eq_true q1, decide_true, cond_true, cond_false, wi, wj, Bool.not_true, Bool.not_false]
                cases c1 with
                | true => exact key
                | false =>
                  cases c2 with
                  | true => exact key
                  | false => cases hor
          · cases x with
            | true =>
              have sA := (gA nx n1 n2 n4).1 rfl
              have sB := (gB nx n1 n3 n4).2 q1
              have mA : mu a (i + 1) false + 1 = mu a i true := sA.2
              have key := bothStep _ hs h0 n1 n4 hG (hgo (i' := i + 1) (j' := j) (x' := false) (y' := y) (by omega) sA.1 sB)
              simp only [decide_eq_false cab, decide_eq_false q1, decide_true, cond_true, cond_false, wi, wj, Bool.not_true, Bool.not_false]
              cases c1 with
              | true => exact key
              | false =>
                cases c2 with
                | true => exact key
                | false => cases hor
            | false =>
              have sA := (gA nx n1 n2 n4).1 rfl
              have sB := (gB nx n1 n3 n4).2 q1
              have mA : mu a (i) true + 1 = mu a i false := sA.2
              have key := bothStep _ hs h0 n1 n4 hG (hgo (i' := i) (j' := j) (x' := true) (y' := y) (by omega) sA.1 sB)
              simp only [decide_eq_false cab, decide_eq_false q1, decide_true, cond_true, cond_false, wi, wj, Bool.not_true, Bool.not_false]
              cases c1 with
              | true => exact key
              | false =>
                cases c2 with
                | true => exact key
                | false => cases hor
      exact step _ _ rfl rfl
    · have q1 : ¬ ((i : Int) < (a.length : Int)) := by omega
      have q2 : ¬ ((j : Int) < (b.length : Int)) := by omega
      rw [isinglassref08_Both_l0, decide_eq_false q1, decide_eq_false q2]
      refine ⟨out, rfl, hs.sp, fun z => ?_⟩
      rw [hs.has]
      by_cases c : z < last
      · rw [decide_eq_true c, Bool.and_true]
      · have xa := (a3 (by omega)).2
        have xb := (b3 (by omega)).2
        have ga : hasS a z = false := by
          rw [hA.has z (by omega), List.drop_eq_nil_of_le (by omega)]
          rfl
        have gb : hasS b z = false := by
          rw [hB.has z (by omega), List.drop_eq_nil_of_le (by omega)]
          rfl
        rw [decide_eq_false c, Bool.and_false]
        unfold GB
        rw [ga, gb, opN_ff]
theorem side0 {a : List (Int × Int)} (h : spF 0 a) : Side a 0 false 0 := by
  refine ⟨by omega, fun z _ => rfl, h, ?_⟩
  rw [List.drop_zero]
  cases a with
  | nil => trivial
  | cons p t => exact h.1
theorem RBoth {a b : List (Int × Int)} {n : Int} {k : Nat} (ha : spF 0 a) (hb : spF 0 b) (hk : 2 * (a.length + b.length) + 3 ≤ k) : ∃ r, isinglassref08_Both k a b n = some r ∧ spF 0 r ∧ ∀ z, hasS r z = GB n a b z := by
  have hs : SpTo [] (GB n a b) 0 := ⟨trivial, fun p hp => (nomatch hp), fun x => by
    show false = _
    by_cases c : x < 0
    · unfold GB
      rw [sp_low ha c, sp_low hb c, opN_ff]
      rfl
    · rw [decide_eq_false c, Bool.and_false]⟩
  obtain ⟨r, e, g⟩ := RBoth_l0 (n := n) (sp_bound ha) (sp_bound hb) (mu a 0 false + mu b 0 false) k 0 0 false false 0 [] (Nat.le_refl _) (by unfold mu; simp only [cond_false]; omega) (side0 ha) (side0 hb) (by omega) (by omega) hs
  have e' : isinglassref08_Both_l0 k [] a b n 0 0 false false 0 = some r := e
  refine ⟨r, ?_, g⟩
  unfold isinglassref08_Both
  rw [e', Option.bind_some]
/-! ### A key's numbers, as marks -/
theorem IsM.congr {M : List Bool} {f g : Int → Bool} (h : IsM M f) (q : ∀ y, 0 ≤ y → y < 65536 → f y = g y) : IsM M g :=
  ⟨h.len, fun x hx => by rw [h.has x hx, q _ (by omega) (by omega)]⟩
theorem Block_l1 {l : List (Int × Int)} {i : Nat} {p : Int × Int} {fr : Int} (hi : i < l.length) (hp : l.getD i ((0 : Int), (0 : Int)) = p) (f0 : 0 ≤ fr) (f1 : fr ≤ 4294967296) (p2 : p.2 ≤ fr + 65536) : ∀ (d k : Nat) (x : Int) (M : List Bool) (f : Int → Bool), p.2 - x ≤ (d : Int) → d + 1 ≤ k → fr ≤ x → IsM M f →
    ∃ M', isinglassref08_Set_Block_l1 k M fr l (i : Int) x = some (M', fr, l, (i : Int)) ∧ IsM M' (fun y => f y || (decide (x - fr ≤ y) && decide (y < p.2 - fr)))
  | d, 0, x, M, f, _, hk, _, _ => by omega
  | d, k + 1, x, M, f, hd, hk, hx, hM => by
    have a1 : (0 : Int) ≤ (i : Int) := by omega
    have a2 : (i : Int) < (l.length : Int) := by omega
    rw [isinglassref08_Set_Block_l1]
    simp only [decide_eq_true a1, decide_eq_true a2, cond_true, Int.toNat_natCast, hp]
    by_cases c : x < p.2
    · have w1 : IntKind.wrap .u64 (x - fr) = x - fr := u64_in _ ⟨by omega, by omega⟩
      have w2 : IntKind.wrap .u64 (x + 1) = x + 1 := u64_in _ ⟨by omega, by omega⟩
      have b1 : 0 ≤ x - fr := by omega
      have b2 : x - fr < 65536 := by omega
      have nb : Nat.ble 65536 M.length = true := by rw [hM.len]; rfl
      obtain ⟨M', e, g⟩ := Block_l1 hi hp f0 f1 p2 (d - 1) k (x + 1) _ _ (by omega) (by omega) (by omega) (hM.set b1 b2)
      rw [decide_eq_true c, cond_true, w1, w2, decide_eq_true b1, decide_eq_true b2, nb]
      refine ⟨M', e, g.congr fun y y0 y1 => ?_⟩
      show ((f y || decide (y = x - fr)) || _) = _
      rw [Bool.or_assoc]
      congr 1
      by_cases q : y = x - fr
      · rw [decide_eq_true q, decide_eq_true (p := x - fr ≤ y) (by omega), decide_eq_true (p := y < p.2 - fr) (by omega)]
        rfl
      · rw [decide_eq_false q, Bool.false_or]
        congr 1
        exact decide_eq_decide.2 (by omega)
    · rw [decide_eq_false c]
      refine ⟨M, rfl, hM.congr fun y y0 y1 => ?_⟩
      have : (decide (x - fr ≤ y) && decide (y < p.2 - fr)) = false := by
        rw [Bool.and_eq_false_iff, decide_eq_false_iff_not, decide_eq_false_iff_not]
        omega
      rw [this, Bool.or_false]
theorem Block_l0 {l : List (Int × Int)} {fr : Int} {K0 : Nat} (hK0 : 65540 ≤ K0) (lb : l.length < 1000000000000) (f0 : 0 ≤ fr) (f1 : fr ≤ 4294967296) (hin : ∀ p, p ∈ l → fr ≤ p.1 ∧ p.2 ≤ fr + 65536) : ∀ (rest : List (Int × Int)) (k i : Nat) (M : List Bool) (f : Int → Bool), i ≤ l.length → l.drop i = rest → rest.length + K0 + 1 ≤ k → IsM M f →
    ∃ M', isinglassref08_Set_Block_l0 k M fr l (i : Int) = some M' ∧ IsM M' (fun y => f y || hasS rest (fr + y))
  | _, 0, _, _, _, _, _, hk, _ => by omega
  | [], k + 1, i, M, f, hi, h, hk, hM => by
    have := drop_nil h hi
    have q : ¬ ((i : Int) < (l.length : Int)) := by omega
    rw [isinglassref08_Set_Block_l0, decide_eq_false q]
    exact ⟨M, rfl, hM.congr fun y _ _ => by unfold hasS; simp⟩
  | p :: t, k + 1, i, M, f, hi, h, hk, hM => by
    obtain ⟨d1, d2, d3⟩ := drop_cons h ((0 : Int), (0 : Int))
    have hp := hin p (List.mem_of_mem_drop (by rw [h]; simp))
    have q : ((i : Int) < (l.length : Int)) := by omega
    have q0 : (0 : Int) ≤ (i : Int) := by omega
    have e2 : IntKind.wrap .i64 ((i : Int) + 1) = ((i + 1 : Nat) : Int) := by rw [i64_in _ ⟨by omega, by omega⟩]; omega
    have hk' : t.length + K0 + 1 ≤ k := by simp at hk; omega
    obtain ⟨M1, g1, g2⟩ := Block_l1 d1 d2 f0 f1 hp.2 (p.2 - p.1).toNat k p.1 M f (by omega) (by omega) hp.1 hM
    obtain ⟨M2, g3, g4⟩ := Block_l0 hK0 lb f0 f1 hin t k (i + 1) M1 _ (by omega) d3 hk' g2
    rw [isinglassref08_Set_Block_l0]
    simp only [decide_eq_true q, decide_eq_true q0, cond_true, Int.toNat_natCast, d2, g1, Option.bind_some, e2, g3]
    refine ⟨M2, rfl, g4.congr fun y _ _ => ?_⟩
    rw [hasS_cons, Bool.or_assoc]
    congr 2
    congr 1
    · exact decide_eq_decide.2 (by omega)
    · exact decide_eq_decide.2 (by omega)
theorem RBlock {l : List (Int × Int)} {F : Int → Bool} {K : Int} {k : Nat} (h : spF 0 l) (hF : ∀ y, hasS l y = F y) (hK : 0 ≤ K ∧ K < 65536) (hk : 2 * l.length + 75545 ≤ k) (hk2 : 4295100000 ≤ k) : ∃ M, isinglassref08_Set_Block k l K = some M ∧ IsM M (row F K) := by
  have w1 : IntKind.wrap .u64 K = K := u64_in _ ⟨by omega, by omega⟩
  have w2 : IntKind.wrap .u64 (K * 65536) = K * 65536 := u64_in _ ⟨by omega, by omega⟩
  have w3 : IntKind.wrap .u64 (K * 65536 + 65536) = K * 65536 + 65536 := u64_in _ ⟨by omega, by omega⟩
  have e1 : isinglassref08_Span k (K * 65536) (K * 65536 + 65536) = some [(K * 65536, K * 65536 + 65536)] := by
    unfold isinglassref08_Span
    rw [decide_eq_false (p := (4294967296 : Int) < K * 65536 + 65536) (by omega), decide_eq_false (p := K * 65536 + 65536 ≤ K * 65536) (by omega)]
    rfl
  obtain ⟨r, e2, hr, hh⟩ := RBoth (n := 1) (k := k) h (b := [(K * 65536, K * 65536 + 65536)]) ⟨by omega, by omega, by omega, trivial⟩ (by simp; omega)
  have g : ∀ z, hasS r z = (F z && (decide (K * 65536 ≤ z) && decide (z < K * 65536 + 65536))) := fun z => by
    rw [hh, ← hF]
    show opN 1 (hasS l z) (hasS [(K * 65536, K * 65536 + 65536)] z) = _
    rw [hasS_cons]
    unfold opN hasS
    simp
  have hlen := sp_len hr
  have hin : ∀ p, p ∈ r → K * 65536 ≤ p.1 ∧ p.2 ≤ K * 65536 + 65536 := fun p hp => by
    obtain ⟨b1, b2, b3⟩ := sp_in hr p hp
    have at_ : ∀ z, p.1 ≤ z → z < p.2 → K * 65536 ≤ z ∧ z < K * 65536 + 65536 := fun z z1 z2 => by
      have : hasS r z = true := by
        unfold hasS
        rw [List.any_eq_true]
        exact ⟨p, hp, by rw [decide_eq_true z1, decide_eq_true z2]; rfl⟩
      rw [g z] at this
      simp only [Bool.and_eq_true, decide_eq_true_eq] at this
      exact this.2
    have := at_ p.1 (by omega) b2
    have := at_ (p.2 - 1) (by omega) (by omega)
    omega
  obtain ⟨M, e3, hM⟩ := Block_l0 (K0 := 65540) (Nat.le_refl _) (sp_bound hr) (by omega) (by omega) hin r k 0 (List.replicate 65536 false) (fun _ => false) (by omega) rfl (by omega) ⟨by rw [List.length_replicate], fun x _ => falseB_get x⟩
  have e3' : isinglassref08_Set_Block_l0 k (List.replicate 65536 false) (K * 65536) r 0 = some M := e3
  refine ⟨M, ?_, hM.congr fun y y0 y1 => ?_⟩
  · unfold isinglassref08_Set_Block
    simp only [w1, w2, w3, e1, e2, Option.bind_some, e3']
  · rw [g, row_in y0 y1, decide_eq_true (by omega), decide_eq_true (by omega)]
    simp
end Go.Rx.Tryz

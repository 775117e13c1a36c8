/- ContainerOne's pure function answers true. -/
import Derived.Test.YtlniipeolfddoaaDoorContC
import Derived.KernelRfl
namespace Go.Rx.Tryd
open Go.Rx.Plain Go.IntWalk
set_option linter.unusedVariables false
set_option linter.unusedSimpArgs false
theorem known_one : isinglasslaw07_known 300000 = some true := by kernel_rfl
def setL (l : List Int) (y : Int) : Bool := decide (y ∈ l)
theorem setL_sup {l : List Int} (h : ∀ y, y ∈ l → 0 ≤ y ∧ y < 65536) : Sup (setL l) := by
  intro x hx
  unfold setL
  rw [decide_eq_false]
  intro hm
  have := h x hm
  omega
theorem setL_take {l : List Int} {i : Nat} {x : Int} {s : List Int} (h : l.drop i = x :: s) : (fun y => setL (l.take i) y || decide (y = x)) = setL (l.take (i + 1)) := by
  funext y
  unfold setL
  rw [take_snoc h, Bool.eq_iff_iff]
  simp
theorem OfArray_eq {f : Int → Bool} {k : Nat} (hk : 70000 ≤ k) : container_OfArray k (mem f) = some (((1 : Int), (mem f, (([] : List Int), ([] : List (Int × Int))))), true) := by
  have hl := mem_le f
  unfold container_OfArray
  rw [AMay_eq (mem_ris f) (by omega)]
  simp only [Option.bind_some, Bool.not_true, cond_false]
  rw [clone16_eq (by omega)]
  rfl
theorem marks_list {l : List Int} {k : Nat} (h : ∀ y, y ∈ l → 0 ≤ y ∧ y < 65536) (hb : l.length < 1000000) (hk : 70000 ≤ k) (hk2 : l.length + 1 ≤ k) : ∃ M, isinglassref04_Of k l = some M ∧ isinglassref04_Marks_List k M = some (M, mem (setL l)) := by
  obtain ⟨M, e, hM, hh⟩ := MOf_eq (k := k) h hb hk2
  refine ⟨M, e, ?_⟩
  rw [MList_eq hM (by omega), mem_def]
  have : memI (fun x => M.getD x.toNat false) 0 65536 = memI (setL l) 0 65536 := memI_congr fun x h1 h2 => by
    rw [hh x.toNat (by omega)]
    unfold setL
    rw [show ((x.toNat : Nat) : Int) = x by omega]
  rw [this]
theorem One_l0_eq {l : List Int} {lo hi : Int} {K : Nat} (hK : 140000 ≤ K) (hl : ∀ y, y ∈ l → 0 ≤ y ∧ y < 65536) (hb : l.length < 1000000) : ∀ (rest : List Int) (k i : Nat) (c : Cont), i ≤ l.length → l.drop i = rest → rest.length + K + 1 ≤ k → IsC c (setL (l.take i)) → max c.1 1 = kF (nF (setL (l.take i))) (rF (setL (l.take i))) →
    ∃ c' : Cont, isinglasslaw07_ContainerOne_l0 k c.1 c.2.1 c.2.2.1 c.2.2.2 l lo hi (l.length : Int) (i : Int) = some (c'.1, c'.2.1, c'.2.2.1, c'.2.2.2, l, lo, hi) ∧ IsC c' (setL l) ∧ max c'.1 1 = kF (nF (setL l)) (rF (setL l))
  | _, 0, _, _, _, _, hk, _, _ => by omega
  | [], k + 1, i, c, hi9, h, hk, hc, hk3 => by
    have := drop_nil h hi9
    have q : ¬ ((i : Int) < (l.length : Int)) := by omega
    rw [this, List.take_length] at hc hk3
    refine ⟨c, ?_, hc, hk3⟩
    rw [isinglasslaw07_ContainerOne_l0, decide_eq_false q]
    rfl
  | x :: s, k + 1, i, c, hi9, h, hk, hc, hk3 => by
    obtain ⟨h1, h2, h3⟩ := drop_cons h (0 : Int)
    have hx := hl x (List.mem_of_mem_drop (by rw [h]; simp))
    have q : ((i : Int) < (l.length : Int)) := by omega
    have q0 : (0 : Int) ≤ (i : Int) := by omega
    have e2 : IntKind.wrap .i64 ((i : Int) + 1) = ((i + 1 : Nat) : Int) := by rw [i64_in _ ⟨by omega, by omega⟩]; omega
    have n1 : K ≤ k := by simp at hk; omega
    have n2 : s.length + K + 1 ≤ k := by simp at hk; omega
    have n3 : i + 1 ≤ l.length := by omega
    have hs : Sup (setL (l.take i)) := setL_sup fun y hy => hl y (List.mem_of_mem_take hy)
    obtain ⟨c1, w1, w2, w3⟩ := CWith (k := k) hs hc (Nat.le_trans hK n1) hx
    rw [setL_take h] at w2 w3
    obtain ⟨c2, r1, r2, r3⟩ := One_l0_eq (lo := lo) (hi := hi) hK hl hb s k (i + 1) c1 n3 h3 n2 w2 w3
    refine ⟨c2, ?_, r2, r3⟩
    rw [isinglasslaw07_ContainerOne_l0, decide_eq_true q, decide_eq_true q0, Int.toNat_natCast, h2, e2]
    have w1' : container_Container_With k (c.1, (c.2.1, (c.2.2.1, c.2.2.2))) x = some c1 := w1
    simp only [cond_true, w1', Option.bind_some]
    exact r1
theorem fx_fx (f : Int → Bool) {lo mid hi : Int} (h1 : lo ≤ mid) (h2 : mid ≤ hi) : fx (fx f lo mid) mid hi = fx f lo hi := by
  funext x
  unfold fx
  have : (decide (max lo 0 ≤ x) && decide (x < min hi 65536)) = ((decide (max lo 0 ≤ x) && decide (x < min mid 65536)) != (decide (max mid 0 ≤ x) && decide (x < min hi 65536))) := by
    by_cases a1 : max lo 0 ≤ x <;> by_cases a2 : x < min mid 65536 <;> by_cases a3 : max mid 0 ≤ x <;> by_cases a4 : x < min hi 65536 <;> simp [a1, a2, a3, a4] <;> omega
  rw [this]
  cases f x <;> cases (decide (max lo 0 ≤ x) && decide (x < min mid 65536)) <;> cases (decide (max mid 0 ≤ x) && decide (x < min hi 65536)) <;> rfl
theorem SameM (f : Int → Bool) {k : Nat} (hk : 70000 ≤ k) : isinglassref04_Same k (mem f) (mem f) = some true := by
  have hl := mem_le f
  rw [RSame_eq (by omega) (by omega), decide_eq_true rfl]
theorem one {l : List Int} {lo hi : Int} (hl : ∀ y, y ∈ l → 0 ≤ y ∧ y < 65536) : isinglasslaw07_ContainerOne 300000 l lo hi = some true := by
  unfold isinglasslaw07_ContainerOne
  by_cases la : (200 : Int) < (l.length : Int)
  · rw [decide_eq_true la]
    simp only [cond_true, known_one, Option.bind_some]
  rw [decide_eq_false la]
  simp only [cond_false]
  have z0 : IsC ((0 : Int), (([] : List Int), (([] : List Int), ([] : List Run)))) (setL (l.take 0)) := by
    have : mem (setL (l.take 0)) = [] := by
      rw [mem_def]
      exact memI_none fun x _ _ => by unfold setL; simp
    have h : IsC ((0 : Int), (mem (setL (l.take 0)), (([] : List Int), ([] : List Run)))) (setL (l.take 0)) := .arr (.inl rfl)
    rw [this] at h
    exact h
  have n0 : nF (setL (l.take 0)) = 0 := by
    unfold nF
    rw [mem_def, memI_none fun x _ _ => by unfold setL; simp]
    rfl
  have k0 : max (0 : Int) 1 = kF (nF (setL (l.take 0))) (rF (setL (l.take 0))) := by
    have := (rF_bound (setL (l.take 0))).1
    rw [n0]
    generalize rF (setL (l.take 0)) = m at this
    unfold kF
    rw [if_neg (by rw [if_pos (by omega)]; omega), if_pos (by omega)]
    rfl
  obtain ⟨c, e1, i1, k1⟩ := One_l0_eq (lo := lo) (hi := hi) (K := 140000) (Nat.le_refl _) hl (by omega) l 300000 0 _ (by omega) rfl (by omega) z0 k0
  have e1' : isinglasslaw07_ContainerOne_l0 300000 0 ([] : List Int) ([] : List Int) ([] : List (Int × Int)) l lo hi (l.length : Int) 0 = some (c.1, c.2.1, c.2.2.1, c.2.2.2, l, lo, hi) := e1
  obtain ⟨M, m1, m2⟩ := marks_list (k := 300000) hl (by omega) (by omega) (by omega)
  have hs := setL_sup hl
  obtain ⟨d, d1, d2, d3⟩ := CCanon (k := 300000) hs (IsC.arr (w := []) (r := []) (.inr rfl)) (by omega)
  have cA := CArray (k := 300000) hs i1 (by omega)
  have dA := CArray (k := 300000) hs d2 (by omega)
  have same := SameM (setL l) (k := 300000) (by omega)
  have cA' : container_Container_Array 300000 (c.1, (c.2.1, (c.2.2.1, c.2.2.2))) = some (mem (setL l)) := cA
  have kk : decide (max c.1 1 = max d.1 1) = true := decide_eq_true (by rw [k1, d3])
  rw [e1']
  simp only [Option.bind_some, m1, m2, OfArray_eq (f := setL l) (k := 300000) (by omega), Bool.not_true, cond_false, d1, Kind_eq, kk, cA', dA, same]
  generalize IntKind.wrap .i64 ((IntKind.wrap .i64 (lo + hi)).tdiv 2) = mid
  by_cases a1 : mid < lo
  · rw [decide_eq_true a1]
    simp only [cond_true, known_one, Option.bind_some]
  rw [decide_eq_false a1]
  by_cases a2 : hi < mid
  · rw [decide_eq_true a2]
    simp only [cond_true, cond_false, known_one, Option.bind_some]
  rw [decide_eq_false a2]
  by_cases a3 : lo < -100000
  · rw [decide_eq_true a3]
    simp only [cond_true, cond_false, known_one, Option.bind_some]
  rw [decide_eq_false a3]
  by_cases a4 : (100000 : Int) < hi
  · rw [decide_eq_true a4]
    simp only [cond_true, cond_false, known_one, Option.bind_some]
  rw [decide_eq_false a4]
  simp only [cond_false]
  obtain ⟨x1, f1, g1, _⟩ := CFlip (k := 300000) (lo := lo) (hi := mid) hs i1 (by omega)
  obtain ⟨x2, f2, g2, q2⟩ := CFlip (k := 300000) (lo := mid) (hi := hi) (fx_sup hs lo mid) g1 (by omega)
  obtain ⟨x3, f3, g3, q3⟩ := CFlip (k := 300000) (lo := lo) (hi := hi) hs d2 (by omega)
  rw [fx_fx (setL l) (by omega) (by omega)] at g2 q2
  have hs3 := fx_sup hs lo hi
  have f1' : container_Container_Flip 300000 (c.1, (c.2.1, (c.2.2.1, c.2.2.2))) lo mid = some x1 := f1
  have aA := CArray (k := 300000) hs3 g2 (by omega)
  have bA := CArray (k := 300000) hs3 g3 (by omega)
  have same3 := SameM (fx (setL l) lo hi) (k := 300000) (by omega)
  have kk3 : decide (max x2.1 1 = max x3.1 1) = true := decide_eq_true (by rw [q2, q3])
  simp only [f1', f2, f3, Option.bind_some, Kind_eq, kk3, cond_true, aA, bA, same3, known_one]
end Go.Rx.Tryd

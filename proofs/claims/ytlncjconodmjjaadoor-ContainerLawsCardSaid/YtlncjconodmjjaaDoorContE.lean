/- Containers, part 5: marks, and what is made of them; three kinds of a set; sizes. -/
import Derived.Test.YtlncjconodmjjaaDoorContD
namespace Go.Rx.Tryd
open Go.Rx.Plain Go.IntWalk
set_option linter.unusedVariables false
set_option linter.unusedSimpArgs false
def setL (l : List Int) (y : Int) : Bool := decide (y ∈ l)
theorem setL_sup {l : List Int} (h : ∀ y, y ∈ l → 0 ≤ y ∧ y < 65536) : Sup (setL l) := by
  intro x hx
  unfold setL
  rw [decide_eq_false]
  intro hm
  have := h x hm
  omega
theorem OfArray_eq {f : Int → Bool} {k : Nat} (hk : 70000 ≤ k) : container_OfArray k (mem f) = some (((1 : Int), (mem f, (([] : List Int), ([] : List (Int × Int))))), true) := by
  have hl := mem_le f
  unfold container_OfArray
  rw [AMay_eq (mem_ris f) (by omega)]
  simp only [Option.bind_some, Bool.not_true, cond_false]
  rw [clone16_eq (by omega)]
  rfl
theorem SameM (f : Int → Bool) {k : Nat} (hk : 70000 ≤ k) : isinglassref04_Same k (mem f) (mem f) = some true := by
  have hl := mem_le f
  rw [RSame_eq (by omega) (by omega), decide_eq_true rfl]
/-! ### Marks -/
structure IsM (M : List Bool) (f : Int → Bool) : Prop where
  len : M.length = 65536
  has : ∀ x : Nat, x < 65536 → M.getD x false = f (x : Int)
theorem setB_get {M : List Bool} {n : Nat} (h : n < M.length) (v : Bool) (x : Nat) : (M.set n v).getD x false = if x = n then v else M.getD x false := by
  rw [List.getD_eq_getElem?_getD, List.getElem?_set, List.getD_eq_getElem?_getD]
  by_cases q : n = x
  · subst q
    rw [if_pos rfl, if_pos h, if_pos rfl]
    rfl
  · have : ¬ x = n := fun h => q h.symm
    rw [if_neg q, if_neg this]
theorem falseB_get (x : Nat) : (List.replicate 65536 false).getD x false = false := by
  rw [List.getD_eq_getElem?_getD, List.getElem?_replicate]
  split <;> rfl
theorem IsM.of {a : List Int} {k : Nat} (ha : ∀ y, y ∈ a → 0 ≤ y ∧ y < 65536) (hb : a.length < 1000000) (hk : a.length + 1 ≤ k) : ∃ M, isinglassref04_Of k a = some M ∧ IsM M (setL a) := by
  obtain ⟨M, e, h1, h2⟩ := MOf_eq (k := k) ha hb hk
  exact ⟨M, e, h1, h2⟩
theorem IsM.list {M : List Bool} {f : Int → Bool} {k : Nat} (h : IsM M f) (hk : 65540 ≤ k) : isinglassref04_Marks_List k M = some (M, mem f) := by
  rw [MList_eq h.len hk, mem_def]
  have : memI (fun x => M.getD x.toNat false) 0 65536 = memI f 0 65536 := memI_congr fun x h1 h2 => by
    rw [h.has x.toNat (by omega), show ((x.toNat : Nat) : Int) = x by omega]
  rw [this]
theorem IsM.set {M : List Bool} {f : Int → Bool} (h : IsM M f) {x : Int} (h0 : 0 ≤ x) (h1 : x < 65536) : IsM (M.set x.toNat true) (fun y => f y || decide (y = x)) := by
  have hl := h.len
  refine ⟨by rw [List.length_set]; exact h.len, fun y hy => ?_⟩
  rw [setB_get (by omega), h.has y hy]
  by_cases q : y = x.toNat
  · have : (y : Int) = x := by omega
    rw [if_pos q, decide_eq_true this, Bool.or_true]
  · have : ¬ (y : Int) = x := by omega
    rw [if_neg q, decide_eq_false this, Bool.or_false]
/-- An array of marks, made place by place. -/
structure Done (M M' : List Bool) (f : Int → Bool) (i : Nat) : Prop where
  len : M'.length = 65536
  low : ∀ j, j < i → M'.getD j false = M.getD j false
  high : ∀ j, i ≤ j → j < 65536 → M'.getD j false = f (j : Int)
theorem Done.step {M M' : List Bool} {f : Int → Bool} {i : Nat} {v : Bool} (hi : i < M.length) (hv : v = f (i : Int)) (h : Done (M.set i v) M' f (i + 1)) : Done M M' f i := by
  refine ⟨h.len, fun j hj => ?_, fun j hj hj2 => ?_⟩
  · rw [h.low j (by omega), setB_get hi, if_neg (by omega)]
  · by_cases q : j = i
    · subst q
      rw [h.low j (by omega), setB_get hi, if_pos rfl, hv]
    · exact h.high j (by omega) hj2
theorem Done.all {M M' : List Bool} {f : Int → Bool} (h : Done M M' f 0) : IsM M' f := ⟨h.len, fun x hx => h.high x (Nat.zero_le _) hx⟩
def opN (n : Int) (a b : Bool) : Bool := if n = 1 then a && b else if n = 2 then a || b else if n = 3 then a && !b else a != b
theorem Both_l0_eq {A B : List Bool} {f g : Int → Bool} {n : Int} (hA : IsM A f) (hB : IsM B g) : ∀ (d k i : Nat) (M : List Bool), 65536 - i ≤ d → d + 1 ≤ k → i ≤ 65536 → M.length = 65536 →
    ∃ M', isinglassref04_Both_l0 k A B M n (i : Int) = some (A, B, M') ∧ Done M M' (fun x => opN n (f x) (g x)) i
  | d, 0, i, M, _, hk, _, _ => by omega
  | d, k + 1, i, M, hd, hk, hi, hM => by
    rw [isinglassref04_Both_l0]
    by_cases c : (i : Int) < 65536
    · have c0 : (0 : Int) ≤ (i : Int) := by omega
      have b1 : Nat.ble 65536 A.length = true := by rw [hA.len, Nat.ble_eq]; omega
      have b2 : Nat.ble 65536 B.length = true := by rw [hB.len, Nat.ble_eq]; omega
      have b3 : Nat.ble 65536 M.length = true := by rw [hM, Nat.ble_eq]; omega
      have e2 : IntKind.wrap .i64 ((i : Int) + 1) = ((i + 1 : Nat) : Int) := by rw [i64_in _ ⟨by omega, by omega⟩]; omega
      have fa := hA.has i (by omega)
      have fb := hB.has i (by omega)
      have key : ∀ v, v = opN n (f i) (g i) → ∃ M', isinglassref04_Both_l0 k A B (M.set i v) n ((i + 1 : Nat) : Int) = some (A, B, M') ∧ Done M M' (fun x => opN n (f x) (g x)) i := by
        intro v hv
        obtain ⟨M', r1, r2⟩ := Both_l0_eq hA hB (d - 1) k (i + 1) (M.set i v) (by omega) (by omega) (by omega) (by rw [List.length_set]; exact hM)
        exact ⟨M', r1, r2.step (by omega) hv⟩
      simp only [c, c0, decide_true, cond_true, Int.toNat_natCast, b1, b2, b3, e2, fa, fb]
      unfold opN at key
      by_cases q1 : n = 1
      · rw [if_pos q1] at key
        simp only [q1, decide_true, cond_true]
        subst q1
        cases hf : f (i : Int) <;> simp only [cond_true, cond_false] <;> exact key _ (by rw [hf]; rfl)
      · by_cases q2 : n = 2
        · subst q2
          simp only [decide_true, decide_false, cond_true, cond_false, q1]
          cases hf : f (i : Int) <;> simp only [cond_true, cond_false] <;> exact key _ (by rw [hf]; rfl)
        · by_cases q3 : n = 3
          · subst q3
            simp only [decide_true, decide_false, cond_true, cond_false, q1, q2]
            cases hf : f (i : Int) <;> simp only [cond_true, cond_false] <;> exact key _ (by rw [hf]; rfl)
          · simp only [decide_false, cond_false, q1, q2, q3]
            exact key _ (by rw [if_neg q1, if_neg q2, if_neg q3]; rfl)
    · have : i = 65536 := by omega
      refine ⟨M, by simp only [c, decide_false, cond_false], hM, fun j _ => rfl, fun j hj hj2 => by omega⟩
theorem Both_eq {A B : List Bool} {f g : Int → Bool} {n : Int} {k : Nat} (hA : IsM A f) (hB : IsM B g) (hk : 65540 ≤ k) : ∃ M, isinglassref04_Both k A B n = some (A, B, M) ∧ IsM M (fun x => opN n (f x) (g x)) := by
  obtain ⟨M, r1, r2⟩ := Both_l0_eq (n := n) hA hB 65536 k 0 (List.replicate 65536 false) (by omega) (by omega) (by omega) List.length_replicate
  have r1' : isinglassref04_Both_l0 k A B (List.replicate 65536 false) n 0 = some (A, B, M) := r1
  refine ⟨M, ?_, r2.all⟩
  unfold isinglassref04_Both
  rw [r1']
  rfl
def fl (f : Int → Bool) (lo hi x : Int) : Bool := f x != (decide (lo ≤ x) && decide (x < hi))
theorem RFlip_l0_eq {A : List Bool} {f : Int → Bool} {lo hi : Int} (hA : IsM A f) : ∀ (d k i : Nat) (M : List Bool), 65536 - i ≤ d → d + 1 ≤ k → i ≤ 65536 → M.length = 65536 →
    ∃ M', isinglassref05_Flip_l0 k A M lo hi (i : Int) = some (A, M') ∧ Done M M' (fl f lo hi) i
  | d, 0, i, M, _, hk, _, _ => by omega
  | d, k + 1, i, M, hd, hk, hi9, hM => by
    rw [isinglassref05_Flip_l0]
    by_cases c : (i : Int) < 65536
    · have c0 : (0 : Int) ≤ (i : Int) := by omega
      have b1 : Nat.ble 65536 A.length = true := by rw [hA.len, Nat.ble_eq]; omega
      have b3 : Nat.ble 65536 M.length = true := by rw [hM, Nat.ble_eq]; omega
      have e2 : IntKind.wrap .i64 ((i : Int) + 1) = ((i + 1 : Nat) : Int) := by rw [i64_in _ ⟨by omega, by omega⟩]; omega
      have fa := hA.has i (by omega)
      have key : ∀ v, v = fl f lo hi i → ∃ M', isinglassref05_Flip_l0 k A (M.set i v) lo hi ((i + 1 : Nat) : Int) = some (A, M') ∧ Done M M' (fl f lo hi) i := by
        intro v hv
        obtain ⟨M', r1, r2⟩ := RFlip_l0_eq (lo := lo) (hi := hi) hA (d - 1) k (i + 1) (M.set i v) (by omega) (by omega) (by omega) (by rw [List.length_set]; exact hM)
        exact ⟨M', r1, r2.step (by omega) hv⟩
      simp only [c, c0, decide_true, cond_true, Int.toNat_natCast, b1, b3, e2, fa]
      by_cases q : lo ≤ (i : Int)
      · rw [decide_eq_true q]
        simp only [cond_true]
        exact key _ (by unfold fl; rw [decide_eq_true q, Bool.true_and]; cases f i <;> cases decide ((i : Int) < hi) <;> rfl)
      · rw [decide_eq_false q]
        simp only [cond_false]
        exact key _ (by unfold fl; rw [decide_eq_false q, Bool.false_and]; cases f i <;> rfl)
    · have : i = 65536 := by omega
      refine ⟨M, by simp only [c, decide_false, cond_false], hM, fun j _ => rfl, fun j hj hj2 => by omega⟩
theorem fl_fx {f : Int → Bool} {lo hi x : Int} (h0 : 0 ≤ x) (h1 : x < 65536) : fl f lo hi x = fx f lo hi x := by
  unfold fl fx
  congr 1
  rw [Bool.eq_iff_iff]
  simp only [Bool.and_eq_true, decide_eq_true_eq]
  omega
theorem RFlip_eq {A : List Bool} {f : Int → Bool} {lo hi : Int} {k : Nat} (hA : IsM A f) (hk : 65540 ≤ k) : ∃ M, isinglassref05_Flip k A lo hi = some (A, M) ∧ IsM M (fx f lo hi) := by
  obtain ⟨M, r1, r2⟩ := RFlip_l0_eq (lo := lo) (hi := hi) hA 65536 k 0 (List.replicate 65536 false) (by omega) (by omega) (by omega) List.length_replicate
  have r1' : isinglassref05_Flip_l0 k A (List.replicate 65536 false) lo hi 0 = some (A, M) := r1
  refine ⟨M, ?_, r2.all.len, fun x hx => ?_⟩
  · unfold isinglassref05_Flip
    rw [r1']
    rfl
  · rw [r2.all.has x hx, fl_fx (by omega) (by omega)]
/-! ### Marks as words -/
theorem add_bit {w t : Nat} (ht : t < 64) (hw : w < 18446744073709551616) (h : ∀ j, t ≤ j → j < 64 → w.testBit j = false) : IntKind.wrap .u64 ((w : Int) + shlI .u64 1 (t : Int)) = ((w ||| (1 <<< t % 18446744073709551616) : Nat) : Int) := by
  have s1 : shlI .u64 1 (t : Int) = ((1 <<< t % 18446744073709551616 : Nat) : Int) := shl64 (a := 1) (by omega)
  have e : 1 <<< t % 18446744073709551616 = 2 ^ t := by
    rw [Nat.shiftLeft_eq, Nat.one_mul]
    exact Nat.mod_eq_of_lt (Nat.pow_lt_pow_right (a := 2) (m := t) (n := 64) (by omega) ht)
  have hlt : w < 2 ^ t := Nat.lt_pow_two_of_testBit w fun j hj => by
    by_cases q : j < 64
    · exact h j hj q
    · exact Nat.testBit_lt_two_pow (Nat.lt_of_lt_of_le (show w < 2 ^ 64 from hw) (Nat.pow_le_pow_right (by omega) (by omega)))
  have hp : 2 ^ t < 2 ^ 64 := Nat.pow_lt_pow_right (a := 2) (m := t) (n := 64) (by omega) ht
  have hs : w + 2 ^ t < 2 ^ 64 := by
    have : 2 ^ (t + 1) ≤ 2 ^ 64 := Nat.pow_le_pow_right (by omega) (by omega)
    rw [Nat.pow_succ] at this
    omega
  have eo := Nat.two_pow_add_eq_or_of_lt hlt 1
  rw [Nat.mul_one] at eo
  rw [s1, e, Nat.or_comm, ← eo, Nat.add_comm (2 ^ t) w]
  exact u64_in _ ⟨by omega, by have : (2 : Nat) ^ 64 = 18446744073709551616 := by decide
                               omega⟩
theorem RWords_l0_eq {M : List Bool} {f : Int → Bool} (hM : IsM M f) : ∀ (d k i : Nat) (W : List Nat), 65536 - i ≤ d → d + 1 ≤ k → i ≤ 65536 → wfW W → (∀ y, i ≤ y → y < 65536 → hasW W y = false) →
    ∃ W', isinglassref05_Words_l0 k M (up W) (i : Int) = some (M, up W') ∧ wfW W' ∧ ∀ x : Nat, x < 65536 → hasW W' x = (hasW W x || (decide (i ≤ x) && f (x : Int)))
  | d, 0, i, W, _, hk, _, _, _ => by omega
  | d, k + 1, i, W, hd, hk, hi, hW, h0 => by
    rw [isinglassref05_Words_l0]
    by_cases c : (i : Int) < 65536
    · have hn : i < 65536 := by omega
      have c0 : (0 : Int) ≤ (i : Int) := by omega
      have b1 : Nat.ble 65536 M.length = true := by rw [hM.len, Nat.ble_eq]; omega
      have e2 : IntKind.wrap .i64 ((i : Int) + 1) = ((i + 1 : Nat) : Int) := by rw [i64_in _ ⟨by omega, by omega⟩]; omega
      have e1 : IntKind.wrap .i64 ((i / 64 : Nat) : Int) = ((i / 64 : Nat) : Int) := i64_in _ ⟨by omega, by omega⟩
      have e3 : IntKind.wrap .u64 ((i % 64 : Nat) : Int) = ((i % 64 : Nat) : Int) := u64_in _ ⟨by omega, by omega⟩
      have c1 : ((i / 64 : Nat) : Int) < ((up W).length : Int) := by rw [up_len, hW.1]; omega
      have c2 : (0 : Int) ≤ ((i / 64 : Nat) : Int) := by omega
      have c3 : ¬ (((i % 64 : Nat) : Int) < 0) := by omega
      have fa := hM.has i hn
      have ab := add_bit (w := W.getD (i / 64) 0) (t := i % 64) (by omega) (wfW_get hW.2 _) fun j hj hj2 => by
        have := h0 (64 * (i / 64) + j) (by omega) (by omega)
        unfold hasW at this
        rw [show (64 * (i / 64) + j) / 64 = i / 64 by omega, show (64 * (i / 64) + j) % 64 = j by omega] at this
        exact this
      simp only [c, c0, decide_true, cond_true, Int.toNat_natCast, b1, fa, e2, tdiv64, tmod64, e1, e3, c1, c2, c3, decide_false, Bool.not_false, up_get, ab, up_set]
      cases hf : f (i : Int) with
      | true =>
        simp only [cond_true]
        obtain ⟨W', r1, r2, r3⟩ := RWords_l0_eq hM (d - 1) k (i + 1) _ (by omega) (by omega) (by omega) (setbit_wf hW hn) (fun y hy hy2 => by
          rw [setbit_has hW hn y hy2, h0 y (by omega) hy2, Bool.false_or, decide_eq_false (by omega)])
        refine ⟨W', r1, r2, fun x hx => ?_⟩
        rw [r3 x hx, setbit_has hW hn x hx, Bool.or_assoc]
        congr 1
        by_cases q : x = i
        · subst q
          rw [decide_eq_true rfl, Bool.true_or, decide_eq_true (Nat.le_refl _), hf]
          rfl
        · rw [decide_eq_false q, Bool.false_or]
          have : (i + 1 ≤ x) ↔ (i ≤ x) := by omega
          rw [decide_eq_decide.2 this]
      | false =>
        simp only [cond_false]
        obtain ⟨W', r1, r2, r3⟩ := RWords_l0_eq hM (d - 1) k (i + 1) W (by omega) (by omega) (by omega) hW (fun y hy hy2 => h0 y (by omega) hy2)
        refine ⟨W', r1, r2, fun x hx => ?_⟩
        rw [r3 x hx]
        congr 1
        by_cases q : x = i
        · subst q
          rw [hf, Bool.and_false, Bool.and_false]
        · have : (i + 1 ≤ x) ↔ (i ≤ x) := by omega
          rw [decide_eq_decide.2 this]
    · refine ⟨W, by simp only [c, decide_false, cond_false], hW, fun x hx => ?_⟩
      rw [decide_eq_false (by omega), Bool.false_and, Bool.or_false]
theorem RWords_eq {M : List Bool} {f : Int → Bool} {k : Nat} (hM : IsM M f) (hk : 65540 ≤ k) : ∃ W, isinglassref05_Words k M = some (M, up W) ∧ wfW W ∧ ∀ x : Nat, x < 65536 → hasW W x = f (x : Int) := by
  obtain ⟨W, r1, r2, r3⟩ := RWords_l0_eq hM 65536 k 0 _ (by omega) (by omega) (by omega) zero_wf (fun y _ _ => zero_has y)
  refine ⟨W, ?_, r2, fun x hx => by rw [r3 x hx, zero_has, decide_eq_true (Nat.zero_le _)]; simp⟩
  unfold isinglassref05_Words
  rw [replicate_up]
  have r1' : isinglassref05_Words_l0 k M (up (List.replicate 1024 0)) 0 = some (M, up W) := r1
  simp only [Nat.le_refl, decide_true, cond_true]
  rw [r1']
  rfl
/-! ### Marks as runs -/
theorem memI_snoc (f : Int → Bool) (i : Nat) : memI f 0 (i + 1) = memI f 0 i ++ (if f (i : Int) then [(i : Int)] else []) := by
  rw [memI_split]
  congr 1
  unfold memI
  rw [show List.range 1 = [0] from rfl]
  simp only [List.filter_cons, List.filter_nil, Int.natCast_zero, Int.add_zero, Int.zero_add]
  split <;> simp
theorem memI_len (f : Int → Bool) (a : Int) (n : Nat) : (memI f a n).length ≤ n := by
  unfold memI
  rw [List.length_map]
  exact Nat.le_trans (List.length_filter_le _ _) (by rw [List.length_range]; omega)
theorem memI_mem {f : Int → Bool} {n : Nat} {x : Int} (h : x ∈ memI f 0 n) : 0 ≤ x ∧ x < (n : Int) ∧ f x = true := by
  unfold memI at h
  rw [List.mem_map] at h
  obtain ⟨j, h1, h2⟩ := h
  rw [List.mem_filter, List.mem_range] at h1
  rw [Int.zero_add] at h1 h2
  subst h2
  exact ⟨by omega, by omega, h1.2⟩
theorem RRuns_l0_eq {M : List Bool} {f : Int → Bool} (hM : IsM M f) : ∀ (d k i : Nat) (r : List Run), 65536 - i ≤ d → d + 1 ≤ k → i ≤ 65536 → OfInv r (memI f 0 i) →
    ∃ r', isinglassref06_Runs_l0 k M r (i : Int) = some (M, r') ∧ OfInv r' (memI f 0 65536)
  | d, 0, i, r, _, hk, _, _ => by omega
  | d, k + 1, i, r, hd, hk, hi, h => by
    rw [isinglassref06_Runs_l0]
    by_cases c : (i : Int) < 65536
    · have c0 : (0 : Int) ≤ (i : Int) := by omega
      have b1 : Nat.ble 65536 M.length = true := by rw [hM.len, Nat.ble_eq]; omega
      have e2 : IntKind.wrap .i64 ((i : Int) + 1) = ((i + 1 : Nat) : Int) := by rw [i64_in _ ⟨by omega, by omega⟩]; omega
      have e5 : IntKind.wrap .u16 (i : Int) = (i : Int) := u16_in _ ⟨by omega, by omega⟩
      have fa := hM.has i (by omega)
      have hs := memI_snoc f i
      have hrl : r.length ≤ 65536 := by
        have h1 := listR_ge h.wf
        rw [h.l] at h1
        have := memI_len f 0 i
        omega
      have g1 : decide ((r.length + 1) * 4 ≤ 140737488355328) = true := by simp; omega
      have g2 : decide (r.length + 1 ≤ 140737488355328) = true := by simp; omega
      simp only [c, c0, decide_true, cond_true, Int.toNat_natCast, b1, fa, e2, e5, List.length_cons, List.length_nil, Nat.zero_add, g1, g2]
      cases hf : f (i : Int) with
      | false =>
        rw [hf] at hs
        rw [if_neg (by decide), List.append_nil] at hs
        simp only [Bool.not_false, cond_true]
        exact RRuns_l0_eq hM (d - 1) k (i + 1) r (by omega) (by omega) (by omega) (by rw [hs]; exact h)
      | true =>
        rw [hf, if_pos rfl] at hs
        simp only [Bool.not_true, cond_false]
        have new : (i = 0 ∨ f ((i : Int) - 1) = false) → ∃ r', isinglassref06_Runs_l0 k M (r ++ [((i : Int), 0)]) ((i + 1 : Nat) : Int) = some (M, r') ∧ OfInv r' (memI f 0 65536) := by
          intro hq
          refine RRuns_l0_eq hM (d - 1) k (i + 1) _ (by omega) (by omega) (by omega) ?_
          rw [hs]
          refine of_new h ⟨by omega, by omega⟩ fun y hy => ?_
          obtain ⟨y1, y2, y3⟩ := memI_mem hy
          have : y ≠ (i : Int) - 1 := fun e => by
            rcases hq with hq | hq
            · omega
            · rw [← e, y3] at hq; cases hq
          omega
        by_cases hi0 : i = 0
        · have q : ¬ ((0 : Int) < (i : Int)) := by omega
          simp only [q, decide_false, cond_false]
          exact new (.inl hi0)
        · have q : ((0 : Int) < (i : Int)) := by omega
          have e1 : IntKind.wrap .i64 ((i : Int) - 1) = ((i - 1 : Nat) : Int) := by rw [i64_in _ ⟨by omega, by omega⟩]; omega
          have c1 : (0 : Int) ≤ ((i - 1 : Nat) : Int) := by omega
          have c2 : ((i - 1 : Nat) : Int) < 65536 := by omega
          have fb := hM.has (i - 1) (by omega)
          have e9 : ((i - 1 : Nat) : Int) = (i : Int) - 1 := by omega
          simp only [q, e1, c1, c2, decide_true, cond_true, Int.toNat_natCast, fb]
          cases hg : f ((i - 1 : Nat) : Int) with
          | false =>
            simp only [cond_false]
            exact new (.inr (by rw [← e9]; exact hg))
          | true =>
            simp only [cond_true]
            have hp : memI f 0 i = memI f 0 (i - 1) ++ [((i - 1 : Nat) : Int)] := by
              have := memI_snoc f (i - 1)
              rw [show i - 1 + 1 = i by omega, hg, if_pos rfl] at this
              exact this
            have hrt : ris 0 (memI f 0 i) := memI_ris f i 0 (by omega)
            rw [hp] at h hrt
            obtain ⟨r', p, hr', hp2⟩ := of_last h hrt
            subst hr'
            have hpw := h.wf p (by simp)
            have e4 : IntKind.wrap .i64 (((r' ++ [p]).length : Int) - 1) = ((r'.length : Nat) : Int) := by rw [List.length_append, List.length_singleton] at hrl ⊢; rw [i64_in _ ⟨by omega, by omega⟩]; omega
            have c3 : (0 : Int) ≤ ((r'.length : Nat) : Int) := by omega
            have c4 : ((r'.length : Nat) : Int) < ((r' ++ [p]).length : Int) := by rw [List.length_append, List.length_singleton]; omega
            have e5 : (r' ++ [p]).getD r'.length ((0 : Int), (0 : Int)) = p := by simp [List.getD]
            have e6 : (r' ++ [p]).set r'.length (p.1, p.2 + 1) = r' ++ [(p.1, p.2 + 1)] := by
              rw [List.set_append_right _ _ (Nat.le_refl _)]
              simp
            have e7 : IntKind.wrap .u16 (p.2 + 1) = p.2 + 1 := u16_in _ ⟨by omega, by omega⟩
            simp only [e4, c3, c4, decide_true, cond_true, Int.toNat_natCast, e5, e7, e6]
            refine RRuns_l0_eq hM (d - 1) k (i + 1) _ (by omega) (by omega) (by omega) ?_
            have := of_more h (by omega)
            rw [hs, hp, show (i : Int) = p.1 + p.2 + 1 by omega]
            exact this
    · have : i = 65536 := by omega
      refine ⟨r, by simp only [c, decide_false, cond_false], ?_⟩
      rw [this] at h
      exact h
theorem RRuns_eq {M : List Bool} {f : Int → Bool} {k : Nat} (hM : IsM M f) (hk : 65540 ≤ k) : ∃ r, isinglassref06_Runs k M = some (M, r) ∧ OfInv r (mem f) := by
  obtain ⟨r, r1, r2⟩ := RRuns_l0_eq hM 65536 k 0 [] (by omega) (by omega) (by omega) ⟨by simp [listR, memI], rfl, fun p hp => (nomatch hp)⟩
  refine ⟨r, ?_, by rw [mem_def]; exact r2⟩
  unfold isinglassref06_Runs
  have r1' : isinglassref06_Runs_l0 k M [] 0 = some (M, r) := r1
  rw [r1']
  rfl
theorem MRuns_l0_eq {M : List Bool} {f : Int → Bool} (hs : Sup f) (hM : IsM M f) : ∀ (d k i n : Nat), 65536 - i ≤ d → d + 1 ≤ k → i ≤ 65536 → n = (memI (startI f) 0 i).length →
    isinglassref04_Marks_Runs_l0 k M (n : Int) (i : Int) = some (M, ((memI (startI f) 0 65536).length : Int))
  | d, 0, i, n, _, hk, _, _ => by omega
  | d, k + 1, i, n, hd, hk, hi, h => by
    rw [isinglassref04_Marks_Runs_l0]
    by_cases c : (i : Int) < 65536
    · have c0 : (0 : Int) ≤ (i : Int) := by omega
      have b1 : Nat.ble 65536 M.length = true := by rw [hM.len, Nat.ble_eq]; omega
      have e2 : IntKind.wrap .i64 ((i : Int) + 1) = ((i + 1 : Nat) : Int) := by rw [i64_in _ ⟨by omega, by omega⟩]; omega
      have hl := memI_len (startI f) 0 i
      have e3 : IntKind.wrap .i64 ((n : Int) + 1) = ((n + 1 : Nat) : Int) := by rw [i64_in _ ⟨by omega, by omega⟩]; omega
      have fa := hM.has i (by omega)
      have hsn := memI_snoc (startI f) i
      have yes : startI f (i : Int) = true → isinglassref04_Marks_Runs_l0 k M ((n + 1 : Nat) : Int) ((i + 1 : Nat) : Int) = some (M, ((memI (startI f) 0 65536).length : Int)) := fun hy =>
        MRuns_l0_eq hs hM (d - 1) k (i + 1) (n + 1) (by omega) (by omega) (by omega) (by rw [hsn, hy, if_pos rfl, List.length_append, ← h]; rfl)
      have nope : startI f (i : Int) = false → isinglassref04_Marks_Runs_l0 k M (n : Int) ((i + 1 : Nat) : Int) = some (M, ((memI (startI f) 0 65536).length : Int)) := fun hy =>
        MRuns_l0_eq hs hM (d - 1) k (i + 1) n (by omega) (by omega) (by omega) (by rw [hsn, hy, if_neg (by decide), List.append_nil, ← h])
      unfold startI at yes nope
      simp only [c, c0, decide_true, cond_true, Int.toNat_natCast, b1, fa, e2, e3]
      cases hf : f (i : Int) with
      | false =>
        simp only [cond_false]
        exact nope (by rw [hf]; rfl)
      | true =>
        simp only [cond_true]
        by_cases hi0 : i = 0
        · have q : ((i : Int) = 0) := by omega
          simp only [decide_eq_true q, cond_true]
          exact yes (by rw [hf, hs _ (.inl (by omega))]; rfl)
        · have q : ¬ ((i : Int) = 0) := by omega
          have e1 : IntKind.wrap .i64 ((i : Int) - 1) = ((i - 1 : Nat) : Int) := by rw [i64_in _ ⟨by omega, by omega⟩]; omega
          have c1 : (0 : Int) ≤ ((i - 1 : Nat) : Int) := by omega
          have c2 : ((i - 1 : Nat) : Int) < 65536 := by omega
          have fb := hM.has (i - 1) (by omega)
          have e9 : ((i - 1 : Nat) : Int) = (i : Int) - 1 := by omega
          simp only [decide_eq_false q, e1, c1, c2, decide_true, cond_true, cond_false, Int.toNat_natCast, fb]
          cases hg : f ((i - 1 : Nat) : Int) with
          | false =>
            simp only [Bool.not_false, cond_true]
            exact yes (by rw [hf, ← e9, hg]; rfl)
          | true =>
            simp only [Bool.not_true, cond_false]
            exact nope (by rw [hf, ← e9, hg]; rfl)
    · have : i = 65536 := by omega
      simp only [c, decide_false, cond_false]
      rw [h, this]
theorem MRuns_eq {M : List Bool} {f : Int → Bool} {k : Nat} (hs : Sup f) (hM : IsM M f) (hk : 65540 ≤ k) : isinglassref04_Marks_Runs k M = some (M, rF f) := by
  have r1 := MRuns_l0_eq hs hM 65536 k 0 0 (by omega) (by omega) (by omega) (by simp [memI])
  have r1' : isinglassref04_Marks_Runs_l0 k M 0 0 = some (M, ((memI (startI f) 0 65536).length : Int)) := r1
  unfold isinglassref04_Marks_Runs
  rw [r1', rF_def]
  rfl
theorem RKind_eq {M : List Bool} {f : Int → Bool} {k : Nat} (hs : Sup f) (hM : IsM M f) (hk : 65540 ≤ k) : isinglassref07_Kind k M = some (M, kF (nF f) (rF f)) := by
  have b1 := nF_bound f
  have b2 := rF_bound f
  have e1 := hM.list hk
  have e2 := MRuns_eq hs hM hk
  have hn : ((mem f).length : Int) = nF f := rfl
  generalize mem f = l at e1 hn
  generalize nF f = n at *
  generalize rF f = m at *
  unfold isinglassref07_Kind
  rw [e1]
  simp only [Option.bind_some, e2, hn]
  have w1 : IntKind.wrap .i64 (4 * m) = 4 * m := i64_in _ ⟨by omega, by omega⟩
  have w2 : IntKind.wrap .i64 (2 + 4 * m) = 2 + 4 * m := i64_in _ ⟨by omega, by omega⟩
  have w3 : IntKind.wrap .i64 (2 * n) = 2 * n := i64_in _ ⟨by omega, by omega⟩
  simp only [w1, w2, w3]
  rw [canon_body]
  rcases kF_cases n m with q | q | q
  · rw [if_pos q, q]
  · rw [if_neg (by rw [q]; decide), if_pos q, q]
  · rw [if_neg (by rw [q]; decide), if_neg (by rw [q]; decide), q]
/-! ### Made of numbers, as a kind -/
theorem OfWords_eq {W : List Nat} {k : Nat} (hW : wfW W) : container_OfWords k (up W) = some (((2 : Int), (([] : List Int), (up W, ([] : List (Int × Int))))), true) := by
  have hl : (up W).length = 1024 := by rw [up_len, hW.1]
  unfold container_OfWords
  rw [hl, clone64_eq (by omega)]
  rfl
theorem OfRuns_eq {r : List Run} {k : Nat} (hm : mayF 0 r = true) (hw : wfR r) (hb : r.length ≤ 65536) (hk : 65540 ≤ k) : container_OfRuns k r = some (((3 : Int), (([] : List Int), (([] : List Int), r))), true) := by
  unfold container_OfRuns
  rw [May_eq hw (by omega) (by omega), hm]
  simp only [Option.bind_some, Bool.not_true, cond_false]
  rw [clone_eq (by omega)]
  rfl
theorem make3_eq {a : List Int} {kind : Int} {k : Nat} (ha : ∀ y, y ∈ a → 0 ≤ y ∧ y < 65536) (hb : a.length ≤ 3000) (hk : 300000 ≤ k) (hkd : kind = 1 ∨ kind = 2 ∨ kind = 3) :
    ∃ M c, isinglasslaw07_make3 k a kind = some (M, c, true) ∧ IsM M (setL a) ∧ IsC c (setL a) := by
  have hs := setL_sup ha
  obtain ⟨M, e, hM⟩ := IsM.of (k := k) ha (by omega) (by omega)
  unfold isinglasslaw07_make3
  rw [e]
  simp only [Option.bind_some]
  rcases hkd with h | h | h
  · subst h
    refine ⟨M, _, ?_, hM, IsC.arr (w := []) (r := []) (.inr rfl)⟩
    simp only [decide_true, cond_true, hM.list (k := k) (by omega), Option.bind_some, OfArray_eq (f := setL a) (k := k) (by omega), Kind_eq]
    rfl
  · subst h
    obtain ⟨W, w1, w2, w3⟩ := RWords_eq (k := k) hM (by omega)
    refine ⟨M, _, ?_, hM, IsC.wrd (a := []) (r := []) w2 w3⟩
    simp only [show ¬ (2 : Int) = 1 by omega, decide_true, decide_false, cond_true, cond_false, w1, Option.bind_some, OfWords_eq (k := k) w2, Kind_eq]
    rfl
  · subst h
    obtain ⟨r, r1, r2⟩ := RRuns_eq (k := k) hM (by omega)
    have hh := ofinv_has hs r2
    have hl := runs_len_le r2.may r2.wf hh
    refine ⟨M, _, ?_, hM, IsC.run (a := []) (w := []) r2.may r2.wf hh⟩
    simp only [show ¬ (3 : Int) = 1 by omega, show ¬ (3 : Int) = 2 by omega, decide_true, decide_false, cond_true, cond_false, r1, Option.bind_some, OfRuns_eq (k := k) r2.may r2.wf hl (by omega), Kind_eq]
    rfl
end Go.Rx.Tryd

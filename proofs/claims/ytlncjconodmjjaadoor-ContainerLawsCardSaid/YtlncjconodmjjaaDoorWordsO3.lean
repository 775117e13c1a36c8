/- Printed by wordsops.py: both, either, the rest, just one of two sets, as words. -/
import Derived.Test.YtlncjconodmjjaaDoorWordsN3
namespace Go.Rx.Tryd
open Go.Rx.Plain Go.IntWalk
set_option linter.unusedVariables false
set_option linter.unusedSimpArgs false

theorem And_l0_eq {A B : List Nat} (hA : wfW A) (hB : wfW B) : ∀ (d k i : Nat) (W : List Nat), 1024 - i ≤ d → d + 1 ≤ k → i ≤ 1024 → wfW W →
    ∃ W', words_each_And_1_l0 k (up W) (up A) (up B) 1024 (i : Int) = some (up W') ∧ wfW W' ∧ (∀ j, j < i → W'.getD j 0 = W.getD j 0) ∧ ∀ j, i ≤ j → j < 1024 → W'.getD j 0 = (fun a b => a &&& b) (A.getD j 0) (B.getD j 0)
  | d, 0, i, W, _, hk, _, _ => by omega
  | d, k + 1, i, W, hd, hk, hi, hW => by
    rw [words_each_And_1_l0]
    by_cases c : (i : Int) < 1024
    · have c0 : (0 : Int) ≤ (i : Int) := by omega
      have c1 : (i : Int) < ((up W).length : Int) := by rw [up_len, hW.1]; omega
      have c2 : (i : Int) < ((up A).length : Int) := by rw [up_len, hA.1]; omega
      have c3 : (i : Int) < ((up B).length : Int) := by rw [up_len, hB.1]; omega
      have e3 : IntKind.wrap .i64 ((i : Int) + 1) = ((i + 1 : Nat) : Int) := by rw [i64_in _ ⟨by omega, by omega⟩]; omega
      have ha := wfW_get hA.2 i
      have hb := wfW_get hB.2 i
      have e6 : words_And_1 k ((A.getD i 0 : Nat) : Int) ((B.getD i 0 : Nat) : Int) = some (((fun a b => a &&& b) (A.getD i 0) (B.getD i 0) : Nat) : Int) := by
        unfold words_And_1
        rw [and64 ha hb]
      simp only [c, c0, c1, c2, c3, decide_true, cond_true, Int.toNat_natCast, up_get, e6, Option.bind_some, up_set, e3]
      have hf : (fun a b => a &&& b) (A.getD i 0) (B.getD i 0) < 18446744073709551616 := Nat.lt_of_le_of_lt Nat.and_le_left ha
      have hW2 : wfW (W.set i ((fun a b => a &&& b) (A.getD i 0) (B.getD i 0))) := wfW_of (by rw [List.length_set]; exact hW.1) fun j hj => by
        rw [getD_set (by rw [hW.1]; omega)]
        split
        · exact hf
        · exact wfW_get hW.2 j
      obtain ⟨W', r1, r2, r3, r4⟩ := And_l0_eq hA hB (d - 1) k (i + 1) _ (by omega) (by omega) (by omega) hW2
      refine ⟨W', r1, r2, fun j hj => ?_, fun j hj hj2 => ?_⟩
      · rw [r3 j (by omega), getD_set (by rw [hW.1]; omega), if_neg (by omega)]
      · by_cases hji : j = i
        · subst hji
          rw [r3 j (by omega), getD_set (by rw [hW.1]; omega), if_pos rfl]
        · exact r4 j (by omega) hj2
    · refine ⟨W, by simp only [c, decide_false, cond_false], hW, fun j _ => rfl, fun j hj hj2 => by omega⟩
theorem WAnd_eq {A B : List Nat} {k : Nat} (hA : wfW A) (hB : wfW B) (hk : 1030 ≤ k) : ∃ W, words_And k (up A) (up B) = some (up W) ∧ wfW W ∧ ∀ x, x < 65536 → hasW W x = ((fun x y => x && y) (hasW A x) (hasW B x)) := by
  obtain ⟨W', r1, r2, _, r4⟩ := And_l0_eq hA hB 1024 k 0 _ (by omega) (by omega) (by omega) zero_wf
  refine ⟨W', ?_, r2, fun x hx => ?_⟩
  · unfold words_And words_each_And_1
    have e1 : min (min ((up A).length : Int) ((up B).length : Int)) 1024 = 1024 := by rw [up_len, up_len, hA.1, hB.1]; rfl
    rw [e1, replicate_up]
    have r1' : words_each_And_1_l0 k (up (List.replicate 1024 0)) (up A) (up B) 1024 0 = some (up W') := r1
    rw [r1']
    rfl
  · unfold hasW
    rw [r4 (x / 64) (by omega) (by omega), Nat.testBit_and]


theorem Or_l0_eq {A B : List Nat} (hA : wfW A) (hB : wfW B) : ∀ (d k i : Nat) (W : List Nat), 1024 - i ≤ d → d + 1 ≤ k → i ≤ 1024 → wfW W →
    ∃ W', words_each_Or_1_l0 k (up W) (up A) (up B) 1024 (i : Int) = some (up W') ∧ wfW W' ∧ (∀ j, j < i → W'.getD j 0 = W.getD j 0) ∧ ∀ j, i ≤ j → j < 1024 → W'.getD j 0 = (fun a b => a ||| b) (A.getD j 0) (B.getD j 0)
  | d, 0, i, W, _, hk, _, _ => by omega
  | d, k + 1, i, W, hd, hk, hi, hW => by
    rw [words_each_Or_1_l0]
    by_cases c : (i : Int) < 1024
    · have c0 : (0 : Int) ≤ (i : Int) := by omega
      have c1 : (i : Int) < ((up W).length : Int) := by rw [up_len, hW.1]; omega
      have c2 : (i : Int) < ((up A).length : Int) := by rw [up_len, hA.1]; omega
      have c3 : (i : Int) < ((up B).length : Int) := by rw [up_len, hB.1]; omega
      have e3 : IntKind.wrap .i64 ((i : Int) + 1) = ((i + 1 : Nat) : Int) := by rw [i64_in _ ⟨by omega, by omega⟩]; omega
      have ha := wfW_get hA.2 i
      have hb := wfW_get hB.2 i
      have e6 : words_Or_1 k ((A.getD i 0 : Nat) : Int) ((B.getD i 0 : Nat) : Int) = some (((fun a b => a ||| b) (A.getD i 0) (B.getD i 0) : Nat) : Int) := by
        unfold words_Or_1
        rw [or64 ha hb]
      simp only [c, c0, c1, c2, c3, decide_true, cond_true, Int.toNat_natCast, up_get, e6, Option.bind_some, up_set, e3]
      have hf : (fun a b => a ||| b) (A.getD i 0) (B.getD i 0) < 18446744073709551616 := or_lt64 ha hb
      have hW2 : wfW (W.set i ((fun a b => a ||| b) (A.getD i 0) (B.getD i 0))) := wfW_of (by rw [List.length_set]; exact hW.1) fun j hj => by
        rw [getD_set (by rw [hW.1]; omega)]
        split
        · exact hf
        · exact wfW_get hW.2 j
      obtain ⟨W', r1, r2, r3, r4⟩ := Or_l0_eq hA hB (d - 1) k (i + 1) _ (by omega) (by omega) (by omega) hW2
      refine ⟨W', r1, r2, fun j hj => ?_, fun j hj hj2 => ?_⟩
      · rw [r3 j (by omega), getD_set (by rw [hW.1]; omega), if_neg (by omega)]
      · by_cases hji : j = i
        · subst hji
          rw [r3 j (by omega), getD_set (by rw [hW.1]; omega), if_pos rfl]
        · exact r4 j (by omega) hj2
    · refine ⟨W, by simp only [c, decide_false, cond_false], hW, fun j _ => rfl, fun j hj hj2 => by omega⟩
theorem WOr_eq {A B : List Nat} {k : Nat} (hA : wfW A) (hB : wfW B) (hk : 1030 ≤ k) : ∃ W, words_Or k (up A) (up B) = some (up W) ∧ wfW W ∧ ∀ x, x < 65536 → hasW W x = ((fun x y => x || y) (hasW A x) (hasW B x)) := by
  obtain ⟨W', r1, r2, _, r4⟩ := Or_l0_eq hA hB 1024 k 0 _ (by omega) (by omega) (by omega) zero_wf
  refine ⟨W', ?_, r2, fun x hx => ?_⟩
  · unfold words_Or words_each_Or_1
    have e1 : min (min ((up A).length : Int) ((up B).length : Int)) 1024 = 1024 := by rw [up_len, up_len, hA.1, hB.1]; rfl
    rw [e1, replicate_up]
    have r1' : words_each_Or_1_l0 k (up (List.replicate 1024 0)) (up A) (up B) 1024 0 = some (up W') := r1
    rw [r1']
    rfl
  · unfold hasW
    rw [r4 (x / 64) (by omega) (by omega), Nat.testBit_or]


theorem AndNot_l0_eq {A B : List Nat} (hA : wfW A) (hB : wfW B) : ∀ (d k i : Nat) (W : List Nat), 1024 - i ≤ d → d + 1 ≤ k → i ≤ 1024 → wfW W →
    ∃ W', words_each_AndNot_1_l0 k (up W) (up A) (up B) 1024 (i : Int) = some (up W') ∧ wfW W' ∧ (∀ j, j < i → W'.getD j 0 = W.getD j 0) ∧ ∀ j, i ≤ j → j < 1024 → W'.getD j 0 = notAnd (A.getD j 0) (B.getD j 0)
  | d, 0, i, W, _, hk, _, _ => by omega
  | d, k + 1, i, W, hd, hk, hi, hW => by
    rw [words_each_AndNot_1_l0]
    by_cases c : (i : Int) < 1024
    · have c0 : (0 : Int) ≤ (i : Int) := by omega
      have c1 : (i : Int) < ((up W).length : Int) := by rw [up_len, hW.1]; omega
      have c2 : (i : Int) < ((up A).length : Int) := by rw [up_len, hA.1]; omega
      have c3 : (i : Int) < ((up B).length : Int) := by rw [up_len, hB.1]; omega
      have e3 : IntKind.wrap .i64 ((i : Int) + 1) = ((i + 1 : Nat) : Int) := by rw [i64_in _ ⟨by omega, by omega⟩]; omega
      have ha := wfW_get hA.2 i
      have hb := wfW_get hB.2 i
      have e6 : words_AndNot_1 k ((A.getD i 0 : Nat) : Int) ((B.getD i 0 : Nat) : Int) = some ((notAnd (A.getD i 0) (B.getD i 0) : Nat) : Int) := by
        unfold words_AndNot_1
        rw [andNot64 ha hb]
      simp only [c, c0, c1, c2, c3, decide_true, cond_true, Int.toNat_natCast, up_get, e6, Option.bind_some, up_set, e3]
      have hf : notAnd (A.getD i 0) (B.getD i 0) < 18446744073709551616 := Nat.lt_of_le_of_lt Nat.and_le_left ha
      have hW2 : wfW (W.set i (notAnd (A.getD i 0) (B.getD i 0))) := wfW_of (by rw [List.length_set]; exact hW.1) fun j hj => by
        rw [getD_set (by rw [hW.1]; omega)]
        split
        · exact hf
        · exact wfW_get hW.2 j
      obtain ⟨W', r1, r2, r3, r4⟩ := AndNot_l0_eq hA hB (d - 1) k (i + 1) _ (by omega) (by omega) (by omega) hW2
      refine ⟨W', r1, r2, fun j hj => ?_, fun j hj hj2 => ?_⟩
      · rw [r3 j (by omega), getD_set (by rw [hW.1]; omega), if_neg (by omega)]
      · by_cases hji : j = i
        · subst hji
          rw [r3 j (by omega), getD_set (by rw [hW.1]; omega), if_pos rfl]
        · exact r4 j (by omega) hj2
    · refine ⟨W, by simp only [c, decide_false, cond_false], hW, fun j _ => rfl, fun j hj hj2 => by omega⟩
theorem WAndNot_eq {A B : List Nat} {k : Nat} (hA : wfW A) (hB : wfW B) (hk : 1030 ≤ k) : ∃ W, words_AndNot k (up A) (up B) = some (up W) ∧ wfW W ∧ ∀ x, x < 65536 → hasW W x = ((fun x y => x && !y) (hasW A x) (hasW B x)) := by
  obtain ⟨W', r1, r2, _, r4⟩ := AndNot_l0_eq hA hB 1024 k 0 _ (by omega) (by omega) (by omega) zero_wf
  refine ⟨W', ?_, r2, fun x hx => ?_⟩
  · unfold words_AndNot words_each_AndNot_1
    have e1 : min (min ((up A).length : Int) ((up B).length : Int)) 1024 = 1024 := by rw [up_len, up_len, hA.1, hB.1]; rfl
    rw [e1, replicate_up]
    have r1' : words_each_AndNot_1_l0 k (up (List.replicate 1024 0)) (up A) (up B) 1024 0 = some (up W') := r1
    rw [r1']
    rfl
  · unfold hasW
    rw [r4 (x / 64) (by omega) (by omega), testBit_notAnd (wfW_get hB.2 _) (Nat.mod_lt _ (by omega))]


theorem Xor_l0_eq {A B : List Nat} (hA : wfW A) (hB : wfW B) : ∀ (d k i : Nat) (W : List Nat), 1024 - i ≤ d → d + 1 ≤ k → i ≤ 1024 → wfW W →
    ∃ W', words_each_Xor_1_l0 k (up W) (up A) (up B) 1024 (i : Int) = some (up W') ∧ wfW W' ∧ (∀ j, j < i → W'.getD j 0 = W.getD j 0) ∧ ∀ j, i ≤ j → j < 1024 → W'.getD j 0 = (fun a b => a ^^^ b) (A.getD j 0) (B.getD j 0)
  | d, 0, i, W, _, hk, _, _ => by omega
  | d, k + 1, i, W, hd, hk, hi, hW => by
    rw [words_each_Xor_1_l0]
    by_cases c : (i : Int) < 1024
    · have c0 : (0 : Int) ≤ (i : Int) := by omega
      have c1 : (i : Int) < ((up W).length : Int) := by rw [up_len, hW.1]; omega
      have c2 : (i : Int) < ((up A).length : Int) := by rw [up_len, hA.1]; omega
      have c3 : (i : Int) < ((up B).length : Int) := by rw [up_len, hB.1]; omega
      have e3 : IntKind.wrap .i64 ((i : Int) + 1) = ((i + 1 : Nat) : Int) := by rw [i64_in _ ⟨by omega, by omega⟩]; omega
      have ha := wfW_get hA.2 i
      have hb := wfW_get hB.2 i
      have e6 : words_Xor_1 k ((A.getD i 0 : Nat) : Int) ((B.getD i 0 : Nat) : Int) = some (((fun a b => a ^^^ b) (A.getD i 0) (B.getD i 0) : Nat) : Int) := by
        unfold words_Xor_1
        rw [xor64 ha hb]
      simp only [c, c0, c1, c2, c3, decide_true, cond_true, Int.toNat_natCast, up_get, e6, Option.bind_some, up_set, e3]
      have hf : (fun a b => a ^^^ b) (A.getD i 0) (B.getD i 0) < 18446744073709551616 := xor_lt64 ha hb
      have hW2 : wfW (W.set i ((fun a b => a ^^^ b) (A.getD i 0) (B.getD i 0))) := wfW_of (by rw [List.length_set]; exact hW.1) fun j hj => by
        rw [getD_set (by rw [hW.1]; omega)]
        split
        · exact hf
        · exact wfW_get hW.2 j
      obtain ⟨W', r1, r2, r3, r4⟩ := Xor_l0_eq hA hB (d - 1) k (i + 1) _ (by omega) (by omega) (by omega) hW2
      refine ⟨W', r1, r2, fun j hj => ?_, fun j hj hj2 => ?_⟩
      · rw [r3 j (by omega), getD_set (by rw [hW.1]; omega), if_neg (by omega)]
      · by_cases hji : j = i
        · subst hji
          rw [r3 j (by omega), getD_set (by rw [hW.1]; omega), if_pos rfl]
        · exact r4 j (by omega) hj2
    · refine ⟨W, by simp only [c, decide_false, cond_false], hW, fun j _ => rfl, fun j hj hj2 => by omega⟩
theorem WXor_eq {A B : List Nat} {k : Nat} (hA : wfW A) (hB : wfW B) (hk : 1030 ≤ k) : ∃ W, words_Xor k (up A) (up B) = some (up W) ∧ wfW W ∧ ∀ x, x < 65536 → hasW W x = ((fun x y => x != y) (hasW A x) (hasW B x)) := by
  obtain ⟨W', r1, r2, _, r4⟩ := Xor_l0_eq hA hB 1024 k 0 _ (by omega) (by omega) (by omega) zero_wf
  refine ⟨W', ?_, r2, fun x hx => ?_⟩
  · unfold words_Xor words_each_Xor_1
    have e1 : min (min ((up A).length : Int) ((up B).length : Int)) 1024 = 1024 := by rw [up_len, up_len, hA.1, hB.1]; rfl
    rw [e1, replicate_up]
    have r1' : words_each_Xor_1_l0 k (up (List.replicate 1024 0)) (up A) (up B) 1024 0 = some (up W') := r1
    rw [r1']
    rfl
  · unfold hasW
    rw [r4 (x / 64) (by omega) (by omega), Nat.testBit_xor]

end Go.Rx.Tryd

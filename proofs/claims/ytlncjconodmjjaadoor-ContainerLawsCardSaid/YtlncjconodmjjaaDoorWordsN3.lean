/- The functions of words, in plain Lean: lists, how many, runs, both, either, the rest, just one of two, a range flipped. -/
import Derived.Test.YtlncjconodmjjaaDoorWordsM3
namespace Go.Rx.Tryd
open Go.Rx.Plain Go.IntWalk
set_option linter.unusedVariables false
set_option linter.unusedSimpArgs false
def castL (l : List Nat) : List Int := l.map fun (n : Nat) => (n : Int)
theorem WList_l1 {w : List Int} {n idx : Int} {i : Nat} (hi : i < 1024) : ∀ (d x k : Nat) (acc : List Int), (bitsL 64 x).length ≤ d → d + 1 ≤ k → x < 18446744073709551616 → acc.length + (bitsL 64 x).length ≤ 1000000 →
    words_List_l1 k acc w (i : Int) (x : Int) n idx = some (acc ++ castL ((bitsL 64 x).map fun j => 64 * i + j), w, n, idx)
  | d, x, 0, acc, _, hk, _, _ => by omega
  | d, x, k + 1, acc, hd, hk, hx, hl => by
    rw [words_List_l1]
    by_cases h0 : x = 0
    · subst h0
      simp [bitsL_zero, castL]
    · obtain ⟨t, t1, t2, t3, t4⟩ := low_bit 64 x hx h0
      have c : ¬ ((x : Int) = 0) := by omega
      rw [t3] at hd hl
      simp only [List.length_cons] at hd hl
      have g1 : decide ((acc.length + 1) * 2 ≤ 140737488355328) = true := by simp; omega
      have g2 : decide (acc.length + 1 ≤ 140737488355328) = true := by simp; omega
      have hlt : bitsI .and .u64 (x : Int) (IntKind.wrap .u64 ((x : Int) - 1)) = ((x &&& (x - 1) : Nat) : Int) := by
        rw [u64_in _ ⟨by omega, by omega⟩, show ((x : Int) - 1) = ((x - 1 : Nat) : Int) by omega, and64 hx (by omega)]
      have e1 : IntKind.wrap .i64 ((IntKind.wrap .i64 (64 * (i : Int))) + (t : Int)) = ((64 * i + t : Nat) : Int) := by
        rw [i64_in (64 * (i : Int)) ⟨by omega, by omega⟩, i64_in _ ⟨by omega, by omega⟩]
        omega
      have e2 : IntKind.wrap .u16 ((64 * i + t : Nat) : Int) = ((64 * i + t : Nat) : Int) := u16_in _ ⟨by omega, by omega⟩
      simp only [c, decide_false, Bool.not_false, cond_true, tz hx h0 t1 t2, Option.bind_some, hlt, e1, e2, List.length_cons, List.length_nil, Nat.zero_add, g1, g2]
      rw [WList_l1 hi (d - 1) (x &&& (x - 1)) k _ (by omega) (by omega) (by omega) (by simp; omega), t3]
      simp [castL]
theorem WList_l0 {W : List Nat} (hW : wfW W) : ∀ (rest : List Nat) (k i : Nat) (acc : List Int), i ≤ 1024 → W.drop i = rest → rest.length + 66 ≤ k → acc.length ≤ 64 * i →
    words_List_l0 k acc (up W) 1024 (i : Int) = some (acc ++ castL (listW i rest))
  | _, 0, _, _, _, _, hk, _ => by omega
  | [], k + 1, i, acc, hi, h, hk, ha => by
    have := drop_nil h (by rw [hW.1]; omega)
    rw [hW.1] at this
    have c : ¬ ((i : Int) < 1024) := by omega
    rw [words_List_l0]
    simp [c, listW, castL]
  | x :: s, k + 1, i, acc, hi, h, hk, ha => by
    obtain ⟨h1, h2, h3⟩ := drop_cons h 0
    rw [hW.1] at h1
    have hx : x < 18446744073709551616 := hW.2 x (List.mem_of_mem_drop (by rw [h]; simp))
    have c : ((i : Int) < 1024) := by omega
    have c0 : (0 : Int) ≤ (i : Int) := by omega
    have c1 : (i : Int) < ((up W).length : Int) := by rw [up_len, hW.1]; omega
    have hp : (bitsL 64 x).length ≤ 64 := pc_le 64 x
    rw [words_List_l0]
    simp only [c, c0, c1, decide_true, cond_true, Int.toNat_natCast, up_get, h2]
    rw [WList_l1 (by omega) 64 x k acc hp (by simp at hk; omega) hx (by omega)]
    simp only [Option.bind_some]
    rw [i64_in _ ⟨by omega, by omega⟩, show ((i : Int) + 1) = ((i + 1 : Nat) : Int) by omega]
    rw [WList_l0 hW s k (i + 1) _ (by omega) h3 (by simp at hk; omega) (by simp [castL]; omega)]
    simp [listW, castL]
theorem WList_eq {W : List Nat} {k : Nat} (hW : wfW W) (hk : 1100 ≤ k) : words_List k (up W) = some (castL (listW 0 W)) := by
  unfold words_List
  have e : min ((up W).length : Int) 1024 = 1024 := by rw [up_len, hW.1]; rfl
  rw [e, show words_List_l0 k [] (up W) 1024 0 = words_List_l0 k [] (up W) 1024 ((0 : Nat) : Int) from rfl, WList_l0 hW W k 0 [] (by omega) rfl (by rw [hW.1]; omega) (by simp)]
  simp
theorem WLen_l0 {W : List Nat} (hW : wfW W) : ∀ (rest : List Nat) (k i n : Nat), i ≤ 1024 → W.drop i = rest → rest.length + 1 ≤ k → n ≤ 64 * i →
    words_Len_l0 k (n : Int) (up W) 1024 (i : Int) = some ((n + lenW rest : Nat) : Int)
  | _, 0, _, _, _, _, hk, _ => by omega
  | [], k + 1, i, n, hi, h, hk, hn => by
    have := drop_nil h (by rw [hW.1]; omega)
    rw [hW.1] at this
    have c : ¬ ((i : Int) < 1024) := by omega
    rw [words_Len_l0]
    simp [c, lenW]
  | x :: s, k + 1, i, n, hi, h, hk, hn => by
    obtain ⟨h1, h2, h3⟩ := drop_cons h 0
    rw [hW.1] at h1
    have hx : x < 18446744073709551616 := hW.2 x (List.mem_of_mem_drop (by rw [h]; simp))
    have c : ((i : Int) < 1024) := by omega
    have c0 : (0 : Int) ≤ (i : Int) := by omega
    have c1 : (i : Int) < ((up W).length : Int) := by rw [up_len, hW.1]; omega
    have hp := pc_le 64 x
    rw [words_Len_l0]
    simp only [c, c0, c1, decide_true, cond_true, Int.toNat_natCast, up_get, h2, ones hx, Option.bind_some]
    rw [i64_in ((n : Int) + _) ⟨by omega, by omega⟩, i64_in _ ⟨by omega, by omega⟩, show ((i : Int) + 1) = ((i + 1 : Nat) : Int) by omega, show ((n : Int) + ((pc 64 x : Nat) : Int)) = ((n + pc 64 x : Nat) : Int) by omega]
    rw [WLen_l0 hW s k (i + 1) _ (by omega) h3 (by simp at hk; omega) (by omega), lenW, Nat.add_assoc]
theorem WLen_eq {W : List Nat} {k : Nat} (hW : wfW W) (hk : 1030 ≤ k) : words_Len k (up W) = some ((lenW W : Nat) : Int) := by
  unfold words_Len
  have e : ((up W).length : Int) = 1024 := by rw [up_len, hW.1]; rfl
  rw [e, show words_Len_l0 k 0 (up W) 1024 0 = words_Len_l0 k ((0 : Nat) : Int) (up W) 1024 ((0 : Nat) : Int) from rfl, WLen_l0 hW W k 0 0 (by omega) rfl (by rw [hW.1]; omega) (by omega)]
  simp
theorem WRuns_l0 {W : List Nat} (hW : wfW W) : ∀ (rest : List Nat) (k i n l : Nat), i ≤ 1024 → W.drop i = rest → rest.length + 1 ≤ k → n ≤ 64 * i → l < 2 →
    words_Runs_l0 k (n : Int) (l : Int) (up W) 1024 (i : Int) = some ((n + runsW l rest : Nat) : Int)
  | _, 0, _, _, _, _, _, hk, _, _ => by omega
  | [], k + 1, i, n, l, hi, h, hk, hn, hl => by
    have := drop_nil h (by rw [hW.1]; omega)
    rw [hW.1] at this
    have c : ¬ ((i : Int) < 1024) := by omega
    rw [words_Runs_l0]
    simp [c, runsW]
  | x :: s, k + 1, i, n, l, hi, h, hk, hn, hl => by
    obtain ⟨h1, h2, h3⟩ := drop_cons h 0
    rw [hW.1] at h1
    have hx : x < 18446744073709551616 := hW.2 x (List.mem_of_mem_drop (by rw [h]; simp))
    have c : ((i : Int) < 1024) := by omega
    have c0 : (0 : Int) ≤ (i : Int) := by omega
    have c1 : (i : Int) < ((up W).length : Int) := by rw [up_len, hW.1]; omega
    have hsl : x <<< 1 % 18446744073709551616 < 18446744073709551616 := Nat.mod_lt _ (by omega)
    have hor : (x <<< 1 % 18446744073709551616) ||| l < 18446744073709551616 := or_lt64 hsl (by omega)
    have hna : notAnd x ((x <<< 1 % 18446744073709551616) ||| l) < 18446744073709551616 := Nat.lt_of_le_of_lt Nat.and_le_left hx
    have hp := pc_le 64 (notAnd x ((x <<< 1 % 18446744073709551616) ||| l))
    have e1 : bitsI .andNot .u64 (x : Int) (bitsI .or .u64 (shlI .u64 (x : Int) 1) (l : Int)) = ((notAnd x ((x <<< 1 % 18446744073709551616) ||| l) : Nat) : Int) := by
      have s1 : shlI .u64 (x : Int) 1 = ((x <<< 1 % 18446744073709551616 : Nat) : Int) := shl64 (s := 1) (by decide)
      rw [s1, or64 hsl (by omega), andNot64 hx hor]
    have e2 : shrI .u64 (x : Int) 63 = ((x >>> 63 : Nat) : Int) := shr64 (s := 63) (by decide)
    have hl2 : x >>> 63 < 2 := by rw [Nat.shiftRight_eq_div_pow]; omega
    rw [words_Runs_l0]
    simp only [c, c0, c1, decide_true, cond_true, Int.toNat_natCast, up_get, h2, e1, e2, ones hna, Option.bind_some]
    rw [i64_in ((n : Int) + _) ⟨by omega, by omega⟩, i64_in _ ⟨by omega, by omega⟩, show ((i : Int) + 1) = ((i + 1 : Nat) : Int) by omega,
      show ((n : Int) + ((pc 64 (notAnd x ((x <<< 1 % 18446744073709551616) ||| l)) : Nat) : Int)) = ((n + pc 64 (notAnd x ((x <<< 1 % 18446744073709551616) ||| l)) : Nat) : Int) by omega]
    rw [WRuns_l0 hW s k (i + 1) _ _ (by omega) h3 (by simp at hk; omega) (by omega) hl2, runsW, Nat.add_assoc]
theorem WRuns_eq {W : List Nat} {k : Nat} (hW : wfW W) (hk : 1030 ≤ k) : words_Runs k (up W) = some ((runsW 0 W : Nat) : Int) := by
  unfold words_Runs
  have e : ((up W).length : Int) = 1024 := by rw [up_len, hW.1]; rfl
  rw [e, show words_Runs_l0 k 0 0 (up W) 1024 0 = words_Runs_l0 k ((0 : Nat) : Int) ((0 : Nat) : Int) (up W) 1024 ((0 : Nat) : Int) from rfl, WRuns_l0 hW W k 0 0 0 (by omega) rfl (by rw [hW.1]; omega) (by omega) (by omega)]
  simp
/-- A list of words, out of what each is. -/
theorem wfW_of {W : List Nat} (h : W.length = 1024) (hb : ∀ j, j < 1024 → W.getD j 0 < 18446744073709551616) : wfW W :=
  ⟨h, fun n hn => by
    obtain ⟨j, hj⟩ := List.getElem?_of_mem hn
    have hl := (List.getElem?_eq_some_iff.1 hj).1
    have := hb j (by omega)
    rw [List.getD_eq_getElem?_getD, hj] at this
    exact this⟩
theorem getD_set {W : List Nat} {i j n : Nat} (hi : i < W.length) : (W.set i n).getD j 0 = if j = i then n else W.getD j 0 := by
  rw [List.getD_eq_getElem?_getD, List.getElem?_set]
  by_cases h : i = j
  · subst h
    simp [hi]
  · have : ¬ j = i := fun q => h q.symm
    simp [h, this]
/-- What a range flipped does to the i-th word. -/
def mskW (lo hi : Int) (i : Nat) : Nat :=
  ((18446744073709551615 >>> (64 - (min hi (64 * (i : Int) + 64) - max lo (64 * (i : Int))).toNat)) <<< (max lo (64 * (i : Int)) - 64 * (i : Int)).toNat) % 18446744073709551616
theorem mskW_bit {lo hi : Int} {i t : Nat} (h0 : 0 ≤ lo) (h1 : hi ≤ 65536) (h : max lo (64 * (i : Int)) < min hi (64 * (i : Int) + 64)) (ht : t < 64) :
    (mskW lo hi i).testBit t = (decide (lo ≤ 64 * (i : Int) + (t : Int)) && decide (64 * (i : Int) + (t : Int) < hi)) := by
  unfold mskW
  rw [show (18446744073709551616 : Nat) = 2 ^ 64 from rfl, Nat.testBit_mod_two_pow, Nat.testBit_shiftLeft, Nat.testBit_shiftRight, show (18446744073709551615 : Nat) = 2 ^ 64 - 1 from rfl, Nat.testBit_two_pow_sub_one]
  rw [Bool.eq_iff_iff]
  simp
  omega
def flipN (lo hi : Int) (i v : Nat) : Nat := if max lo (64 * (i : Int)) < min hi (64 * (i : Int) + 64) then v ^^^ mskW lo hi i else v
theorem flipN_bit {lo hi : Int} {i t v : Nat} (h0 : 0 ≤ lo) (h1 : hi ≤ 65536) (ht : t < 64) : (flipN lo hi i v).testBit t = (v.testBit t != (decide (lo ≤ 64 * (i : Int) + (t : Int)) && decide (64 * (i : Int) + (t : Int) < hi))) := by
  unfold flipN
  split
  · rename_i h
    rw [Nat.testBit_xor, mskW_bit h0 h1 h ht]
  · rename_i h
    have : (decide (lo ≤ 64 * (i : Int) + (t : Int)) && decide (64 * (i : Int) + (t : Int) < hi)) = false := by
      simp
      omega
    rw [this]
    simp
theorem mskW_lt (lo hi : Int) (i : Nat) : mskW lo hi i < 18446744073709551616 := Nat.mod_lt _ (by decide)
theorem WFlip_l0 {lo hi : Int} (h0 : 0 ≤ lo) (h1 : hi ≤ 65536) : ∀ (d k i : Nat) (W : List Nat), 1024 - i ≤ d → d + 1 ≤ k → i ≤ 1024 → wfW W →
    ∃ W', words_Flip_l0 k (up W) lo hi (i : Int) = some (up W') ∧ wfW W' ∧ (∀ j, j < i → W'.getD j 0 = W.getD j 0) ∧ ∀ j, i ≤ j → j < 1024 → W'.getD j 0 = flipN lo hi j (W.getD j 0)
  | d, 0, i, W, _, hk, _, _ => by omega
  | d, k + 1, i, W, hd, hk, hi9, hW => by
    rw [words_Flip_l0]
    by_cases c : (i : Int) < 1024
    · have c0 : (0 : Int) ≤ (i : Int) := by omega
      have c1 : (i : Int) < ((up W).length : Int) := by rw [up_len, hW.1]; omega
      have e1 : IntKind.wrap .i64 (64 * (i : Int)) = 64 * (i : Int) := i64_in _ ⟨by omega, by omega⟩
      have e2 : IntKind.wrap .i64 (64 * (i : Int) + 64) = 64 * (i : Int) + 64 := i64_in _ ⟨by omega, by omega⟩
      have e3 : IntKind.wrap .i64 ((i : Int) + 1) = ((i + 1 : Nat) : Int) := by rw [i64_in _ ⟨by omega, by omega⟩]; omega
      simp only [c, decide_true, cond_true, e1, e2, e3]
      have hv := wfW_get hW.2 i
      by_cases q : max lo (64 * (i : Int)) < min hi (64 * (i : Int) + 64)
      · have e4 : IntKind.wrap .i64 (64 - IntKind.wrap .i64 (min hi (64 * (i : Int) + 64) - max lo (64 * (i : Int)))) = ((64 - (min hi (64 * (i : Int) + 64) - max lo (64 * (i : Int))).toNat : Nat) : Int) := by
          rw [i64_in (min hi (64 * (i : Int) + 64) - max lo (64 * (i : Int))) ⟨by omega, by omega⟩, i64_in _ ⟨by omega, by omega⟩]
          omega
        have e5 : IntKind.wrap .i64 (max lo (64 * (i : Int)) - 64 * (i : Int)) = (((max lo (64 * (i : Int)) - 64 * (i : Int)).toNat : Nat) : Int) := by
          rw [i64_in _ ⟨by omega, by omega⟩]
          omega
        have n4 : ¬ (((64 - (min hi (64 * (i : Int) + 64) - max lo (64 * (i : Int))).toNat : Nat) : Int) < 0) := by omega
        have n5 : ¬ ((((max lo (64 * (i : Int)) - 64 * (i : Int)).toNat : Nat) : Int) < 0) := by omega
        have e6 : bitsI .xor .u64 ((W.getD i 0 : Nat) : Int) (shlI .u64 (shrI .u64 18446744073709551615 ((64 - (min hi (64 * (i : Int) + 64) - max lo (64 * (i : Int))).toNat : Nat) : Int)) (((max lo (64 * (i : Int)) - 64 * (i : Int)).toNat : Nat) : Int)) = ((flipN lo hi i (W.getD i 0) : Nat) : Int) := by
          have s1 : shrI .u64 18446744073709551615 ((64 - (min hi (64 * (i : Int) + 64) - max lo (64 * (i : Int))).toNat : Nat) : Int) = ((18446744073709551615 >>> (64 - (min hi (64 * (i : Int) + 64) - max lo (64 * (i : Int))).toNat) : Nat) : Int) := shr64 (a := 18446744073709551615) (by omega)
          rw [s1, shl64 (by omega)]
          have hm := mskW_lt lo hi i
          unfold mskW at hm
          rw [xor64 hv hm]
          unfold flipN mskW
          rw [if_pos q]
        simp only [q, c0, c1, n4, n5, decide_true, decide_false, cond_true, Bool.not_false, e4, e5, Int.toNat_natCast, up_get, e6, up_set]
        have hf : flipN lo hi i (W.getD i 0) < 18446744073709551616 := by
          unfold flipN
          rw [if_pos q]
          exact xor_lt64 hv (mskW_lt _ _ _)
        have hW2 : wfW (W.set i (flipN lo hi i (W.getD i 0))) := wfW_of (by rw [List.length_set]; exact hW.1) fun j hj => by
          rw [getD_set (by rw [hW.1]; omega)]
          split
          · exact hf
          · exact wfW_get hW.2 j
        obtain ⟨W', r1, r2, r3, r4⟩ := WFlip_l0 h0 h1 (d - 1) k (i + 1) _ (by omega) (by omega) (by omega) hW2
        refine ⟨W', r1, r2, fun j hj => ?_, fun j hj hj2 => ?_⟩
        · rw [r3 j (by omega), getD_set (by rw [hW.1]; omega), if_neg (by omega)]
        · by_cases hji : j = i
          · subst hji
            rw [r3 j (by omega), getD_set (by rw [hW.1]; omega), if_pos rfl]
          · rw [r4 j (by omega) hj2, getD_set (by rw [hW.1]; omega), if_neg hji]
      · simp only [q, decide_false, cond_false]
        obtain ⟨W', r1, r2, r3, r4⟩ := WFlip_l0 h0 h1 (d - 1) k (i + 1) W (by omega) (by omega) (by omega) hW
        refine ⟨W', r1, r2, fun j hj => r3 j (by omega), fun j hj hj2 => ?_⟩
        by_cases hji : j = i
        · subst hji
          rw [r3 j (by omega)]
          unfold flipN
          rw [if_neg q]
        · exact r4 j (by omega) hj2
    · refine ⟨W, by simp only [c, decide_false, cond_false], hW, fun j _ => rfl, fun j hj hj2 => by omega⟩
theorem WFlip_eq {W : List Nat} {lo hi : Int} {k : Nat} (hW : wfW W) (hk : 1030 ≤ k) :
    ∃ W', words_Flip k (up W) lo hi = some (up W') ∧ wfW W' ∧ ∀ x, x < 65536 → hasW W' x = (hasW W x != (decide (max lo 0 ≤ (x : Int)) && decide ((x : Int) < min hi 65536))) := by
  obtain ⟨W', r1, r2, _, r4⟩ := WFlip_l0 (lo := max lo 0) (hi := min hi 65536) (by omega) (by omega) 1024 k 0 W (by omega) (by omega) (by omega) hW
  refine ⟨W', ?_, r2, fun x hx => ?_⟩
  · unfold words_Flip
    have hlen : (List.replicate (Int.toNat 1024) (0 : Int)).length = 1024 := by rw [List.length_replicate]; rfl
    have e1 : List.take 1024 (up W) ++ List.drop (up W).length (List.replicate (Int.toNat 1024) (0 : Int)) = up W := by
      rw [up_len, hW.1, List.take_of_length_le (by rw [up_len, hW.1]; omega), List.drop_eq_nil_of_le (by rw [hlen]; omega), List.append_nil]
    rw [hlen, e1]
    have r1' : words_Flip_l0 k (up W) (max lo 0) (min hi 65536) 0 = some (up W') := r1
    rw [r1']
    rfl
  · unfold hasW
    rw [r4 (x / 64) (by omega) (by omega), flipN_bit (by omega) (by omega) (Nat.mod_lt _ (by omega))]
    have : 64 * ((x / 64 : Nat) : Int) + ((x % 64 : Nat) : Int) = (x : Int) := by omega
    rw [this]
theorem replicate_up : List.replicate (Int.toNat 1024) (0 : Int) = up (List.replicate 1024 0) := by
  unfold up
  rw [List.map_replicate]
  rfl
theorem zero_wf : wfW (List.replicate 1024 0) := ⟨List.length_replicate, fun n hn => by rw [(List.mem_replicate.1 hn).2]; decide⟩
theorem zero_has (x : Nat) : hasW (List.replicate 1024 0) x = false := by
  unfold hasW
  have : (List.replicate 1024 0).getD (x / 64) 0 = 0 := by
    rw [List.getD_eq_getElem?_getD, List.getElem?_replicate]
    split <;> rfl
  rw [this]
  simp
end Go.Rx.Tryd

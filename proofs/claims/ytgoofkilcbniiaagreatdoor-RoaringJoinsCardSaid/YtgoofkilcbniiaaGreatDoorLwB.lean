/- LwB: texts of one kind, laid side by side. -/
import Derived.Test.YtgoofkilcbniiaaGreatDoorLwA
import Derived.Test.YtgoofkilcbniiaaGreatDoorRjF
import Derived.KernelRfl
/-! The functions of words, in plain Lean. -/
namespace Go.Rx.Tryz
open Go.Rx.Plain Go.IntWalk
set_option linter.unusedVariables false
set_option linter.unusedSimpArgs false
theorem shr_lit (a : Nat) (s : Nat) (hs : s ≤ 64) : shrI .u64 (a : Int) (s : Int) = ((a / 2 ^ s : Nat) : Int) := by
  rw [shr64 hs, Nat.shiftRight_eq_div_pow]
theorem and_i64 {a b : Nat} (ha : a < 9223372036854775808) (hb : b < 9223372036854775808) : bitsI .and .i64 (a : Int) (b : Int) = ((a &&& b : Nat) : Int) := by
  have h := Nat.lt_of_le_of_lt (Nat.and_le_left (n := a) (m := b)) ha
  have e : (BitVec.ofInt 64 (a : Int) &&& BitVec.ofInt 64 (b : Int)).toNat = a &&& b := by
    rw [ofInt_nat, ofInt_nat, BitVec.toNat_and, BitVec.toNat_ofNat, BitVec.toNat_ofNat, Nat.mod_eq_of_lt (by omega), Nat.mod_eq_of_lt (by omega)]
  rw [bitsI_eq]
  show IntKind.wrap .i64 (((BitVec.ofInt 64 (a : Int) &&& BitVec.ofInt 64 (b : Int)).toNat : Nat) : Int) = _
  rw [e, i64_in _ ⟨by omega, by omega⟩]
theorem ones {k x : Nat} (hx : x < 18446744073709551616) : math_bits_OnesCount64 k (x : Int) = some ((pc 64 x : Nat) : Int) := by
  obtain ⟨d0, d1, d2, d3, d4, d5, d6, d7, e, b0, b1, b2, b3, b4, b5, b6, b7, hs⟩ := ones_eq x hx
  unfold math_bits_OnesCount64
  have m1 : msk 0x55 8 = 6148914691236517205 := rfl
  have m2 : msk 0x33 8 = 3689348814741910323 := rfl
  have m3 : msk 0x0f 8 = 1085102592571150095 := rfl
  have q1 : IntKind.wrap .u64 ((bitsI .and .u64 (shrI .u64 (x : Int) 1) 6148914691236517205) + (bitsI .and .u64 (x : Int) 6148914691236517205)) = ((S1 8 x : Nat) : Int) ∧ S1 8 x ≤ 12297829382473034410 := by
    have l1 : (x / 2) &&& 6148914691236517205 ≤ 6148914691236517205 := Nat.and_le_right
    have l2 : x &&& 6148914691236517205 ≤ 6148914691236517205 := Nat.and_le_right
    have s1 : shrI .u64 (x : Int) 1 = ((x / 2 : Nat) : Int) := shr_lit x 1 (by omega)
    rw [s1]
    have a1 : bitsI .and .u64 ((x / 2 : Nat) : Int) 6148914691236517205 = (((x / 2) &&& 6148914691236517205 : Nat) : Int) := and64 (by omega) (by decide)
    have a2 : bitsI .and .u64 (x : Int) 6148914691236517205 = ((x &&& 6148914691236517205 : Nat) : Int) := and64 hx (by decide)
    rw [a1, a2, u64_in _ ⟨by omega, by omega⟩]
    unfold S1
    rw [m1]
    exact ⟨by omega, by omega⟩
  obtain ⟨q1, l1⟩ := q1
  simp only [q1]
  generalize S1 8 x = x1 at e l1 ⊢
  have q2 : IntKind.wrap .u64 ((bitsI .and .u64 (shrI .u64 (x1 : Int) 2) 3689348814741910323) + (bitsI .and .u64 (x1 : Int) 3689348814741910323)) = ((S2 8 x1 : Nat) : Int) ∧ S2 8 x1 ≤ 7378697629483820646 := by
    have l1 : (x1 / 4) &&& 3689348814741910323 ≤ 3689348814741910323 := Nat.and_le_right
    have l2 : x1 &&& 3689348814741910323 ≤ 3689348814741910323 := Nat.and_le_right
    have s1 : shrI .u64 (x1 : Int) 2 = ((x1 / 4 : Nat) : Int) := shr_lit x1 2 (by omega)
    rw [s1]
    have a1 : bitsI .and .u64 ((x1 / 4 : Nat) : Int) 3689348814741910323 = (((x1 / 4) &&& 3689348814741910323 : Nat) : Int) := and64 (by omega) (by decide)
    have a2 : bitsI .and .u64 (x1 : Int) 3689348814741910323 = ((x1 &&& 3689348814741910323 : Nat) : Int) := and64 (by omega) (by decide)
    rw [a1, a2, u64_in _ ⟨by omega, by omega⟩]
    unfold S2
    rw [m2]
    exact ⟨by omega, by omega⟩
  obtain ⟨q2, l2⟩ := q2
  simp only [q2]
  generalize S2 8 x1 = x2 at e l2 ⊢
  have q3 : bitsI .and .u64 (IntKind.wrap .u64 ((shrI .u64 (x2 : Int) 4) + (x2 : Int))) 1085102592571150095 = ((S3 8 x2 : Nat) : Int) := by
    have s1 : shrI .u64 (x2 : Int) 4 = ((x2 / 16 : Nat) : Int) := shr_lit x2 4 (by omega)
    rw [s1, u64_in _ ⟨by omega, by omega⟩]
    unfold S3
    rw [m3]
    exact and64 (a := x2 / 16 + x2) (by omega) (by decide)
  simp only [q3]
  rw [e]
  generalize hv : d0 + 256 * (d1 + 256 * (d2 + 256 * (d3 + 256 * (d4 + 256 * (d5 + 256 * (d6 + 256 * d7)))))) = v
  obtain ⟨k1, k2, k3, k4⟩ := fold8 b0 b1 b2 b3 b4 b5 b6 b7 hv rfl rfl
  clear hv b0 b1 b2 b3 b4 b5 b6 b7 e q1 q2 q3 l1 l2 hx
  have s8 : shrI .u64 (v : Int) 8 = ((v / 256 : Nat) : Int) := shr_lit v 8 (by omega)
  have w8 : IntKind.wrap .u64 ((v : Int) + shrI .u64 (v : Int) 8) = ((v + v / 256 : Nat) : Int) := by rw [s8, u64_in _ ⟨by omega, by omega⟩]; omega
  simp only [w8]
  generalize v + v / 256 = v2 at *
  have s16 : shrI .u64 (v2 : Int) 16 = ((v2 / 65536 : Nat) : Int) := shr_lit v2 16 (by omega)
  have w16 : IntKind.wrap .u64 ((v2 : Int) + shrI .u64 (v2 : Int) 16) = ((v2 + v2 / 65536 : Nat) : Int) := by rw [s16, u64_in _ ⟨by omega, by omega⟩]; omega
  simp only [w16]
  generalize v2 + v2 / 65536 = v3 at *
  have s32 : shrI .u64 (v3 : Int) 32 = ((v3 / 4294967296 : Nat) : Int) := shr_lit v3 32 (by omega)
  have w32 : IntKind.wrap .i64 (IntKind.wrap .u64 ((v3 : Int) + shrI .u64 (v3 : Int) 32)) = ((v3 + v3 / 4294967296 : Nat) : Int) := by
    rw [s32, u64_in ((v3 : Int) + ((v3 / 4294967296 : Nat) : Int)) ⟨by omega, by omega⟩, i64_in _ ⟨by omega, by omega⟩]; omega
  rw [w32]
  have fin : bitsI .and .i64 ((v3 + v3 / 4294967296 : Nat) : Int) 127 = (((v3 + v3 / 4294967296) &&& 127 : Nat) : Int) := and_i64 (b := 127) (by omega) (by decide)
  rw [fin, show (127 : Nat) = 2 ^ 7 - 1 from rfl, Nat.and_two_pow_sub_one_eq_mod]
  congr 2
  rw [← hs]
  exact k4
theorem tz_tab : ∀ t : Nat, t < 64 → (2 ^ t * 285870213051353865 % 18446744073709551616) / 288230376151711744 < 64 ∧
    ([0, 1, 56, 2, 57, 49, 28, 3, 61, 58, 42, 50, 38, 29, 17, 4, 62, 47, 59, 36, 45, 43, 51, 22, 53, 39, 33, 30, 24, 18, 12, 5, 63, 55, 48, 27, 60, 41, 37, 16, 46, 35, 44, 21, 52, 32, 23, 11, 54, 26, 40, 15, 34, 20, 31, 10, 25, 14, 19, 9, 13, 8, 7, 6] : List Int).getD ((2 ^ t * 285870213051353865 % 18446744073709551616) / 288230376151711744) 0 = (t : Int) := by decide +kernel
theorem tz {k x t : Nat} (hx : x < 18446744073709551616) (h0 : x ≠ 0) (ht : t < 64) (hl : x &&& (2 ^ 64 - x) = 2 ^ t) : math_bits_TrailingZeros64 k (x : Int) = some (t : Int) := by
  unfold math_bits_TrailingZeros64
  have c : ¬ ((x : Int) = 0) := by omega
  obtain ⟨t1, t2⟩ := tz_tab t ht
  rw [show (2 : Nat) ^ 64 = 18446744073709551616 from rfl] at hl
  generalize 2 ^ t = p at hl t1 t2
  have hn : IntKind.wrap .u64 (0 - (x : Int)) = ((18446744073709551616 - x : Nat) : Int) := by
    rw [IntKind.wrap_u64]
    omega
  have ha : bitsI .and .u64 (x : Int) ((18446744073709551616 - x : Nat) : Int) = ((p : Nat) : Int) := by
    rw [and64 hx (by omega), hl]
  have hm : IntKind.wrap .u64 ((p : Int) * 285870213051353865) = ((p * 285870213051353865 % 18446744073709551616 : Nat) : Int) := by
    have e : ((p : Int) * 285870213051353865) = ((p * 285870213051353865 : Nat) : Int) := by rw [Int.natCast_mul]; rfl
    rw [IntKind.wrap_u64, e]
    generalize p * 285870213051353865 = y
    omega
  have hs : shrI .u64 ((p * 285870213051353865 % 18446744073709551616 : Nat) : Int) 58 = (((p * 285870213051353865 % 18446744073709551616) / 288230376151711744 : Nat) : Int) := shr_lit _ 58 (by decide)
  simp only [c, decide_false, cond_false, hn, ha, hm, hs]
  generalize (p * 285870213051353865 % 18446744073709551616) / 288230376151711744 = i at t1 t2 ⊢
  have c1 : decide ((0 : Int) ≤ (i : Int)) = true := by simp
  have c2 : decide ((i : Int) < 64) = true := by simp; omega
  have c3 : Nat.beq 64 (List.length deBruijn64) = true := by rw [deBruijn_eq]; rfl
  rw [c3, c1, c2, Int.toNat_natCast, deBruijn_eq, t2, i64_in _ ⟨by omega, by omega⟩]
  rfl
end Go.Rx.Tryz
/-! The functions of words, in plain Lean: lists, how many, runs, both, either, the rest, just one of two, a range flipped. -/
namespace Go.Rx.Tryz
open Go.Rx.Plain Go.IntWalk
set_option linter.unusedVariables false
set_option linter.unusedSimpArgs false
def castL (l : List Nat) : List Int := l.map fun (n : Nat) => (n : Int)
theorem WList_l1 {w : List Int} {n idx : Int} {i : Nat} (hi : i < 1024) : ∀ (d x k : Nat) (acc : List Int), (bitsL 64 x).length ≤ d → d + 1 ≤ k → x < 18446744073709551616 → acc.length + (bitsL 64 x).length ≤ 1000000 →
    words_List_l1 k acc w (i : Int) (x : Int) n idx = some (acc ++ castL ((bitsL 64 x).map fun j => 64 * i + j), w, n, idx)
  | d, x, 0, acc, _, hk, _, _ => by omega
  | d, x, k + 1, acc, hd, hk, hx, hl => by
    rw [words_List_l1]
    by_cases h0 : x = 0
    · subst h0
      simp [bitsL_zero, castL]
    · obtain ⟨t, t1, t2, t3, t4⟩ := low_bit 64 x hx h0
      have c : ¬ ((x : Int) = 0) := by omega
      rw [t3] at hd hl
      simp only [List.length_cons] at hd hl
      have g1 : decide ((acc.length + 1) * 2 ≤ 140737488355328) = true := by simp; omega
      have g2 : decide (acc.length + 1 ≤ 140737488355328) = true := by simp; omega
      have hlt : bitsI .and .u64 (x : Int) (IntKind.wrap .u64 ((x : Int) - 1)) = ((x &&& (x - 1) : Nat) : Int) := by
        rw [u64_in _ ⟨by omega, by omega⟩, show ((x : Int) - 1) = ((x - 1 : Nat) : Int) by omega, and64 hx (by omega)]
      have e1 : IntKind.wrap .i64 ((IntKind.wrap .i64 (64 * (i : Int))) + (t : Int)) = ((64 * i + t : Nat) : Int) := by
        rw [i64_in (64 * (i : Int)) ⟨by omega, by omega⟩, i64_in _ ⟨by omega, by omega⟩]
        omega
      have e2 : IntKind.wrap .u16 ((64 * i + t : Nat) : Int) = ((64 * i + t : Nat) : Int) := u16_in _ ⟨by omega, by omega⟩
      simp only [c, decide_false, Bool.not_false, cond_true, tz hx h0 t1 t2, Option.bind_some, hlt, e1, e2, List.length_cons, List.length_nil, Nat.zero_add, g1, g2]
      rw [WList_l1 hi (d - 1) (x &&& (x - 1)) k _ (by omega) (by omega) (by omega) (by simp; omega), t3]
      simp [castL]
theorem WList_l0 {W : List Nat} (hW : wfW W) : ∀ (rest : List Nat) (k i : Nat) (acc : List Int), i ≤ 1024 → W.drop i = rest → rest.length + 66 ≤ k → acc.length ≤ 64 * i →
    words_List_l0 k acc (up W) 1024 (i : Int) = some (acc ++ castL (listW i rest))
  | _, 0, _, _, _, _, hk, _ => by omega
  | [], k + 1, i, acc, hi, h, hk, ha => by
    have := drop_nil h (by rw [hW.1]; omega)
    rw [hW.1] at this
    have c : ¬ ((i : Int) < 1024) := by omega
    rw [words_List_l0]
    simp [c, listW, castL]
  | x :: s, k + 1, i, acc, hi, h, hk, ha => by
    obtain ⟨h1, h2, h3⟩ := drop_cons h 0
    rw [hW.1] at h1
    have hx : x < 18446744073709551616 := hW.2 x (List.mem_of_mem_drop (by rw [h]; simp))
    have c : ((i : Int) < 1024) := by omega
    have c0 : (0 : Int) ≤ (i : Int) := by omega
    have c1 : (i : Int) < ((up W).length : Int) := by rw [up_len, hW.1]; omega
    have hp : (bitsL 64 x).length ≤ 64 := pc_le 64 x
    rw [words_List_l0]
    simp only [c, c0, c1, decide_true, cond_true, Int.toNat_natCast, up_get, h2]
    rw [WList_l1 (by omega) 64 x k acc hp (by simp at hk; omega) hx (by omega)]
    simp only [Option.bind_some]
    rw [i64_in _ ⟨by omega, by omega⟩, show ((i : Int) + 1) = ((i + 1 : Nat) : Int) by omega]
    rw [WList_l0 hW s k (i + 1) _ (by omega) h3 (by simp at hk; omega) (by simp [castL]; omega)]
    simp [listW, castL]
theorem WList_eq {W : List Nat} {k : Nat} (hW : wfW W) (hk : 1100 ≤ k) : words_List k (up W) = some (castL (listW 0 W)) := by
  unfold words_List
  have e : min ((up W).length : Int) 1024 = 1024 := by rw [up_len, hW.1]; rfl
  rw [e, show words_List_l0 k [] (up W) 1024 0 = words_List_l0 k [] (up W) 1024 ((0 : Nat) : Int) from rfl, WList_l0 hW W k 0 [] (by omega) rfl (by rw [hW.1]; omega) (by simp)]
  simp
theorem WLen_l0 {W : List Nat} (hW : wfW W) : ∀ (rest : List Nat) (k i n : Nat), i ≤ 1024 → W.drop i = rest → rest.length + 1 ≤ k → n ≤ 64 * i →
    words_Len_l0 k (n : Int) (up W) 1024 (i : Int) = some ((n + lenW rest : Nat) : Int)
  | _, 0, _, _, _, _, hk, _ => by omega
  | [], k + 1, i, n, hi, h, hk, hn => by
    have := drop_nil h (by rw [hW.1]; omega)
    rw [hW.1] at this
    have c : ¬ ((i : Int) < 1024) := by omega
    rw [words_Len_l0]
    simp [c, lenW]
  | x :: s, k + 1, i, n, hi, h, hk, hn => by
    obtain ⟨h1, h2, h3⟩ := drop_cons h 0
    rw [hW.1] at h1
    have hx : x < 18446744073709551616 := hW.2 x (List.mem_of_mem_drop (by rw [h]; simp))
    have c : ((i : Int) < 1024) := by omega
    have c0 : (0 : Int) ≤ (i : Int) := by omega
    have c1 : (i : Int) < ((up W).length : Int) := by rw [up_len, hW.1]; omega
    have hp := pc_le 64 x
    rw [words_Len_l0]
    simp only [c, c0, c1, decide_true, cond_true, Int.toNat_natCast, up_get, h2, ones hx, Option.bind_some]
    rw [i64_in ((n : Int) + _) ⟨by omega, by omega⟩, i64_in _ ⟨by omega, by omega⟩, show ((i : Int) + 1) = ((i + 1 : Nat) : Int) by omega, show ((n : Int) + ((pc 64 x : Nat) : Int)) = ((n + pc 64 x : Nat) : Int) by omega]
    rw [WLen_l0 hW s k (i + 1) _ (by omega) h3 (by simp at hk; omega) (by omega), lenW, Nat.add_assoc]
theorem WLen_eq {W : List Nat} {k : Nat} (hW : wfW W) (hk : 1030 ≤ k) : words_Len k (up W) = some ((lenW W : Nat) : Int) := by
  unfold words_Len
  have e : ((up W).length : Int) = 1024 := by rw [up_len, hW.1]; rfl
  rw [e, show words_Len_l0 k 0 (up W) 1024 0 = words_Len_l0 k ((0 : Nat) : Int) (up W) 1024 ((0 : Nat) : Int) from rfl, WLen_l0 hW W k 0 0 (by omega) rfl (by rw [hW.1]; omega) (by omega)]
  simp
theorem WRuns_l0 {W : List Nat} (hW : wfW W) : ∀ (rest : List Nat) (k i n l : Nat), i ≤ 1024 → W.drop i = rest → rest.length + 1 ≤ k → n ≤ 64 * i → l < 2 →
    words_Runs_l0 k (n : Int) (l : Int) (up W) 1024 (i : Int) = some ((n + runsW l rest : Nat) : Int)
  | _, 0, _, _, _, _, _, hk, _, _ => by omega
  | [], k + 1, i, n, l, hi, h, hk, hn, hl => by
    have := drop_nil h (by rw [hW.1]; omega)
    rw [hW.1] at this
    have c : ¬ ((i : Int) < 1024) := by omega
    rw [words_Runs_l0]
    simp [c, runsW]
  | x :: s, k + 1, i, n, l, hi, h, hk, hn, hl => by
    obtain ⟨h1, h2, h3⟩ := drop_cons h 0
    rw [hW.1] at h1
    have hx : x < 18446744073709551616 := hW.2 x (List.mem_of_mem_drop (by rw [h]; simp))
    have c : ((i : Int) < 1024) := by omega
    have c0 : (0 : Int) ≤ (i : Int) := by omega
    have c1 : (i : Int) < ((up W).length : Int) := by rw [up_len, hW.1]; omega
    have hsl : x <<< 1 % 18446744073709551616 < 18446744073709551616 := Nat.mod_lt _ (by omega)
    have hor : (x <<< 1 % 18446744073709551616) ||| l < 18446744073709551616 := or_lt64 hsl (by omega)
    have hna : notAnd x ((x <<< 1 % 18446744073709551616) ||| l) < 18446744073709551616 := Nat.lt_of_le_of_lt Nat.and_le_left hx
    have hp := pc_le 64 (notAnd x ((x <<< 1 % 18446744073709551616) ||| l))
    have e1 : bitsI .andNot .u64 (x : Int) (bitsI .or .u64 (shlI .u64 (x : Int) 1) (l : Int)) = ((notAnd x ((x <<< 1 % 18446744073709551616) ||| l) : Nat) : Int) := by
      have s1 : shlI .u64 (x : Int) 1 = ((x <<< 1 % 18446744073709551616 : Nat) : Int) := shl64 (s := 1) (by decide)
      rw [s1, or64 hsl (by omega), andNot64 hx hor]
    have e2 : shrI .u64 (x : Int) 63 = ((x >>> 63 : Nat) : Int) := shr64 (s := 63) (by decide)
    have hl2 : x >>> 63 < 2 := by rw [Nat.shiftRight_eq_div_pow]; omega
    rw [words_Runs_l0]
    simp only [c, c0, c1, decide_true, cond_true, Int.toNat_natCast, up_get, h2, e1, e2, ones hna, Option.bind_some]
    rw [i64_in ((n : Int) + _) ⟨by omega, by omega⟩, i64_in _ ⟨by omega, by omega⟩, show ((i : Int) + 1) = ((i + 1 : Nat) : Int) by omega,
      show ((n : Int) + ((pc 64 (notAnd x ((x <<< 1 % 18446744073709551616) ||| l)) : Nat) : Int)) = ((n + pc 64 (notAnd x ((x <<< 1 % 18446744073709551616) ||| l)) : Nat) : Int) by omega]
    rw [WRuns_l0 hW s k (i + 1) _ _ (by omega) h3 (by simp at hk; omega) (by omega) hl2, runsW, Nat.add_assoc]
theorem WRuns_eq {W : List Nat} {k : Nat} (hW : wfW W) (hk : 1030 ≤ k) : words_Runs k (up W) = some ((runsW 0 W : Nat) : Int) := by
  unfold words_Runs
  have e : ((up W).length : Int) = 1024 := by rw [up_len, hW.1]; rfl
  rw [e, show words_Runs_l0 k 0 0 (up W) 1024 0 = words_Runs_l0 k ((0 : Nat) : Int) ((0 : Nat) : Int) (up W) 1024 ((0 : Nat) : Int) from rfl, WRuns_l0 hW W k 0 0 0 (by omega) rfl (by rw [hW.1]; omega) (by omega) (by omega)]
  simp
/-- A list of words, out of what each is. -/
theorem wfW_of {W : List Nat} (h : W.length = 1024) (hb : ∀ j, j < 1024 → W.getD j 0 < 18446744073709551616) : wfW W :=
  ⟨h, fun n hn => by
    obtain ⟨j, hj⟩ := List.getElem?_of_mem hn
    have hl := (List.getElem?_eq_some_iff.1 hj).1
    have := hb j (by omega)
    rw [List.getD_eq_getElem?_getD, hj] at this
    exact this⟩
theorem getD_set {W : List Nat} {i j n : Nat} (hi : i < W.length) : (W.set i n).getD j 0 = if j = i then n else W.getD j 0 := by
  rw [List.getD_eq_getElem?_getD, List.getElem?_set]
  by_cases h : i = j
  · subst h
    simp [hi]
  · have : ¬ j = i := fun q => h q.symm
    simp [h, this]
/-- What a range flipped does to the i-th word. -/
def mskW (lo hi : Int) (i : Nat) : Nat :=
  ((18446744073709551615 >>> (64 - (min hi (64 * (i : Int) + 64) - max lo (64 * (i : Int))).toNat)) <<< (max lo (64 * (i : Int)) - 64 * (i : Int)).toNat) % 18446744073709551616
theorem mskW_bit {lo hi : Int} {i t : Nat} (h0 : 0 ≤ lo) (h1 : hi ≤ 65536) (h : max lo (64 * (i : Int)) < min hi (64 * (i : Int) + 64)) (ht : t < 64) :
    (mskW lo hi i).testBit t = (decide (lo ≤ 64 * (i : Int) + (t : Int)) && decide (64 * (i : Int) + (t : Int) < hi)) := by
  unfold mskW
  rw [show (18446744073709551616 : Nat) = 2 ^ 64 from rfl, Nat.testBit_mod_two_pow, Nat.testBit_shiftLeft, Nat.testBit_shiftRight, show (18446744073709551615 : Nat) = 2 ^ 64 - 1 from rfl, Nat.testBit_two_pow_sub_one]
  rw [Bool.eq_iff_iff]
  simp
  omega
def flipN (lo hi : Int) (i v : Nat) : Nat := if max lo (64 * (i : Int)) < min hi (64 * (i : Int) + 64) then v ^^^ mskW lo hi i else v
theorem flipN_bit {lo hi : Int} {i t v : Nat} (h0 : 0 ≤ lo) (h1 : hi ≤ 65536) (ht : t < 64) : (flipN lo hi i v).testBit t = (v.testBit t != (decide (lo ≤ 64 * (i : Int) + (t : Int)) && decide (64 * (i : Int) + (t : Int) < hi))) := by
  unfold flipN
  split
  · rename_i h
    rw [Nat.testBit_xor, mskW_bit h0 h1 h ht]
  · rename_i h
    have : (decide (lo ≤ 64 * (i : Int) + (t : Int)) && decide (64 * (i : Int) + (t : Int) < hi)) = false := by
      simp
      omega
    rw [this]
    simp
theorem mskW_lt (lo hi : Int) (i : Nat) : mskW lo hi i < 18446744073709551616 := Nat.mod_lt _ (by decide)
theorem WFlip_l0 {lo hi : Int} (h0 : 0 ≤ lo) (h1 : hi ≤ 65536) : ∀ (d k i : Nat) (W : List Nat), 1024 - i ≤ d → d + 1 ≤ k → i ≤ 1024 → wfW W →
    ∃ W', words_Flip_l0 k (up W) lo hi (i : Int) = some (up W') ∧ wfW W' ∧ (∀ j, j < i → W'.getD j 0 = W.getD j 0) ∧ ∀ j, i ≤ j → j < 1024 → W'.getD j 0 = flipN lo hi j (W.getD j 0)
  | d, 0, i, W, _, hk, _, _ => by omega
  | d, k + 1, i, W, hd, hk, hi9, hW => by
    rw [words_Flip_l0]
    by_cases c : (i : Int) < 1024
    · have c0 : (0 : Int) ≤ (i : Int) := by omega
      have c1 : (i : Int) < ((up W).length : Int) := by rw [up_len, hW.1]; omega
      have e1 : IntKind.wrap .i64 (64 * (i : Int)) = 64 * (i : Int) := i64_in _ ⟨by omega, by omega⟩
      have e2 : IntKind.wrap .i64 (64 * (i : Int) + 64) = 64 * (i : Int) + 64 := i64_in _ ⟨by omega, by omega⟩
      have e3 : IntKind.wrap .i64 ((i : Int) + 1) = ((i + 1 : Nat) : Int) := by rw [i64_in _ ⟨by omega, by omega⟩]; omega
      simp only [c, decide_true, cond_true, e1, e2, e3]
      have hv := wfW_get hW.2 i
      by_cases q : max lo (64 * (i : Int)) < min hi (64 * (i : Int) + 64)
      · have e4 : IntKind.wrap .i64 (64 - IntKind.wrap .i64 (min hi (64 * (i : Int) + 64) - max lo (64 * (i : Int)))) = ((64 - (min hi (64 * (i : Int) + 64) - max lo (64 * (i : Int))).toNat : Nat) : Int) := by
          rw [i64_in (min hi (64 * (i : Int) + 64) - max lo (64 * (i : Int))) ⟨by omega, by omega⟩, i64_in _ ⟨by omega, by omega⟩]
          omega
        have e5 : IntKind.wrap .i64 (max lo (64 * (i : Int)) - 64 * (i : Int)) = (((max lo (64 * (i : Int)) - 64 * (i : Int)).toNat : Nat) : Int) := by
          rw [i64_in _ ⟨by omega, by omega⟩]
          omega
        have n4 : ¬ (((64 - (min hi (64 * (i : Int) + 64) - max lo (64 * (i : Int))).toNat : Nat) : Int) < 0) := by omega
        have n5 : ¬ ((((max lo (64 * (i : Int)) - 64 * (i : Int)).toNat : Nat) : Int) < 0) := by omega
        have e6 : bitsI .xor .u64 ((W.getD i 0 : Nat) : Int) (shlI .u64 (shrI .u64 18446744073709551615 ((64 - (min hi (64 * (i : Int) + 64) - max lo (64 * (i : Int))).toNat : Nat) : Int)) (((max lo (64 * (i : Int)) - 64 * (i : Int)).toNat : Nat) : Int)) = ((flipN lo hi i (W.getD i 0) : Nat) : Int) := by
          have s1 : shrI .u64 18446744073709551615 ((64 - (min hi (64 * (i : Int) + 64) - max lo (64 * (i : Int))).toNat : Nat) : Int) = ((18446744073709551615 >>> (64 - (min hi (64 * (i : Int) + 64) - max lo (64 * (i : Int))).toNat) : Nat) : Int) := shr64 (a := 18446744073709551615) (by omega)
          rw [s1, shl64 (by omega)]
          have hm := mskW_lt lo hi i
          unfold mskW at hm
          rw [xor64 hv hm]
          unfold flipN mskW
          rw [if_pos q]
        simp only [q, c0, c1, n4, n5, decide_true, decide_false, cond_true, Bool.not_false, e4, e5, Int.toNat_natCast, up_get, e6, up_set]
        have hf : flipN lo hi i (W.getD i 0) < 18446744073709551616 := by
          unfold flipN
          rw [if_pos q]
          exact xor_lt64 hv (mskW_lt _ _ _)
        have hW2 : wfW (W.set i (flipN lo hi i (W.getD i 0))) := wfW_of (by rw [List.length_set]; exact hW.1) fun j hj => by
          rw [getD_set (by rw [hW.1]; omega)]
          split
          · exact hf
          · exact wfW_get hW.2 j
        obtain ⟨W', r1, r2, r3, r4⟩ := WFlip_l0 h0 h1 (d - 1) k (i + 1) _ (by omega) (by omega) (by omega) hW2
        refine ⟨W', r1, r2, fun j hj => ?_, fun j hj hj2 => ?_⟩
        · rw [r3 j (by omega), getD_set (by rw [hW.1]; omega), if_neg (by omega)]
        · by_cases hji : j = i
          · subst hji
            rw [r3 j (by omega), getD_set (by rw [hW.1]; omega), if_pos rfl]
          · rw [r4 j (by omega) hj2, getD_set (by rw [hW.1]; omega), if_neg hji]
      · simp only [q, decide_false, cond_false]
        obtain ⟨W', r1, r2, r3, r4⟩ := WFlip_l0 h0 h1 (d - 1) k (i + 1) W (by omega) (by omega) (by omega) hW
        refine ⟨W', r1, r2, fun j hj => r3 j (by omega), fun j hj hj2 => ?_⟩
        by_cases hji : j = i
        · subst hji
          rw [r3 j (by omega)]
          unfold flipN
          rw [if_neg q]
        · exact r4 j (by omega) hj2
    · refine ⟨W, by simp only [c, decide_false, cond_false], hW, fun j _ => rfl, fun j hj hj2 => by omega⟩
theorem WFlip_eq {W : List Nat} {lo hi : Int} {k : Nat} (hW : wfW W) (hk : 1030 ≤ k) :
    ∃ W', words_Flip k (up W) lo hi = some (up W') ∧ wfW W' ∧ ∀ x, x < 65536 → hasW W' x = (hasW W x != (decide (max lo 0 ≤ (x : Int)) && decide ((x : Int) < min hi 65536))) := by
  obtain ⟨W', r1, r2, _, r4⟩ := WFlip_l0 (lo := max lo 0) (hi := min hi 65536) (by omega) (by omega) 1024 k 0 W (by omega) (by omega) (by omega) hW
  refine ⟨W', ?_, r2, fun x hx => ?_⟩
  · unfold words_Flip
    have hlen : (List.replicate (Int.toNat 1024) (0 : Int)).length = 1024 := by rw [List.length_replicate]; rfl
    have e1 : List.take 1024 (up W) ++ List.drop (up W).length (List.replicate (Int.toNat 1024) (0 : Int)) = up W := by
      rw [up_len, hW.1, List.take_of_length_le (by rw [up_len, hW.1]; omega), List.drop_eq_nil_of_le (by rw [hlen]; omega), List.append_nil]
    rw [hlen, e1]
    have r1' : words_Flip_l0 k (up W) (max lo 0) (min hi 65536) 0 = some (up W') := r1
    rw [r1']
    rfl
  · unfold hasW
    rw [r4 (x / 64) (by omega) (by omega), flipN_bit (by omega) (by omega) (Nat.mod_lt _ (by omega))]
    have : 64 * ((x / 64 : Nat) : Int) + ((x % 64 : Nat) : Int) = (x : Int) := by omega
    rw [this]
theorem replicate_up : List.replicate (Int.toNat 1024) (0 : Int) = up (List.replicate 1024 0) := by
  unfold up
  rw [List.map_replicate]
  rfl
theorem zero_wf : wfW (List.replicate 1024 0) := ⟨List.length_replicate, fun n hn => by rw [(List.mem_replicate.1 hn).2]; decide⟩
theorem zero_has (x : Nat) : hasW (List.replicate 1024 0) x = false := by
  unfold hasW
  have : (List.replicate 1024 0).getD (x / 64) 0 = 0 := by
    rw [List.getD_eq_getElem?_getD, List.getElem?_replicate]
    split <;> rfl
  rw [this]
  simp
end Go.Rx.Tryz
/-! Printed by wordsops.py: both, either, the rest, just one of two sets, as words. -/
namespace Go.Rx.Tryz
open Go.Rx.Plain Go.IntWalk
set_option linter.unusedVariables false
set_option linter.unusedSimpArgs false

theorem Or_l0_eq {A B : List Nat} (hA : wfW A) (hB : wfW B) : ∀ (d k i : Nat) (W : List Nat), 1024 - i ≤ d → d + 1 ≤ k → i ≤ 1024 → wfW W →
    ∃ W', words_each_Or_1_l0 k (up W) (up A) (up B) 1024 (i : Int) = some (up W') ∧ wfW W' ∧ (∀ j, j < i → W'.getD j 0 = W.getD j 0) ∧ ∀ j, i ≤ j → j < 1024 → W'.getD j 0 = (fun a b => a ||| b) (A.getD j 0) (B.getD j 0)
  | d, 0, i, W, _, hk, _, _ => by omega
  | d, k + 1, i, W, hd, hk, hi, hW => by
    rw [words_each_Or_1_l0]
    by_cases c : (i : Int) < 1024
    · have c0 : (0 : Int) ≤ (i : Int) := by omega
      have c1 : (i : Int) < ((up W).length : Int) := by rw [up_len, hW.1]; omega
      have c2 : (i : Int) < ((up A).length : Int) := by rw [up_len, hA.1]; omega
      have c3 : (i : Int) < ((up B).length : Int) := by rw [up_len, hB.1]; omega
      have e3 : IntKind.wrap .i64 ((i : Int) + 1) = ((i + 1 : Nat) : Int) := by rw [i64_in _ ⟨by omega, by omega⟩]; omega
      have ha := wfW_get hA.2 i
      have hb := wfW_get hB.2 i
      have e6 : words_Or_1 k ((A.getD i 0 : Nat) : Int) ((B.getD i 0 : Nat) : Int) = some (((fun a b => a ||| b) (A.getD i 0) (B.getD i 0) : Nat) : Int) := by
        unfold words_Or_1
        rw [or64 ha hb]
      simp only [c, c0, c1, c2, c3, decide_true, cond_true, Int.toNat_natCast, up_get, e6, Option.bind_some, up_set, e3]
      have hf : (fun a b => a ||| b) (A.getD i 0) (B.getD i 0) < 18446744073709551616 := or_lt64 ha hb
      have hW2 : wfW (W.set i ((fun a b => a ||| b) (A.getD i 0) (B.getD i 0))) := wfW_of (by rw [List.length_set]; exact hW.1) fun j hj => by
        rw [getD_set (by rw [hW.1]; omega)]
        split
        · exact hf
        · exact wfW_get hW.2 j
      obtain ⟨W', r1, r2, r3, r4⟩ := Or_l0_eq hA hB (d - 1) k (i + 1) _ (by omega) (by omega) (by omega) hW2
      refine ⟨W', r1, r2, fun j hj => ?_, fun j hj hj2 => ?_⟩
      · rw [r3 j (by omega), getD_set (by rw [hW.1]; omega), if_neg (by omega)]
      · by_cases hji : j = i
        · subst hji
          rw [r3 j (by omega), getD_set (by rw [hW.1]; omega), if_pos rfl]
        · exact r4 j (by omega) hj2
    · refine ⟨W, by simp only [c, decide_false, cond_false], hW, fun j _ => rfl, fun j hj hj2 => by omega⟩
theorem WOr_eq {A B : List Nat} {k : Nat} (hA : wfW A) (hB : wfW B) (hk : 1030 ≤ k) : ∃ W, words_Or k (up A) (up B) = some (up W) ∧ wfW W ∧ ∀ x, x < 65536 → hasW W x = ((fun x y => x || y) (hasW A x) (hasW B x)) := by
  obtain ⟨W', r1, r2, _, r4⟩ := Or_l0_eq hA hB 1024 k 0 _ (by omega) (by omega) (by omega) zero_wf
  refine ⟨W', ?_, r2, fun x hx => ?_⟩
  · unfold words_Or words_each_Or_1
    have e1 : min (min ((up A).length : Int) ((up B).length : Int)) 1024 = 1024 := by rw [up_len, up_len, hA.1, hB.1]; rfl
    rw [e1, replicate_up]
    have r1' : words_each_Or_1_l0 k (up (List.replicate 1024 0)) (up A) (up B) 1024 0 = some (up W') := r1
    rw [r1']
    rfl
  · unfold hasW
    rw [r4 (x / 64) (by omega) (by omega), Nat.testBit_or]


theorem AndNot_l0_eq {A B : List Nat} (hA : wfW A) (hB : wfW B) : ∀ (d k i : Nat) (W : List Nat), 1024 - i ≤ d → d + 1 ≤ k → i ≤ 1024 → wfW W →
    ∃ W', words_each_AndNot_1_l0 k (up W) (up A) (up B) 1024 (i : Int) = some (up W') ∧ wfW W' ∧ (∀ j, j < i → W'.getD j 0 = W.getD j 0) ∧ ∀ j, i ≤ j → j < 1024 → W'.getD j 0 = notAnd (A.getD j 0) (B.getD j 0)
  | d, 0, i, W, _, hk, _, _ => by omega
  | d, k + 1, i, W, hd, hk, hi, hW => by
    rw [words_each_AndNot_1_l0]
    by_cases c : (i : Int) < 1024
    · have c0 : (0 : Int) ≤ (i : Int) := by omega
      have c1 : (i : Int) < ((up W).length : Int) := by rw [up_len, hW.1]; omega
      have c2 : (i : Int) < ((up A).length : Int) := by rw [up_len, hA.1]; omega
      have c3 : (i : Int) < ((up B).length : Int) := by rw [up_len, hB.1]; omega
      have e3 : IntKind.wrap .i64 ((i : Int) + 1) = ((i + 1 : Nat) : Int) := by rw [i64_in _ ⟨by omega, by omega⟩]; omega
      have ha := wfW_get hA.2 i
      have hb := wfW_get hB.2 i
      have e6 : words_AndNot_1 k ((A.getD i 0 : Nat) : Int) ((B.getD i 0 : Nat) : Int) = some ((notAnd (A.getD i 0) (B.getD i 0) : Nat) : Int) := by
        unfold words_AndNot_1
        rw [andNot64 ha hb]
      simp only [c, c0, c1, c2, c3, decide_true, cond_true, Int.toNat_natCast, up_get, e6, Option.bind_some, up_set, e3]
      have hf : notAnd (A.getD i 0) (B.getD i 0) < 18446744073709551616 := Nat.lt_of_le_of_lt Nat.and_le_left ha
      have hW2 : wfW (W.set i (notAnd (A.getD i 0) (B.getD i 0))) := wfW_of (by rw [List.length_set]; exact hW.1) fun j hj => by
        rw [getD_set (by rw [hW.1]; omega)]
        split
        · exact hf
        · exact wfW_get hW.2 j
      obtain ⟨W', r1, r2, r3, r4⟩ := AndNot_l0_eq hA hB (d - 1) k (i + 1) _ (by omega) (by omega) (by omega) hW2
      refine ⟨W', r1, r2, fun j hj => ?_, fun j hj hj2 => ?_⟩
      · rw [r3 j (by omega), getD_set (by rw [hW.1]; omega), if_neg (by omega)]
      · by_cases hji : j = i
        · subst hji
          rw [r3 j (by omega), getD_set (by rw [hW.1]; omega), if_pos rfl]
        · exact r4 j (by omega) hj2
    · refine ⟨W, by simp only [c, decide_false, cond_false], hW, fun j _ => rfl, fun j hj hj2 => by omega⟩
theorem WAndNot_eq {A B : List Nat} {k : Nat} (hA : wfW A) (hB : wfW B) (hk : 1030 ≤ k) : ∃ W, words_AndNot k (up A) (up B) = some (up W) ∧ wfW W ∧ ∀ x, x < 65536 → hasW W x = ((fun x y => x && !y) (hasW A x) (hasW B x)) := by
  obtain ⟨W', r1, r2, _, r4⟩ := AndNot_l0_eq hA hB 1024 k 0 _ (by omega) (by omega) (by omega) zero_wf
  refine ⟨W', ?_, r2, fun x hx => ?_⟩
  · unfold words_AndNot words_each_AndNot_1
    have e1 : min (min ((up A).length : Int) ((up B).length : Int)) 1024 = 1024 := by rw [up_len, up_len, hA.1, hB.1]; rfl
    rw [e1, replicate_up]
    have r1' : words_each_AndNot_1_l0 k (up (List.replicate 1024 0)) (up A) (up B) 1024 0 = some (up W') := r1
    rw [r1']
    rfl
  · unfold hasW
    rw [r4 (x / 64) (by omega) (by omega), testBit_notAnd (wfW_get hB.2 _) (Nat.mod_lt _ (by omega))]


end Go.Rx.Tryz
/-! Printed by edges.py: each copy of the walk over edges. -/
namespace Go.Rx.Tryz
open Go.Rx.Plain Go.IntWalk
set_option linter.unusedVariables false
set_option linter.unusedSimpArgs false

theorem runs_edges_Flip_1_l1_eq {k : Nat} {r : List Run} {a b : List Int} {on : Bool} {fr : Int} {i j : Nat} {t m : Int} (hi : i ≤ a.length) (hs : srt m (a.drop i)) (ht : ∀ x s, a.drop i = x :: s → t ≤ x) (hb : a.length < 1000000000) :
    runs_edges_Flip_1_l1 (k + 2) r a b on fr i j t = some (r, a, b, on, fr, ((i + adv (a.drop i) t : Nat) : Int), (j : Int), t) := by
  cases h : a.drop i with
  | nil =>
    have := drop_nil h hi
    have c : ¬ ((i : Int) < (a.length : Int)) := by omega
    simp only [runs_edges_Flip_1_l1, adv, c, decide_false, cond_false, Nat.add_zero]
  | cons x s =>
    obtain ⟨h1, h2, h3⟩ := drop_cons h (0 : Int)
    rw [h] at hs
    have c : ((i : Int) < (a.length : Int)) := by omega
    have c0 : (0 : Int) ≤ (i : Int) := by omega
    rw [runs_edges_Flip_1_l1]
    simp only [c, c0, decide_true, cond_true, Int.toNat_natCast, h2, adv]
    by_cases q : x ≤ t
    · rw [i64_in _ ⟨by omega, by omega⟩, show ((i : Int) + 1) = ((i + 1 : Nat) : Int) by omega]
      simp only [q, decide_true, cond_true, if_true]
      cases h' : s with
      | nil =>
        rw [h'] at h3
        have := drop_nil h3 (by omega)
        have c : ¬ (((i + 1 : Nat) : Int) < (a.length : Int)) := by omega
        simp only [runs_edges_Flip_1_l1, c, decide_false, cond_false]
      | cons y u =>
        rw [h'] at h3
        obtain ⟨g1, g2, g3⟩ := drop_cons h3 (0 : Int)
        have c : (((i + 1 : Nat) : Int) < (a.length : Int)) := by omega
        have c0 : (0 : Int) ≤ ((i + 1 : Nat) : Int) := by omega
        rw [h'] at hs
        have := ht x s h
        have := hs.2.2.1
        have q2 : ¬ y ≤ t := by omega
        simp only [runs_edges_Flip_1_l1, c, c0, decide_true, cond_true, Int.toNat_natCast, g2, q2, decide_false, cond_false]
    · simp only [q, decide_false, cond_false, if_false, Nat.add_zero]
theorem runs_edges_Flip_1_l2_eq {k : Nat} {r : List Run} {a b : List Int} {on : Bool} {fr : Int} {i : Int} {j : Nat} {t m : Int} (hi : j ≤ b.length) (hs : srt m (b.drop j)) (ht : ∀ x s, b.drop j = x :: s → t ≤ x) (hb : b.length < 1000000000) :
    runs_edges_Flip_1_l2 (k + 2) r a b on fr i j t = some (r, a, b, on, fr, i, ((j + adv (b.drop j) t : Nat) : Int), t) := by
  cases h : b.drop j with
  | nil =>
    have := drop_nil h hi
    have c : ¬ ((j : Int) < (b.length : Int)) := by omega
    simp only [runs_edges_Flip_1_l2, adv, c, decide_false, cond_false, Nat.add_zero]
  | cons x s =>
    obtain ⟨h1, h2, h3⟩ := drop_cons h (0 : Int)
    rw [h] at hs
    have c : ((j : Int) < (b.length : Int)) := by omega
    have c0 : (0 : Int) ≤ (j : Int) := by omega
    rw [runs_edges_Flip_1_l2]
    simp only [c, c0, decide_true, cond_true, Int.toNat_natCast, h2, adv]
    by_cases q : x ≤ t
    · rw [i64_in _ ⟨by omega, by omega⟩, show ((j : Int) + 1) = ((j + 1 : Nat) : Int) by omega]
      simp only [q, decide_true, cond_true, if_true]
      cases h' : s with
      | nil =>
        rw [h'] at h3
        have := drop_nil h3 (by omega)
        have c : ¬ (((j + 1 : Nat) : Int) < (b.length : Int)) := by omega
        simp only [runs_edges_Flip_1_l2, c, decide_false, cond_false]
      | cons y u =>
        rw [h'] at h3
        obtain ⟨g1, g2, g3⟩ := drop_cons h3 (0 : Int)
        have c : (((j + 1 : Nat) : Int) < (b.length : Int)) := by omega
        have c0 : (0 : Int) ≤ ((j + 1 : Nat) : Int) := by omega
        rw [h'] at hs
        have := ht x s h
        have := hs.2.2.1
        have q2 : ¬ y ≤ t := by omega
        simp only [runs_edges_Flip_1_l2, c, c0, decide_true, cond_true, Int.toNat_natCast, g2, q2, decide_false, cond_false]
    · simp only [q, decide_false, cond_false, if_false, Nat.add_zero]
theorem runs_edges_Flip_1_turn {a b : List Int} (ha : a.length < 1000000) (hb : b.length < 1000000) {k : Nat} {m : Int} {r : List Run} {on : Bool} {fr : Int} {i j : Nat} (hk : 2 ≤ k) (h : EInv (fun x y => x != y) a b m r on fr i j) :
    runs_edges_Flip_1_l0 (k + 1) r a b on fr i j = Turn (fun x y => x != y) a b (fun k r on fr i j => runs_edges_Flip_1_l0 k r a b on fr i j) k r on fr i j := by
  obtain ⟨k, rfl⟩ : ∃ k', k = k' + 2 := ⟨k - 2, by omega⟩
  have hC : ∀ x y, runs_Flip_1 (k + 2) x y = some ((fun x y => x != y) x y) := by intro x y; cases x <;> cases y <;> rfl
  have lr := h.len
  have ia := h.ia
  have jb := h.jb
  have m0 := h.m0
  have fin : ∀ (t : Int), m ≤ t → t ≤ 65536 → (∀ x s, a.drop i = x :: s → t ≤ x) → (∀ x s, b.drop j = x :: s → t ≤ x) →
      ((runs_edges_Flip_1_l1 (k + 2) r a b on fr i j t).bind fun y160 =>
                  (runs_edges_Flip_1_l2 (k + 2) y160.1 y160.2.1 y160.2.2.1 y160.2.2.2.1 y160.2.2.2.2.1 y160.2.2.2.2.2.1 y160.2.2.2.2.2.2.1 y160.2.2.2.2.2.2.2).bind fun y161 =>
                  (runs_Flip_1 (k + 2) (decide ((y161.2.2.2.2.2.1.tmod 2) = 1)) (decide ((y161.2.2.2.2.2.2.1.tmod 2) = 1))).bind fun y166 =>
                  bif (y166 == y161.2.2.2.1) then
                    runs_edges_Flip_1_l0 (k + 2) y161.1 y161.2.1 y161.2.2.1 y161.2.2.2.1 y161.2.2.2.2.1 y161.2.2.2.2.2.1 y161.2.2.2.2.2.2.1
                  else
                    bif y161.2.2.2.1 then
                      let v168 := IntKind.wrap .u16 y161.2.2.2.2.1
                      let v170 := IntKind.wrap .i64 ((IntKind.wrap .i64 (y161.2.2.2.2.2.2.2 - y161.2.2.2.2.1)) - 1)
                      bif decide ((List.length y161.1 + List.length [(v168, (IntKind.wrap .u16 v170))]) * 4 ≤ 140737488355328) then
                        bif decide (List.length y161.1 + List.length [(v168, (IntKind.wrap .u16 v170))] ≤ 140737488355328) then
                          runs_edges_Flip_1_l0 (k + 2) (y161.1 ++ [(v168, (IntKind.wrap .u16 v170))]) y161.2.1 y161.2.2.1 y166 y161.2.2.2.2.2.2.2 y161.2.2.2.2.2.1 y161.2.2.2.2.2.2.1
                        else none
                      else none
                    else
                      runs_edges_Flip_1_l0 (k + 2) y161.1 y161.2.1 y161.2.2.1 y166 y161.2.2.2.2.2.2.2 y161.2.2.2.2.2.1 y161.2.2.2.2.2.2.1) =
      (bif ((fun x y => x != y) (od (i + adv (a.drop i) t)) (od (j + adv (b.drop j) t)) == on) then runs_edges_Flip_1_l0 (k + 2) r a b on fr ((i + adv (a.drop i) t : Nat) : Int) ((j + adv (b.drop j) t : Nat) : Int)
       else bif on then runs_edges_Flip_1_l0 (k + 2) (r ++ [(fr, t - fr - 1)]) a b ((fun x y => x != y) (od (i + adv (a.drop i) t)) (od (j + adv (b.drop j) t))) t ((i + adv (a.drop i) t : Nat) : Int) ((j + adv (b.drop j) t : Nat) : Int)
       else runs_edges_Flip_1_l0 (k + 2) r a b ((fun x y => x != y) (od (i + adv (a.drop i) t)) (od (j + adv (b.drop j) t))) t ((i + adv (a.drop i) t : Nat) : Int) ((j + adv (b.drop j) t : Nat) : Int)) := by
    intro t ht0 ht1 hta htb
    rw [runs_edges_Flip_1_l1_eq ia h.sa hta (by omega)]
    simp only [Option.bind_some]
    rw [runs_edges_Flip_1_l2_eq jb h.sb htb (by omega)]
    simp only [Option.bind_some, od_tmod, hC]
    have g1 : decide ((r.length + 1) * 4 ≤ 140737488355328) = true := by simp; omega
    have g2 : decide (r.length + 1 ≤ 140737488355328) = true := by simp; omega
    simp only [List.length_cons, List.length_nil, Nat.zero_add, g1, g2, cond_true]
    cases on with
    | false => simp only [cond_false]
    | true =>
      obtain ⟨f1, f2, f3⟩ := h.fr' rfl
      simp only [cond_true]
      rw [i64_in (t - fr) ⟨by omega, by omega⟩, i64_in (t - fr - 1) ⟨by omega, by omega⟩, u16_in fr ⟨by omega, by omega⟩, u16_in (t - fr - 1) ⟨by omega, by omega⟩]
  unfold Turn
  rw [runs_edges_Flip_1_l0]
  have sa := h.sa
  have sb := h.sb
  cases e1 : a.drop i with
  | nil =>
    have i1 := drop_nil e1 ia
    have c1 : ¬ ((i : Int) < (a.length : Int)) := by omega
    cases e2 : b.drop j with
    | nil =>
      have j1 := drop_nil e2 jb
      have c2 : ¬ ((j : Int) < (b.length : Int)) := by omega
      simp only [c1, c2, decide_false, cond_false]
    | cons y u =>
      obtain ⟨g1, g2, g3⟩ := drop_cons e2 (0 : Int)
      have c2 : ((j : Int) < (b.length : Int)) := by omega
      have c3 : (0 : Int) ≤ (j : Int) := by omega
      rw [e2] at sb
      have ly := srt_low sb
      have hm : min 65537 y = y := by omega
      simp only [c1, c2, c3, decide_false, cond_false, decide_true, cond_true, Int.toNat_natCast, g2, hm, edgeAt]
      rw [fin y ly.1 ly.2 (fun x s e => by rw [e1] at e; cases e) (fun x s e => by rw [e2] at e; cases e; exact Int.le_refl _), e1, e2]
  | cons x s =>
    obtain ⟨p1, p2, p3⟩ := drop_cons e1 (0 : Int)
    have c1 : ((i : Int) < (a.length : Int)) := by omega
    have c0 : (0 : Int) ≤ (i : Int) := by omega
    rw [e1] at sa
    have lx := srt_low sa
    cases e2 : b.drop j with
    | nil =>
      have j1 := drop_nil e2 jb
      have c2 : ¬ ((j : Int) < (b.length : Int)) := by omega
      simp only [c1, c2, c0, decide_false, cond_false, decide_true, cond_true, Int.toNat_natCast, p2, edgeAt]
      rw [fin x lx.1 lx.2 (fun x s e => by rw [e1] at e; cases e; exact Int.le_refl _) (fun x s e => by rw [e2] at e; cases e), e1, e2]
    | cons y u =>
      obtain ⟨g1, g2, g3⟩ := drop_cons e2 (0 : Int)
      have c2 : ((j : Int) < (b.length : Int)) := by omega
      have c3 : (0 : Int) ≤ (j : Int) := by omega
      rw [e2] at sb
      have ly := srt_low sb
      simp only [c1, c2, c0, c3, decide_true, cond_true, Int.toNat_natCast, p2, g2, edgeAt]
      rw [fin (min x y) (by omega) (by omega) (fun x s e => by rw [e1] at e; cases e; omega) (fun x s e => by rw [e2] at e; cases e; omega), e1, e2]
theorem runs_edges_Flip_1_good {k : Nat} {a b : List Int} (za : srt 0 a) (zb : srt 0 b) (ea : od a.length = false) (eb : od b.length = false) (ha : a.length < 1000000) (hb : b.length < 1000000) (hk : a.length + b.length + 3 ≤ k) :
    ∃ r, runs_edges_Flip_1 k a b = some r ∧ Good (fun x y => x != y) a b r := by
  obtain ⟨r, h1, h2⟩ := walk_all (op := (fun x y => x != y)) (L := fun k r on fr i j => runs_edges_Flip_1_l0 k r a b on fr i j) (K := 2) rfl za zb ea eb (fun k m r on fr i j hk h => runs_edges_Flip_1_turn ha hb hk h) k (by omega)
  refine ⟨r, ?_, h2⟩
  have h1 : runs_edges_Flip_1_l0 k [] a b false 0 0 0 = some r := h1
  unfold runs_edges_Flip_1
  rw [h1]
  rfl


theorem runs_edges_Or_1_l1_eq {k : Nat} {r : List Run} {a b : List Int} {on : Bool} {fr : Int} {i j : Nat} {t m : Int} (hi : i ≤ a.length) (hs : srt m (a.drop i)) (ht : ∀ x s, a.drop i = x :: s → t ≤ x) (hb : a.length < 1000000000) :
    runs_edges_Or_1_l1 (k + 2) r a b on fr i j t = some (r, a, b, on, fr, ((i + adv (a.drop i) t : Nat) : Int), (j : Int), t) := by
  cases h : a.drop i with
  | nil =>
    have := drop_nil h hi
    have c : ¬ ((i : Int) < (a.length : Int)) := by omega
    simp only [runs_edges_Or_1_l1, adv, c, decide_false, cond_false, Nat.add_zero]
  | cons x s =>
    obtain ⟨h1, h2, h3⟩ := drop_cons h (0 : Int)
    rw [h] at hs
    have c : ((i : Int) < (a.length : Int)) := by omega
    have c0 : (0 : Int) ≤ (i : Int) := by omega
    rw [runs_edges_Or_1_l1]
    simp only [c, c0, decide_true, cond_true, Int.toNat_natCast, h2, adv]
    by_cases q : x ≤ t
    · rw [i64_in _ ⟨by omega, by omega⟩, show ((i : Int) + 1) = ((i + 1 : Nat) : Int) by omega]
      simp only [q, decide_true, cond_true, if_true]
      cases h' : s with
      | nil =>
        rw [h'] at h3
        have := drop_nil h3 (by omega)
        have c : ¬ (((i + 1 : Nat) : Int) < (a.length : Int)) := by omega
        simp only [runs_edges_Or_1_l1, c, decide_false, cond_false]
      | cons y u =>
        rw [h'] at h3
        obtain ⟨g1, g2, g3⟩ := drop_cons h3 (0 : Int)
        have c : (((i + 1 : Nat) : Int) < (a.length : Int)) := by omega
        have c0 : (0 : Int) ≤ ((i + 1 : Nat) : Int) := by omega
        rw [h'] at hs
        have := ht x s h
        have := hs.2.2.1
        have q2 : ¬ y ≤ t := by omega
        simp only [runs_edges_Or_1_l1, c, c0, decide_true, cond_true, Int.toNat_natCast, g2, q2, decide_false, cond_false]
    · simp only [q, decide_false, cond_false, if_false, Nat.add_zero]
theorem runs_edges_Or_1_l2_eq {k : Nat} {r : List Run} {a b : List Int} {on : Bool} {fr : Int} {i : Int} {j : Nat} {t m : Int} (hi : j ≤ b.length) (hs : srt m (b.drop j)) (ht : ∀ x s, b.drop j = x :: s → t ≤ x) (hb : b.length < 1000000000) :
    runs_edges_Or_1_l2 (k + 2) r a b on fr i j t = some (r, a, b, on, fr, i, ((j + adv (b.drop j) t : Nat) : Int), t) := by
  cases h : b.drop j with
  | nil =>
    have := drop_nil h hi
    have c : ¬ ((j : Int) < (b.length : Int)) := by omega
    simp only [runs_edges_Or_1_l2, adv, c, decide_false, cond_false, Nat.add_zero]
  | cons x s =>
    obtain ⟨h1, h2, h3⟩ := drop_cons h (0 : Int)
    rw [h] at hs
    have c : ((j : Int) < (b.length : Int)) := by omega
    have c0 : (0 : Int) ≤ (j : Int) := by omega
    rw [runs_edges_Or_1_l2]
    simp only [c, c0, decide_true, cond_true, Int.toNat_natCast, h2, adv]
    by_cases q : x ≤ t
    · rw [i64_in _ ⟨by omega, by omega⟩, show ((j : Int) + 1) = ((j + 1 : Nat) : Int) by omega]
      simp only [q, decide_true, cond_true, if_true]
      cases h' : s with
      | nil =>
        rw [h'] at h3
        have := drop_nil h3 (by omega)
        have c : ¬ (((j + 1 : Nat) : Int) < (b.length : Int)) := by omega
        simp only [runs_edges_Or_1_l2, c, decide_false, cond_false]
      | cons y u =>
        rw [h'] at h3
        obtain ⟨g1, g2, g3⟩ := drop_cons h3 (0 : Int)
        have c : (((j + 1 : Nat) : Int) < (b.length : Int)) := by omega
        have c0 : (0 : Int) ≤ ((j + 1 : Nat) : Int) := by omega
        rw [h'] at hs
        have := ht x s h
        have := hs.2.2.1
        have q2 : ¬ y ≤ t := by omega
        simp only [runs_edges_Or_1_l2, c, c0, decide_true, cond_true, Int.toNat_natCast, g2, q2, decide_false, cond_false]
    · simp only [q, decide_false, cond_false, if_false, Nat.add_zero]
theorem runs_edges_Or_1_turn {a b : List Int} (ha : a.length < 1000000) (hb : b.length < 1000000) {k : Nat} {m : Int} {r : List Run} {on : Bool} {fr : Int} {i j : Nat} (hk : 2 ≤ k) (h : EInv (fun x y => x || y) a b m r on fr i j) :
    runs_edges_Or_1_l0 (k + 1) r a b on fr i j = Turn (fun x y => x || y) a b (fun k r on fr i j => runs_edges_Or_1_l0 k r a b on fr i j) k r on fr i j := by
  obtain ⟨k, rfl⟩ : ∃ k', k = k' + 2 := ⟨k - 2, by omega⟩
  have hC : ∀ x y, runs_Or_1 (k + 2) x y = some ((fun x y => x || y) x y) := by intro x y; cases x <;> cases y <;> rfl
  have lr := h.len
  have ia := h.ia
  have jb := h.jb
  have m0 := h.m0
  have fin : ∀ (t : Int), m ≤ t → t ≤ 65536 → (∀ x s, a.drop i = x :: s → t ≤ x) → (∀ x s, b.drop j = x :: s → t ≤ x) →
      ((runs_edges_Or_1_l1 (k + 2) r a b on fr i j t).bind fun y160 =>
                  (runs_edges_Or_1_l2 (k + 2) y160.1 y160.2.1 y160.2.2.1 y160.2.2.2.1 y160.2.2.2.2.1 y160.2.2.2.2.2.1 y160.2.2.2.2.2.2.1 y160.2.2.2.2.2.2.2).bind fun y161 =>
                  (runs_Or_1 (k + 2) (decide ((y161.2.2.2.2.2.1.tmod 2) = 1)) (decide ((y161.2.2.2.2.2.2.1.tmod 2) = 1))).bind fun y166 =>
                  bif (y166 == y161.2.2.2.1) then
                    runs_edges_Or_1_l0 (k + 2) y161.1 y161.2.1 y161.2.2.1 y161.2.2.2.1 y161.2.2.2.2.1 y161.2.2.2.2.2.1 y161.2.2.2.2.2.2.1
                  else
                    bif y161.2.2.2.1 then
                      let v168 := IntKind.wrap .u16 y161.2.2.2.2.1
                      let v170 := IntKind.wrap .i64 ((IntKind.wrap .i64 (y161.2.2.2.2.2.2.2 - y161.2.2.2.2.1)) - 1)
                      bif decide ((List.length y161.1 + List.length [(v168, (IntKind.wrap .u16 v170))]) * 4 ≤ 140737488355328) then
                        bif decide (List.length y161.1 + List.length [(v168, (IntKind.wrap .u16 v170))] ≤ 140737488355328) then
                          runs_edges_Or_1_l0 (k + 2) (y161.1 ++ [(v168, (IntKind.wrap .u16 v170))]) y161.2.1 y161.2.2.1 y166 y161.2.2.2.2.2.2.2 y161.2.2.2.2.2.1 y161.2.2.2.2.2.2.1
                        else none
                      else none
                    else
                      runs_edges_Or_1_l0 (k + 2) y161.1 y161.2.1 y161.2.2.1 y166 y161.2.2.2.2.2.2.2 y161.2.2.2.2.2.1 y161.2.2.2.2.2.2.1) =
      (bif ((fun x y => x || y) (od (i + adv (a.drop i) t)) (od (j + adv (b.drop j) t)) == on) then runs_edges_Or_1_l0 (k + 2) r a b on fr ((i + adv (a.drop i) t : Nat) : Int) ((j + adv (b.drop j) t : Nat) : Int)
       else bif on then runs_edges_Or_1_l0 (k + 2) (r ++ [(fr, t - fr - 1)]) a b ((fun x y => x || y) (od (i + adv (a.drop i) t)) (od (j + adv (b.drop j) t))) t ((i + adv (a.drop i) t : Nat) : Int) ((j + adv (b.drop j) t : Nat) : Int)
       else runs_edges_Or_1_l0 (k + 2) r a b ((fun x y => x || y) (od (i + adv (a.drop i) t)) (od (j + adv (b.drop j) t))) t ((i + adv (a.drop i) t : Nat) : Int) ((j + adv (b.drop j) t : Nat) : Int)) := by
    intro t ht0 ht1 hta htb
    rw [runs_edges_Or_1_l1_eq ia h.sa hta (by omega)]
    simp only [Option.bind_some]
    rw [runs_edges_Or_1_l2_eq jb h.sb htb (by omega)]
    simp only [Option.bind_some, od_tmod, hC]
    have g1 : decide ((r.length + 1) * 4 ≤ 140737488355328) = true := by simp; omega
    have g2 : decide (r.length + 1 ≤ 140737488355328) = true := by simp; omega
    simp only [List.length_cons, List.length_nil, Nat.zero_add, g1, g2, cond_true]
    cases on with
    | false => simp only [cond_false]
    | true =>
      obtain ⟨f1, f2, f3⟩ := h.fr' rfl
      simp only [cond_true]
      rw [i64_in (t - fr) ⟨by omega, by omega⟩, i64_in (t - fr - 1) ⟨by omega, by omega⟩, u16_in fr ⟨by omega, by omega⟩, u16_in (t - fr - 1) ⟨by omega, by omega⟩]
  unfold Turn
  rw [runs_edges_Or_1_l0]
  have sa := h.sa
  have sb := h.sb
  cases e1 : a.drop i with
  | nil =>
    have i1 := drop_nil e1 ia
    have c1 : ¬ ((i : Int) < (a.length : Int)) := by omega
    cases e2 : b.drop j with
    | nil =>
      have j1 := drop_nil e2 jb
      have c2 : ¬ ((j : Int) < (b.length : Int)) := by omega
      simp only [c1, c2, decide_false, cond_false]
    | cons y u =>
      obtain ⟨g1, g2, g3⟩ := drop_cons e2 (0 : Int)
      have c2 : ((j : Int) < (b.length : Int)) := by omega
      have c3 : (0 : Int) ≤ (j : Int) := by omega
      rw [e2] at sb
      have ly := srt_low sb
      have hm : min 65537 y = y := by omega
      simp only [c1, c2, c3, decide_false, cond_false, decide_true, cond_true, Int.toNat_natCast, g2, hm, edgeAt]
      rw [fin y ly.1 ly.2 (fun x s e => by rw [e1] at e; cases e) (fun x s e => by rw [e2] at e; cases e; exact Int.le_refl _), e1, e2]
  | cons x s =>
    obtain ⟨p1, p2, p3⟩ := drop_cons e1 (0 : Int)
    have c1 : ((i : Int) < (a.length : Int)) := by omega
    have c0 : (0 : Int) ≤ (i : Int) := by omega
    rw [e1] at sa
    have lx := srt_low sa
    cases e2 : b.drop j with
    | nil =>
      have j1 := drop_nil e2 jb
      have c2 : ¬ ((j : Int) < (b.length : Int)) := by omega
      simp only [c1, c2, c0, decide_false, cond_false, decide_true, cond_true, Int.toNat_natCast, p2, edgeAt]
      rw [fin x lx.1 lx.2 (fun x s e => by rw [e1] at e; cases e; exact Int.le_refl _) (fun x s e => by rw [e2] at e; cases e), e1, e2]
    | cons y u =>
      obtain ⟨g1, g2, g3⟩ := drop_cons e2 (0 : Int)
      have c2 : ((j : Int) < (b.length : Int)) := by omega
      have c3 : (0 : Int) ≤ (j : Int) := by omega
      rw [e2] at sb
      have ly := srt_low sb
      simp only [c1, c2, c0, c3, decide_true, cond_true, Int.toNat_natCast, p2, g2, edgeAt]
      rw [fin (min x y) (by omega) (by omega) (fun x s e => by rw [e1] at e; cases e; omega) (fun x s e => by rw [e2] at e; cases e; omega), e1, e2]
theorem runs_edges_Or_1_good {k : Nat} {a b : List Int} (za : srt 0 a) (zb : srt 0 b) (ea : od a.length = false) (eb : od b.length = false) (ha : a.length < 1000000) (hb : b.length < 1000000) (hk : a.length + b.length + 3 ≤ k) :
    ∃ r, runs_edges_Or_1 k a b = some r ∧ Good (fun x y => x || y) a b r := by
  obtain ⟨r, h1, h2⟩ := walk_all (op := (fun x y => x || y)) (L := fun k r on fr i j => runs_edges_Or_1_l0 k r a b on fr i j) (K := 2) rfl za zb ea eb (fun k m r on fr i j hk h => runs_edges_Or_1_turn ha hb hk h) k (by omega)
  refine ⟨r, ?_, h2⟩
  have h1 : runs_edges_Or_1_l0 k [] a b false 0 0 0 = some r := h1
  unfold runs_edges_Or_1
  rw [h1]
  rfl


theorem runs_edges_AndNot_1_l1_eq {k : Nat} {r : List Run} {a b : List Int} {on : Bool} {fr : Int} {i j : Nat} {t m : Int} (hi : i ≤ a.length) (hs : srt m (a.drop i)) (ht : ∀ x s, a.drop i = x :: s → t ≤ x) (hb : a.length < 1000000000) :
    runs_edges_AndNot_1_l1 (k + 2) r a b on fr i j t = some (r, a, b, on, fr, ((i + adv (a.drop i) t : Nat) : Int), (j : Int), t) := by
  cases h : a.drop i with
  | nil =>
    have := drop_nil h hi
    have c : ¬ ((i : Int) < (a.length : Int)) := by omega
    simp only [runs_edges_AndNot_1_l1, adv, c, decide_false, cond_false, Nat.add_zero]
  | cons x s =>
    obtain ⟨h1, h2, h3⟩ := drop_cons h (0 : Int)
    rw [h] at hs
    have c : ((i : Int) < (a.length : Int)) := by omega
    have c0 : (0 : Int) ≤ (i : Int) := by omega
    rw [runs_edges_AndNot_1_l1]
    simp only [c, c0, decide_true, cond_true, Int.toNat_natCast, h2, adv]
    by_cases q : x ≤ t
    · rw [i64_in _ ⟨by omega, by omega⟩, show ((i : Int) + 1) = ((i + 1 : Nat) : Int) by omega]
      simp only [q, decide_true, cond_true, if_true]
      cases h' : s with
      | nil =>
        rw [h'] at h3
        have := drop_nil h3 (by omega)
        have c : ¬ (((i + 1 : Nat) : Int) < (a.length : Int)) := by omega
        simp only [runs_edges_AndNot_1_l1, c, decide_false, cond_false]
      | cons y u =>
        rw [h'] at h3
        obtain ⟨g1, g2, g3⟩ := drop_cons h3 (0 : Int)
        have c : (((i + 1 : Nat) : Int) < (a.length : Int)) := by omega
        have c0 : (0 : Int) ≤ ((i + 1 : Nat) : Int) := by omega
        rw [h'] at hs
        have := ht x s h
        have := hs.2.2.1
        have q2 : ¬ y ≤ t := by omega
        simp only [runs_edges_AndNot_1_l1, c, c0, decide_true, cond_true, Int.toNat_natCast, g2, q2, decide_false, cond_false]
    · simp only [q, decide_false, cond_false, if_false, Nat.add_zero]
theorem runs_edges_AndNot_1_l2_eq {k : Nat} {r : List Run} {a b : List Int} {on : Bool} {fr : Int} {i : Int} {j : Nat} {t m : Int} (hi : j ≤ b.length) (hs : srt m (b.drop j)) (ht : ∀ x s, b.drop j = x :: s → t ≤ x) (hb : b.length < 1000000000) :
    runs_edges_AndNot_1_l2 (k + 2) r a b on fr i j t = some (r, a, b, on, fr, i, ((j + adv (b.drop j) t : Nat) : Int), t) := by
  cases h : b.drop j with
  | nil =>
    have := drop_nil h hi
    have c : ¬ ((j : Int) < (b.length : Int)) := by omega
    simp only [runs_edges_AndNot_1_l2, adv, c, decide_false, cond_false, Nat.add_zero]
  | cons x s =>
    obtain ⟨h1, h2, h3⟩ := drop_cons h (0 : Int)
    rw [h] at hs
    have c : ((j : Int) < (b.length : Int)) := by omega
    have c0 : (0 : Int) ≤ (j : Int) := by omega
    rw [runs_edges_AndNot_1_l2]
    simp only [c, c0, decide_true, cond_true, Int.toNat_natCast, h2, adv]
    by_cases q : x ≤ t
    · rw [i64_in _ ⟨by omega, by omega⟩, show ((j : Int) + 1) = ((j + 1 : Nat) : Int) by omega]
      simp only [q, decide_true, cond_true, if_true]
      cases h' : s with
      | nil =>
        rw [h'] at h3
        have := drop_nil h3 (by omega)
        have c : ¬ (((j + 1 : Nat) : Int) < (b.length : Int)) := by omega
        simp only [runs_edges_AndNot_1_l2, c, decide_false, cond_false]
      | cons y u =>
        rw [h'] at h3
        obtain ⟨g1, g2, g3⟩ := drop_cons h3 (0 : Int)
        have c : (((j + 1 : Nat) : Int) < (b.length : Int)) := by omega
        have c0 : (0 : Int) ≤ ((j + 1 : Nat) : Int) := by omega
        rw [h'] at hs
        have := ht x s h
        have := hs.2.2.1
        have q2 : ¬ y ≤ t := by omega
        simp only [runs_edges_AndNot_1_l2, c, c0, decide_true, cond_true, Int.toNat_natCast, g2, q2, decide_false, cond_false]
    · simp only [q, decide_false, cond_false, if_false, Nat.add_zero]
theorem runs_edges_AndNot_1_turn {a b : List Int} (ha : a.length < 1000000) (hb : b.length < 1000000) {k : Nat} {m : Int} {r : List Run} {on : Bool} {fr : Int} {i j : Nat} (hk : 2 ≤ k) (h : EInv (fun x y => x && !y) a b m r on fr i j) :
    runs_edges_AndNot_1_l0 (k + 1) r a b on fr i j = Turn (fun x y => x && !y) a b (fun k r on fr i j => runs_edges_AndNot_1_l0 k r a b on fr i j) k r on fr i j := by
  obtain ⟨k, rfl⟩ : ∃ k', k = k' + 2 := ⟨k - 2, by omega⟩
  have hC : ∀ x y, runs_AndNot_1 (k + 2) x y = some ((fun x y => x && !y) x y) := by intro x y; cases x <;> cases y <;> rfl
  have lr := h.len
  have ia := h.ia
  have jb := h.jb
  have m0 := h.m0
  have fin : ∀ (t : Int), m ≤ t → t ≤ 65536 → (∀ x s, a.drop i = x :: s → t ≤ x) → (∀ x s, b.drop j = x :: s → t ≤ x) →
      ((runs_edges_AndNot_1_l1 (k + 2) r a b on fr i j t).bind fun y160 =>
                  (runs_edges_AndNot_1_l2 (k + 2) y160.1 y160.2.1 y160.2.2.1 y160.2.2.2.1 y160.2.2.2.2.1 y160.2.2.2.2.2.1 y160.2.2.2.2.2.2.1 y160.2.2.2.2.2.2.2).bind fun y161 =>
                  (runs_AndNot_1 (k + 2) (decide ((y161.2.2.2.2.2.1.tmod 2) = 1)) (decide ((y161.2.2.2.2.2.2.1.tmod 2) = 1))).bind fun y166 =>
                  bif (y166 == y161.2.2.2.1) then
                    runs_edges_AndNot_1_l0 (k + 2) y161.1 y161.2.1 y161.2.2.1 y161.2.2.2.1 y161.2.2.2.2.1 y161.2.2.2.2.2.1 y161.2.2.2.2.2.2.1
                  else
                    bif y161.2.2.2.1 then
                      let v168 := IntKind.wrap .u16 y161.2.2.2.2.1
                      let v170 := IntKind.wrap .i64 ((IntKind.wrap .i64 (y161.2.2.2.2.2.2.2 - y161.2.2.2.2.1)) - 1)
                      bif decide ((List.length y161.1 + List.length [(v168, (IntKind.wrap .u16 v170))]) * 4 ≤ 140737488355328) then
                        bif decide (List.length y161.1 + List.length [(v168, (IntKind.wrap .u16 v170))] ≤ 140737488355328) then
                          runs_edges_AndNot_1_l0 (k + 2) (y161.1 ++ [(v168, (IntKind.wrap .u16 v170))]) y161.2.1 y161.2.2.1 y166 y161.2.2.2.2.2.2.2 y161.2.2.2.2.2.1 y161.2.2.2.2.2.2.1
                        else none
                      else none
                    else
                      runs_edges_AndNot_1_l0 (k + 2) y161.1 y161.2.1 y161.2.2.1 y166 y161.2.2.2.2.2.2.2 y161.2.2.2.2.2.1 y161.2.2.2.2.2.2.1) =
      (bif ((fun x y => x && !y) (od (i + adv (a.drop i) t)) (od (j + adv (b.drop j) t)) == on) then runs_edges_AndNot_1_l0 (k + 2) r a b on fr ((i + adv (a.drop i) t : Nat) : Int) ((j + adv (b.drop j) t : Nat) : Int)
       else bif on then runs_edges_AndNot_1_l0 (k + 2) (r ++ [(fr, t - fr - 1)]) a b ((fun x y => x && !y) (od (i + adv (a.drop i) t)) (od (j + adv (b.drop j) t))) t ((i + adv (a.drop i) t : Nat) : Int) ((j + adv (b.drop j) t : Nat) : Int)
       else runs_edges_AndNot_1_l0 (k + 2) r a b ((fun x y => x && !y) (od (i + adv (a.drop i) t)) (od (j + adv (b.drop j) t))) t ((i + adv (a.drop i) t : Nat) : Int) ((j + adv (b.drop j) t : Nat) : Int)) := by
    intro t ht0 ht1 hta htb
    rw [runs_edges_AndNot_1_l1_eq ia h.sa hta (by omega)]
    simp only [Option.bind_some]
    rw [runs_edges_AndNot_1_l2_eq jb h.sb htb (by omega)]
    simp only [Option.bind_some, od_tmod, hC]
    have g1 : decide ((r.length + 1) * 4 ≤ 140737488355328) = true := by simp; omega
    have g2 : decide (r.length + 1 ≤ 140737488355328) = true := by simp; omega
    simp only [List.length_cons, List.length_nil, Nat.zero_add, g1, g2, cond_true]
    cases on with
    | false => simp only [cond_false]
    | true =>
      obtain ⟨f1, f2, f3⟩ := h.fr' rfl
      simp only [cond_true]
      rw [i64_in (t - fr) ⟨by omega, by omega⟩, i64_in (t - fr - 1) ⟨by omega, by omega⟩, u16_in fr ⟨by omega, by omega⟩, u16_in (t - fr - 1) ⟨by omega, by omega⟩]
  unfold Turn
  rw [runs_edges_AndNot_1_l0]
  have sa := h.sa
  have sb := h.sb
  cases e1 : a.drop i with
  | nil =>
    have i1 := drop_nil e1 ia
    have c1 : ¬ ((i : Int) < (a.length : Int)) := by omega
    cases e2 : b.drop j with
    | nil =>
      have j1 := drop_nil e2 jb
      have c2 : ¬ ((j : Int) < (b.length : Int)) := by omega
      simp only [c1, c2, decide_false, cond_false]
    | cons y u =>
      obtain ⟨g1, g2, g3⟩ := drop_cons e2 (0 : Int)
      have c2 : ((j : Int) < (b.length : Int)) := by omega
      have c3 : (0 : Int) ≤ (j : Int) := by omega
      rw [e2] at sb
      have ly := srt_low sb
      have hm : min 65537 y = y := by omega
      simp only [c1, c2, c3, decide_false, cond_false, decide_true, cond_true, Int.toNat_natCast, g2, hm, edgeAt]
      rw [fin y ly.1 ly.2 (fun x s e => by rw [e1] at e; cases e) (fun x s e => by rw [e2] at e; cases e; exact Int.le_refl _), e1, e2]
  | cons x s =>
    obtain ⟨p1, p2, p3⟩ := drop_cons e1 (0 : Int)
    have c1 : ((i : Int) < (a.length : Int)) := by omega
    have c0 : (0 : Int) ≤ (i : Int) := by omega
    rw [e1] at sa
    have lx := srt_low sa
    cases e2 : b.drop j with
    | nil =>
      have j1 := drop_nil e2 jb
      have c2 : ¬ ((j : Int) < (b.length : Int)) := by omega
      simp only [c1, c2, c0, decide_false, cond_false, decide_true, cond_true, Int.toNat_natCast, p2, edgeAt]
      rw [fin x lx.1 lx.2 (fun x s e => by rw [e1] at e; cases e; exact Int.le_refl _) (fun x s e => by rw [e2] at e; cases e), e1, e2]
    | cons y u =>
      obtain ⟨g1, g2, g3⟩ := drop_cons e2 (0 : Int)
      have c2 : ((j : Int) < (b.length : Int)) := by omega
      have c3 : (0 : Int) ≤ (j : Int) := by omega
      rw [e2] at sb
      have ly := srt_low sb
      simp only [c1, c2, c0, c3, decide_true, cond_true, Int.toNat_natCast, p2, g2, edgeAt]
      rw [fin (min x y) (by omega) (by omega) (fun x s e => by rw [e1] at e; cases e; omega) (fun x s e => by rw [e2] at e; cases e; omega), e1, e2]
theorem runs_edges_AndNot_1_good {k : Nat} {a b : List Int} (za : srt 0 a) (zb : srt 0 b) (ea : od a.length = false) (eb : od b.length = false) (ha : a.length < 1000000) (hb : b.length < 1000000) (hk : a.length + b.length + 3 ≤ k) :
    ∃ r, runs_edges_AndNot_1 k a b = some r ∧ Good (fun x y => x && !y) a b r := by
  obtain ⟨r, h1, h2⟩ := walk_all (op := (fun x y => x && !y)) (L := fun k r on fr i j => runs_edges_AndNot_1_l0 k r a b on fr i j) (K := 2) rfl za zb ea eb (fun k m r on fr i j hk h => runs_edges_AndNot_1_turn ha hb hk h) k (by omega)
  refine ⟨r, ?_, h2⟩
  have h1 : runs_edges_AndNot_1_l0 k [] a b false 0 0 0 = some r := h1
  unfold runs_edges_AndNot_1
  rw [h1]
  rfl

end Go.Rx.Tryz
/-! The functions of runs, in plain Lean: rows of edges, right runs, and both, either, the rest, just one of two. -/
namespace Go.Rx.Tryz
open Go.Rx.Plain Go.IntWalk
set_option linter.unusedVariables false
set_option linter.unusedSimpArgs false
theorem wf_get {r : List Run} (hw : wfR r) {i : Nat} {x : Run} {s : List Run} (h : r.drop i = x :: s) : 0 ≤ x.1 ∧ x.1 < 65536 ∧ 0 ≤ x.2 ∧ x.2 < 65536 :=
  hw x (List.mem_of_mem_drop (by rw [h]; simp))
theorem end_eq {k : Nat} {x : Run} (h : 0 ≤ x.1 ∧ x.1 < 65536 ∧ 0 ≤ x.2 ∧ x.2 < 65536) : runs_end k x = some (x.1 + x.2 + 1) := by
  unfold runs_end
  rw [i64_in x.1 ⟨by omega, by omega⟩, i64_in x.2 ⟨by omega, by omega⟩, i64_in (x.1 + x.2) ⟨by omega, by omega⟩, i64_in _ ⟨by omega, by omega⟩]
theorem row_l0_eq {r : List Run} (hw : wfR r) (hb : r.length < 1000000) : ∀ (rest : List Run) (k : Nat) (acc : List Int) (i : Nat), i ≤ r.length → r.drop i = rest → rest.length + 1 ≤ k → acc.length ≤ 2 * i → runs_row_l0 k acc r r.length i = some (acc ++ rowL rest)
  | [], 0, _, _, _, _, hk, _ => by simp at hk
  | _ :: _, 0, _, _, _, _, hk, _ => by simp at hk
  | [], k + 1, acc, i, hi, h, hk, hl => by
    have := drop_nil h hi
    have c : ¬ ((i : Int) < (r.length : Int)) := by omega
    simp only [runs_row_l0, c, decide_false, cond_false, rowL, List.append_nil]
  | x :: s, k + 1, acc, i, hi, h, hk, hl => by
    obtain ⟨h1, h2, h3⟩ := drop_cons h ((0 : Int), (0 : Int))
    have hx := wf_get hw h
    have c : ((i : Int) < (r.length : Int)) := by omega
    have c0 : (0 : Int) ≤ (i : Int) := by omega
    have g1 : decide ((acc.length + 2) * 8 ≤ 140737488355328) = true := by simp; omega
    have g2 : decide (acc.length + 2 ≤ 140737488355328) = true := by simp; omega
    rw [runs_row_l0]
    simp only [c, c0, decide_true, cond_true, Int.toNat_natCast, h2, end_eq hx, Option.bind_some, List.length_cons, List.length_nil, Nat.zero_add, g1, g2]
    rw [i64_in x.1 ⟨by omega, by omega⟩, i64_in _ ⟨by omega, by omega⟩, show ((i : Int) + 1) = ((i + 1 : Nat) : Int) by omega]
    rw [row_l0_eq hw hb s k _ (i + 1) (by omega) h3 (by simp at hk; omega) (by simp; omega)]
    simp [rowL]
theorem row_eq {r : List Run} {k : Nat} (hw : wfR r) (hb : r.length < 1000000) (hk : r.length + 1 ≤ k) : runs_row k r = some (rowL r) := by
  unfold runs_row
  have := row_l0_eq hw hb r k [] 0 (by omega) rfl hk (by simp)
  simp only [Int.natCast_zero] at this
  rw [show (0 : Int) = ((0 : Nat) : Int) from rfl] at *
  rw [row_l0_eq hw hb r k [] 0 (by omega) rfl hk (by simp)]
  rfl
theorem May_l0_eq {r : List Run} (hw : wfR r) (hb : r.length < 1000000) : ∀ (rest : List Run) (k : Nat) (m : Int) (i : Nat), i ≤ r.length → r.drop i = rest → rest.length + 1 ≤ k → runs_May_l0 k m r r.length i = some (bif mayF m rest then .inr () else .inl false)
  | [], 0, _, _, _, _, hk => by simp at hk
  | _ :: _, 0, _, _, _, _, hk => by simp at hk
  | [], k + 1, m, i, hi, h, hk => by
    have := drop_nil h hi
    have c : ¬ ((i : Int) < (r.length : Int)) := by omega
    simp only [runs_May_l0, c, decide_false, cond_false, mayF, cond_true]
  | x :: s, k + 1, m, i, hi, h, hk => by
    obtain ⟨h1, h2, h3⟩ := drop_cons h ((0 : Int), (0 : Int))
    have hx := wf_get hw h
    have c : ((i : Int) < (r.length : Int)) := by omega
    have c0 : (0 : Int) ≤ (i : Int) := by omega
    rw [runs_May_l0]
    simp only [c, c0, decide_true, cond_true, Int.toNat_natCast, h2, end_eq hx, Option.bind_some, mayF]
    rw [i64_in x.1 ⟨by omega, by omega⟩, i64_in (i + 1) ⟨by omega, by omega⟩, i64_in (x.1 + x.2 + 1 + 1) ⟨by omega, by omega⟩, show ((i : Int) + 1) = ((i + 1 : Nat) : Int) by omega]
    rw [May_l0_eq hw hb s k _ (i + 1) (by omega) h3 (by simp at hk; omega)]
    by_cases q1 : x.1 < m
    · have : ¬ m ≤ x.1 := by omega
      simp [q1, this]
    · have q1' : m ≤ x.1 := by omega
      by_cases q2 : 65536 < x.1 + x.2 + 1
      · have : ¬ x.1 + x.2 < 65536 := by omega
        simp [q1, q2, this]
      · have q2' : x.1 + x.2 < 65536 := by omega
        simp only [q1, q2, q1', q2', decide_false, cond_false, decide_true, Bool.true_and]
        rw [show x.1 + x.2 + 1 + 1 = x.1 + x.2 + 2 by omega]
theorem May_eq {r : List Run} {k : Nat} (hw : wfR r) (hb : r.length < 1000000) (hk : r.length + 1 ≤ k) : runs_May k r = some (mayF 0 r) := by
  unfold runs_May
  rw [show runs_May_l0 k 0 r r.length 0 = runs_May_l0 k 0 r r.length ((0 : Nat) : Int) from rfl, May_l0_eq hw hb r k 0 0 (by omega) rfl hk]
  cases mayF 0 r <;> rfl
/-- What an answer of the calculus is. -/
structure Ans (op : Bool → Bool → Bool) (a b r : List Run) : Prop where
  may : mayF 0 r = true
  wf : wfR r
  has : ∀ x, hasB r x = op (hasB a x) (hasB b x)
  len : r.length ≤ 2 * (a.length + b.length)
theorem good_ans {op : Bool → Bool → Bool} {a b r : List Run} (h : Good op (rowL a) (rowL b) r) (ma : mayF 0 a = true) (mb : mayF 0 b = true) (wa : wfR a) (wb : wfR b) : Ans op a b r :=
  ⟨h.may, h.wf, fun x => by rw [h.has, par_row x ma wa, par_row x mb wb], by have := h.len; rw [len_row, len_row] at this; omega⟩
theorem od_row (r : List Run) : od (rowL r).length = false := by
  rw [len_row]
  unfold od
  have : 2 * r.length % 2 = 0 := by omega
  rw [this]
  rfl
theorem Or_ans {k : Nat} {a b : List Run} (ma : mayF 0 a = true) (mb : mayF 0 b = true) (wa : wfR a) (wb : wfR b) (ha : a.length < 100000) (hb : b.length < 100000) (hk : 2 * (a.length + b.length) + 5 ≤ k) :
    ∃ r, runs_Or k a b = some r ∧ Ans (fun x y => x || y) a b r := by
  obtain ⟨r, h1, h2⟩ := runs_edges_Or_1_good (k := k) (srt_row ma wa) (srt_row mb wb) (od_row a) (od_row b) (by rw [len_row]; omega) (by rw [len_row]; omega) (by rw [len_row, len_row]; omega)
  refine ⟨r, ?_, good_ans h2 ma mb wa wb⟩
  unfold runs_Or
  rw [row_eq wa (by omega) (by omega)]
  simp only [Option.bind_some]
  rw [row_eq wb (by omega) (by omega)]
  simp only [Option.bind_some]
  rw [h1]
  rfl
end Go.Rx.Tryz
/-! The other functions of runs: the calculus, how many, how many below, the k-th, whether there. -/
namespace Go.Rx.Tryz
open Go.Rx.Plain Go.IntWalk
set_option linter.unusedVariables false
set_option linter.unusedSimpArgs false
theorem AndNot_ans {k : Nat} {a b : List Run} (ma : mayF 0 a = true) (mb : mayF 0 b = true) (wa : wfR a) (wb : wfR b) (ha : a.length < 100000) (hb : b.length < 100000) (hk : 2 * (a.length + b.length) + 5 ≤ k) :
    ∃ r, runs_AndNot k a b = some r ∧ Ans (fun x y => x && !y) a b r := by
  obtain ⟨r, h1, h2⟩ := runs_edges_AndNot_1_good (k := k) (srt_row ma wa) (srt_row mb wb) (od_row a) (od_row b) (by rw [len_row]; omega) (by rw [len_row]; omega) (by rw [len_row, len_row]; omega)
  refine ⟨r, ?_, good_ans h2 ma mb wa wb⟩
  unfold runs_AndNot
  rw [row_eq wa (by omega) (by omega)]
  simp only [Option.bind_some]
  rw [row_eq wb (by omega) (by omega)]
  simp only [Option.bind_some]
  rw [h1]
  rfl
/-- What a range flipped is. -/
structure Flp (a : List Run) (lo hi : Int) (r : List Run) : Prop where
  may : mayF 0 r = true
  wf : wfR r
  has : ∀ x, hasB r x = (hasB a x != (decide (max lo 0 ≤ x) && decide (x < min hi 65536)))
  len : r.length ≤ 2 * a.length + 2
theorem clone_eq {k : Nat} {r : List Run} (h : r.length < 1000000) : slices_Clone_Run k r = some r := by
  cases r with
  | nil => rfl
  | cons x l =>
    have g1 : decide ((0 + (x :: l).length) * 4 ≤ 140737488355328) = true := by simp at h ⊢; omega
    have g2 : decide (0 + (x :: l).length ≤ 140737488355328) = true := by simp at h ⊢; omega
    simp only [slices_Clone_Run, List.length_nil, g1, g2, cond_true, List.nil_append]
theorem Flip_ans {k : Nat} {a : List Run} {lo hi : Int} (ma : mayF 0 a = true) (wa : wfR a) (ha : a.length < 100000) (hk : 2 * a.length + 8 ≤ k) :
    ∃ r, runs_Flip k a lo hi = some r ∧ Flp a lo hi r := by
  unfold runs_Flip
  by_cases c : min hi 65536 ≤ max lo 0
  · refine ⟨a, by simp only [c, decide_true, cond_true, clone_eq (k := k) (show a.length < 1000000 by omega), Option.bind_some], ma, wa, fun x => ?_, by omega⟩
    have : (decide (max lo 0 ≤ x) && decide (x < min hi 65536)) = false := by simp; omega
    rw [this]
    simp
  · obtain ⟨r, h1, h2⟩ := runs_edges_Flip_1_good (k := k) (b := [max lo 0, min hi 65536]) (srt_row ma wa) ⟨by omega, by omega, by omega, by omega, trivial⟩ (od_row a) (by simp [od]) (by rw [len_row]; omega) (by simp) (by rw [len_row]; simp; omega)
    refine ⟨r, ?_, h2.may, h2.wf, fun x => ?_, by have := h2.len; rw [len_row] at this; simpa using this⟩
    · simp only [c, decide_false, cond_false]
      rw [row_eq wa (by omega) (by omega)]
      simp only [Option.bind_some]
      rw [h1]
      rfl
    · rw [h2.has, par_row x ma wa]
      congr 1
      simp only [par]
      by_cases q1 : max lo 0 ≤ x <;> by_cases q2 : min hi 65536 ≤ x
      · have : ¬ x < min hi 65536 := by omega
        simp [q1, q2, this]
      · have : x < min hi 65536 := by omega
        simp [q1, q2, this]
      · omega
      · have : x < min hi 65536 := by omega
        simp [q1, q2, this]
theorem Len_l0_eq {r : List Run} (hw : wfR r) (hb : r.length < 1000000) : ∀ (rest : List Run) (k : Nat) (n : Int) (i : Nat), i ≤ r.length → r.drop i = rest → rest.length + 1 ≤ k → 0 ≤ n → n ≤ 65536 * (i : Int) → runs_Len_l0 k n r r.length i = some (n + lenF rest)
  | [], 0, _, _, _, _, hk, _, _ => by simp at hk
  | _ :: _, 0, _, _, _, _, hk, _, _ => by simp at hk
  | [], k + 1, n, i, hi, h, hk, h0, h1 => by
    have := drop_nil h hi
    have c : ¬ ((i : Int) < (r.length : Int)) := by omega
    simp only [runs_Len_l0, c, decide_false, cond_false, lenF, Int.add_zero]
  | x :: s, k + 1, n, i, hi, h, hk, h0, h1 => by
    obtain ⟨g1, g2, g3⟩ := drop_cons h ((0 : Int), (0 : Int))
    have hx := wf_get hw h
    have c : ((i : Int) < (r.length : Int)) := by omega
    have c0 : (0 : Int) ≤ (i : Int) := by omega
    rw [runs_Len_l0]
    simp only [c, c0, decide_true, cond_true, Int.toNat_natCast, g2]
    rw [i64_in x.2 ⟨by omega, by omega⟩, i64_in (x.2 + 1) ⟨by omega, by omega⟩, i64_in (n + (x.2 + 1)) ⟨by omega, by omega⟩, i64_in (i + 1) ⟨by omega, by omega⟩, show ((i : Int) + 1) = ((i + 1 : Nat) : Int) by omega]
    rw [Len_l0_eq hw hb s k _ (i + 1) (by omega) g3 (by simp at hk; omega) (by omega) (by omega), lenF]
    congr 1
    omega
theorem Len_eq {r : List Run} {k : Nat} (hw : wfR r) (hb : r.length < 1000000) (hk : r.length + 1 ≤ k) : runs_Len k r = some (lenF r) := by
  unfold runs_Len
  rw [show runs_Len_l0 k 0 r r.length 0 = runs_Len_l0 k 0 r r.length ((0 : Nat) : Int) from rfl, Len_l0_eq hw hb r k 0 0 (by omega) rfl hk (by omega) (by omega)]
  simp
theorem Rank_l0_eq {r : List Run} {x : Int} (hx0 : 0 ≤ x) (hx1 : x ≤ 9223372036854775807) (hw : wfR r) (hb : r.length < 1000000) : ∀ (rest : List Run) (k : Nat) (n : Int) (i : Nat), i ≤ r.length → r.drop i = rest → rest.length + 1 ≤ k → 0 ≤ n → n ≤ 65536 * (i : Int) → runs_Rank_l0 k x n r r.length i = some (n + rankF rest x)
  | [], 0, _, _, _, _, hk, _, _ => by simp at hk
  | _ :: _, 0, _, _, _, _, hk, _, _ => by simp at hk
  | [], k + 1, n, i, hi, h, hk, h0, h1 => by
    have := drop_nil h hi
    have c : ¬ ((i : Int) < (r.length : Int)) := by omega
    simp only [runs_Rank_l0, c, decide_false, cond_false, rankF, Int.add_zero]
  | y :: s, k + 1, n, i, hi, h, hk, h0, h1 => by
    obtain ⟨g1, g2, g3⟩ := drop_cons h ((0 : Int), (0 : Int))
    have hy := wf_get hw h
    have c : ((i : Int) < (r.length : Int)) := by omega
    have c0 : (0 : Int) ≤ (i : Int) := by omega
    rw [runs_Rank_l0]
    simp only [c, c0, decide_true, cond_true, Int.toNat_natCast, g2]
    rw [i64_in y.2 ⟨by omega, by omega⟩, i64_in y.1 ⟨by omega, by omega⟩, i64_in (y.2 + 1) ⟨by omega, by omega⟩, i64_in (x - y.1) ⟨by omega, by omega⟩, i64_in (n + min (max (x - y.1) 0) (y.2 + 1)) ⟨by omega, by omega⟩, i64_in (i + 1) ⟨by omega, by omega⟩, show ((i : Int) + 1) = ((i + 1 : Nat) : Int) by omega]
    rw [Rank_l0_eq hx0 hx1 hw hb s k _ (i + 1) (by omega) g3 (by simp at hk; omega) (by omega) (by omega), rankF]
    congr 1
    omega
theorem Rank_eq {r : List Run} {k : Nat} {x : Int} (hx1 : x ≤ 9223372036854775807) (hw : wfR r) (hb : r.length < 1000000) (hk : r.length + 1 ≤ k) : runs_Rank k r x = some (rankF r (max x 0)) := by
  unfold runs_Rank
  rw [show runs_Rank_l0 k (max x 0) 0 r r.length 0 = runs_Rank_l0 k (max x 0) 0 r r.length ((0 : Nat) : Int) from rfl, Rank_l0_eq (by omega) (by omega) hw hb r k 0 0 (by omega) rfl hk (by omega) (by omega)]
  simp
theorem Select_l0_eq {r : List Run} (hw : wfR r) (hb : r.length < 1000000) : ∀ (rest : List Run) (k : Nat) (n : Int) (i : Nat), i ≤ r.length → r.drop i = rest → rest.length + 1 ≤ k → -9223372036854775808 ≤ n → n ≤ 9223372036854775807 → runs_Select_l0 k rest n r r.length i = some (selF rest n)
  | [], 0, _, _, _, _, hk, _, _ => by simp at hk
  | _ :: _, 0, _, _, _, _, hk, _, _ => by simp at hk
  | [], k + 1, n, i, hi, h, hk, h0, h1 => by
    have := drop_nil h hi
    have c : ¬ ((i : Int) < (r.length : Int)) := by omega
    simp only [runs_Select_l0, c, decide_false, cond_false, selF]
  | y :: s, k + 1, n, i, hi, h, hk, h0, h1 => by
    obtain ⟨g1, g2, g3⟩ := drop_cons h ((0 : Int), (0 : Int))
    have hy := wf_get hw h
    have c : ((i : Int) < (r.length : Int)) := by omega
    have c0 : (0 : Int) ≤ (i : Int) := by omega
    have c1 : (1 : Int) ≤ ((y :: s).length : Int) := by simp; omega
    rw [runs_Select_l0]
    simp only [c, c0, c1, decide_true, cond_true, Int.toNat_natCast, g2]
    rw [i64_in y.2 ⟨by omega, by omega⟩, i64_in (y.2 + 1) ⟨by omega, by omega⟩, selF]
    by_cases q : n ≤ y.2
    · simp [q]
    · simp only [q, decide_false, cond_false, if_false]
      rw [i64_in (n - (y.2 + 1)) ⟨by omega, by omega⟩, i64_in (i + 1) ⟨by omega, by omega⟩, show ((i : Int) + 1) = ((i + 1 : Nat) : Int) by omega]
      exact Select_l0_eq hw hb s k _ (i + 1) (by omega) g3 (by simp at hk; omega) (by omega) (by omega)
/-- The k-th number, or that there is none. -/
theorem Select_eq {r : List Run} {k : Nat} {n : Int} (hm : mayF 0 r = true) (hw : wfR r) (hb : r.length < 1000000) (hk : r.length + 1 ≤ k) (h0 : -9223372036854775808 ≤ n) (h1 : n ≤ 9223372036854775807) :
    runs_Select k r n = some (0, false) ∨ ∃ x, runs_Select k r n = some (x, true) ∧ 0 ≤ x ∧ x < 65536 ∧ rankF r x = n ∧ rankF r (x + 1) = n + 1 ∧ hasB r x = true := by
  unfold runs_Select
  rw [show runs_Select_l0 k r n r r.length 0 = runs_Select_l0 k r n r r.length ((0 : Nat) : Int) from rfl, Select_l0_eq hw hb r k n 0 (by omega) rfl hk h0 h1]
  simp only [Option.bind_some]
  by_cases c : n < 0
  · left
    rw [sel_neg hw c]
    simp [c]
  · cases h : (selF r n).1 with
    | nil =>
      left
      by_cases c2 : (selF r n).2 < 0
      · simp [c2]
      · simp [c2]
    | cons p t =>
      right
      have e : selF r n = (p :: t, (selF r n).2) := by rw [← h]
      obtain ⟨i1, i2, i3, i4, i5, i6, i7, i8⟩ := sel_ok hm hw (by omega) p t _ e
      refine ⟨p.1 + (selF r n).2, ?_, by omega, by omega, i6, i7, i8⟩
      have c2 : ¬ (selF r n).2 < 0 := by omega
      have c3 : ¬ ((t.length : Int) + 1 = 0) := by omega
      have c4 : (0 : Int) < (t.length : Int) + 1 := by omega
      simp [c2, c3, c4]
      rw [u16_in (selF r n).2 ⟨by omega, by omega⟩, u16_in _ ⟨by omega, by omega⟩]
theorem half (a b : Nat) (h : a + b < 1000000000) : IntKind.wrap .i64 (shrI .u64 (IntKind.wrap .u64 (IntKind.wrap .i64 ((a : Int) + (b : Int)))) 1) = (((a + b) / 2 : Nat) : Int) := by
  rw [i64_in ((a : Int) + (b : Int)) ⟨by omega, by omega⟩, u64_in ((a : Int) + (b : Int)) ⟨by omega, by omega⟩]
  have e : shrI .u64 ((a : Int) + (b : Int)) 1 = (((a + b) / 2 : Nat) : Int) := by
    unfold shrI
    have : (2 : Int) ^ (min (Int.toNat 1) IntKind.u64.bits) = 2 := rfl
    rw [this, Int.fdiv_eq_ediv_of_nonneg _ (by omega)]
    omega
  rw [e, i64_in _ ⟨by omega, by omega⟩]
theorem has1_eq {k : Nat} {p : Run} {x : Int} (hp : 0 ≤ p.1 ∧ p.1 < 65536 ∧ 0 ≤ p.2 ∧ p.2 < 65536) (hx : 0 ≤ x ∧ x < 65536) : runs_Has_1 k p x = some (p.1 - x) := by
  unfold runs_Has_1
  rw [i64_in p.1 ⟨by omega, by omega⟩, i64_in x ⟨by omega, by omega⟩, i64_in _ ⟨by omega, by omega⟩]
theorem may_sorted : ∀ {r : List Run} {m : Int}, mayF m r = true → wfR r → ∀ (i j : Nat) (p q : Run), i < j → r[i]? = some p → r[j]? = some q → p.1 < q.1
  | [], _, _, _, i, j, p, q, _, hp, _ => by simp at hp
  | y :: t, m, h, hw, i, j, p, q, hij, hp, hq => by
    obtain ⟨h1, h2, h3⟩ := mayF_cons.1 h
    have hy := wfR_head hw
    obtain ⟨j, rfl⟩ : ∃ j', j = j' + 1 := ⟨j - 1, by omega⟩
    rw [List.getElem?_cons_succ] at hq
    cases i with
    | zero =>
      rw [List.getElem?_cons_zero] at hp
      cases hp
      have hl : ∀ {s : List Run} {m : Int}, mayF m s = true → wfR s → ∀ (j : Nat) (q : Run), s[j]? = some q → m ≤ q.1 := by
        intro s
        induction s with
        | nil => intro m _ _ j q h; simp at h
        | cons z u ih =>
          intro m h hw j q hq
          obtain ⟨g1, g2, g3⟩ := mayF_cons.1 h
          have := wfR_head hw
          cases j with
          | zero => simp at hq; subst hq; exact g1
          | succ j =>
            have := ih g3 (wfR_tail hw) j q (by simpa using hq)
            omega
      have := hl h3 (wfR_tail hw) j q hq
      omega
    | succ i =>
      rw [List.getElem?_cons_succ] at hp
      exact may_sorted h3 (wfR_tail hw) i j p q (by omega) hp hq
theorem bs_l0_eq {r : List Run} {x : Int} (hm : mayF 0 r = true) (hw : wfR r) (hb : r.length < 1000000) (hx : 0 ≤ x ∧ x < 65536) (n : Int) : ∀ (d k i j : Nat), j - i ≤ d → d + 1 ≤ k → i ≤ j → j ≤ r.length → (∀ t p, t < i → r[t]? = some p → p.1 < x) → (∀ t p, j ≤ t → r[t]? = some p → x ≤ p.1) →
    ∃ i' : Nat, slices_BinarySearchFunc_uint16_Has_1_l0 k r x n i j = some (r, x, n, (i' : Int)) ∧ i' ≤ r.length ∧ (∀ t p, t < i' → r[t]? = some p → p.1 < x) ∧ (∀ t p, i' ≤ t → r[t]? = some p → x ≤ p.1)
  | d, 0, i, j, h1, h2, h3, h4, h5, h6 => by omega
  | d, k + 1, i, j, h1, h2, h3, h4, h5, h6 => by
    rw [slices_BinarySearchFunc_uint16_Has_1_l0]
    by_cases c : i < j
    · have c1 : ((i : Int) < (j : Int)) := by omega
      have e := half i j (by omega)
      have l1 : i ≤ (i + j) / 2 := by omega
      have l2 : (i + j) / 2 < j := by omega
      generalize (i + j) / 2 = hf at e l1 l2
      simp only [c1, decide_true, cond_true]
      rw [e]
      have c2 : (0 : Int) ≤ (hf : Int) := by omega
      have c3 : (hf : Int) < (r.length : Int) := by omega
      have hlt : hf < r.length := by omega
      have hg : r[hf]? = some (r.getD hf ((0 : Int), (0 : Int))) := by simp [List.getD, hlt]
      simp only [c2, c3, decide_true, cond_true, Int.toNat_natCast]
      generalize r.getD hf ((0 : Int), (0 : Int)) = p at hg ⊢
      have hp := hw p (List.mem_of_getElem? hg)
      rw [has1_eq hp hx]
      simp only [Option.bind_some]
      have e2 : IntKind.wrap .i64 ((hf : Int) + 1) = ((hf + 1 : Nat) : Int) := by rw [i64_in _ ⟨by omega, by omega⟩]; omega
      rw [e2]
      by_cases q : p.1 - x < 0
      · simp only [q, decide_true, cond_true]
        exact bs_l0_eq hm hw hb hx n (d - 1) k (hf + 1) j (by omega) (by omega) (by omega) h4 (fun t p' ht hp' => by
          by_cases ht2 : t = hf
          · subst ht2
            rw [hg] at hp'
            cases hp'
            omega
          · have := may_sorted hm hw t hf p' p (by omega) hp' hg
            omega) h6
      · simp only [q, decide_false, cond_false]
        exact bs_l0_eq hm hw hb hx n (d - 1) k i hf (by omega) (by omega) l1 (by omega) h5 (fun t p' ht hp' => by
          by_cases ht2 : t = hf
          · subst ht2
            rw [hg] at hp'
            cases hp'
            omega
          · have := may_sorted hm hw hf t p p' (by omega) hg hp'
            omega)
    · have c1 : ¬ ((i : Int) < (j : Int)) := by omega
      have : i = j := by omega
      subst this
      exact ⟨i, by simp only [c1, decide_false, cond_false], h4, h5, h6⟩
theorem Has_eq {r : List Run} {k : Nat} {x : Int} (hm : mayF 0 r = true) (hw : wfR r) (hb : r.length < 1000000) (hk : r.length + 1 ≤ k) (hx : 0 ≤ x ∧ x < 65536) : runs_Has k r x = some (hasB r x) := by
  obtain ⟨i, e, h1, h2, h3⟩ := bs_l0_eq hm hw hb hx (r.length : Int) r.length k 0 r.length (by omega) hk (by omega) (by omega) (fun t p ht _ => by omega) (fun t p ht hp => by
    have := (List.getElem?_eq_some_iff.1 hp).1
    omega)
  have hsplit := has_split (x := x) (l := r.take i) (s := r.drop i) (m := 0) (by rw [List.take_append_drop]; exact hm) (by rw [List.take_append_drop]; exact hw)
    (fun p hp => by
      obtain ⟨t, ht⟩ := List.getElem?_of_mem hp
      rw [List.getElem?_take] at ht
      split at ht
      · rename_i c
        exact h2 t p c ht
      · cases ht)
    (fun p hp => by
      obtain ⟨t, ht⟩ := List.getElem?_of_mem hp
      rw [List.getElem?_drop] at ht
      exact h3 _ p (by omega) ht)
  rw [List.take_append_drop] at hsplit
  unfold runs_Has slices_BinarySearchFunc_uint16_Has_1
  have e' : slices_BinarySearchFunc_uint16_Has_1_l0 k r x (r.length : Int) 0 (r.length : Int) = some (r, x, (r.length : Int), (i : Int)) := e
  rw [e']
  simp only [Option.bind_some]
  -- the last one that begins below it
  have last : (bif decide ((0 : Int) < (i : Int)) then
      (bif decide ((0 : Int) ≤ IntKind.wrap .i64 ((i : Int) - 1)) then
        (bif decide (IntKind.wrap .i64 ((i : Int) - 1) < (r.length : Int)) then
          (runs_end k (r.getD (Int.toNat (IntKind.wrap .i64 ((i : Int) - 1))) ((0 : Int), (0 : Int)))).bind fun y6 => some (decide ((IntKind.wrap .i64 x) < y6))
        else none) else none) else some false) = some (lastIn (r.take i) x) := by
    cases i with
    | zero => rfl
    | succ i =>
      have c : (0 : Int) < ((i + 1 : Nat) : Int) := by omega
      have c2 : IntKind.wrap .i64 (((i + 1 : Nat) : Int) - 1) = (i : Int) := by rw [i64_in _ ⟨by omega, by omega⟩]; omega
      have c3 : (0 : Int) ≤ (i : Int) := by omega
      have c4 : (i : Int) < (r.length : Int) := by omega
      have hlt : i < r.length := by omega
      have hg : r[i]? = some (r.getD i ((0 : Int), (0 : Int))) := by simp [List.getD, hlt]
      simp only [c, c2, c3, c4, decide_true, cond_true, Int.toNat_natCast]
      have hl : (r.take (i + 1)).getLast? = some (r.getD i ((0 : Int), (0 : Int))) := by
        rw [List.getLast?_eq_getElem?, List.getElem?_take]
        have : (r.take (i + 1)).length - 1 = i := by simp; omega
        rw [this, if_pos (by omega), hg]
      unfold lastIn
      rw [hl]
      generalize r.getD i ((0 : Int), (0 : Int)) = p at hg ⊢
      have hp := hw p (List.mem_of_getElem? hg)
      rw [end_eq hp, i64_in x ⟨by omega, by omega⟩]
      rfl
  have fin : ∀ b : Bool, headIs (r.drop i) x = b → (bif b then some true else (bif decide ((0 : Int) < (i : Int)) then
      (bif decide ((0 : Int) ≤ IntKind.wrap .i64 ((i : Int) - 1)) then
        (bif decide (IntKind.wrap .i64 ((i : Int) - 1) < (r.length : Int)) then
          (runs_end k (r.getD (Int.toNat (IntKind.wrap .i64 ((i : Int) - 1))) ((0 : Int), (0 : Int)))).bind fun y6 => some (decide ((IntKind.wrap .i64 x) < y6))
        else none) else none) else some false)) = some (hasB r x) := by
    intro b hb
    rw [last, hsplit, hb]
    cases b <;> simp
  by_cases c : (i : Int) < (r.length : Int)
  · have c0 : (0 : Int) ≤ (i : Int) := by omega
    have hlt : i < r.length := by omega
    have hg : r[i]? = some (r.getD i ((0 : Int), (0 : Int))) := by simp [List.getD, hlt]
    have hd : r.drop i = r.getD i ((0 : Int), (0 : Int)) :: r.drop (i + 1) := by
      rw [List.drop_eq_getElem_cons hlt]
      simp [List.getD, hlt]
    rw [hd] at fin
    simp only [c, c0, decide_true, cond_true, Int.toNat_natCast]
    generalize r.getD i ((0 : Int), (0 : Int)) = p at hg fin ⊢
    have hp := hw p (List.mem_of_getElem? hg)
    rw [has1_eq hp hx]
    simp only [Option.bind_some]
    refine fin _ ?_
    rw [Bool.eq_iff_iff]
    simp [headIs]
    omega
  · have hd : r.drop i = [] := List.drop_eq_nil_of_le (by omega)
    rw [hd] at fin
    simp only [c, decide_false, cond_false, Option.bind_some]
    exact fin false rfl
end Go.Rx.Tryz
/-! RunsWords' pure function answers true. -/
namespace Go.Rx.Tryz
open Go.Rx.Plain Go.IntWalk
set_option linter.unusedVariables false
set_option linter.unusedSimpArgs false
theorem RSame_l0_eq {a b : List Int} (hl : a.length = b.length) (hb : a.length < 1000000) : ∀ (rest : List Int) (k i : Nat), i ≤ a.length → a.drop i = rest → rest.length + 1 ≤ k → isinglassref04_Same_l0 k a b i = some (bif decide (rest = b.drop i) then .inr () else .inl false)
  | [], 0, _, _, _, hk => by simp at hk
  | _ :: _, 0, _, _, _, hk => by simp at hk
  | [], k + 1, i, hi, h, hk => by
    have h0 := drop_nil h hi
    have c : ¬ ((i : Int) < (a.length : Int)) := by omega
    have e : b.drop i = [] := List.drop_eq_nil_of_le (by omega)
    simp only [isinglassref04_Same_l0, c, decide_false, cond_false, e, decide_true, cond_true]
  | x :: s, k + 1, i, hi, h, hk => by
    obtain ⟨h1, h2, h3⟩ := drop_cons h (0 : Int)
    obtain ⟨y, t, hy⟩ : ∃ y t, b.drop i = y :: t := by
      cases e : b.drop i with
      | nil => have := drop_nil e (by omega); omega
      | cons y t => exact ⟨y, t, rfl⟩
    obtain ⟨g1, g2, g3⟩ := drop_cons hy (0 : Int)
    have c : ((i : Int) < (a.length : Int)) := by omega
    have c0 : (0 : Int) ≤ (i : Int) := by omega
    have c1 : ((i : Int) < (b.length : Int)) := by omega
    rw [isinglassref04_Same_l0]
    simp only [c, c0, c1, decide_true, cond_true, Int.toNat_natCast, h2, g2]
    rw [i64_in _ ⟨by omega, by omega⟩, show ((i : Int) + 1) = ((i + 1 : Nat) : Int) by omega]
    rw [RSame_l0_eq hl hb s k (i + 1) (by omega) h3 (by simp at hk; omega), g3, hy]
    by_cases q : x = y
    · subst q
      simp
    · simp [q]
theorem RSame_eq {a b : List Int} {k : Nat} (hb : a.length < 1000000) (hk : a.length + 1 ≤ k) : isinglassref04_Same k a b = some (decide (a = b)) := by
  unfold isinglassref04_Same
  by_cases hl : a.length = b.length
  · have c : decide ((a.length : Int) = (b.length : Int)) = true := by simp; omega
    rw [c]
    simp only [Bool.not_true, cond_false]
    rw [show isinglassref04_Same_l0 k a b 0 = isinglassref04_Same_l0 k a b ((0 : Nat) : Int) from rfl, RSame_l0_eq hl hb a k 0 (by omega) rfl hk, List.drop_zero]
    cases decide (a = b) <;> rfl
  · have c : decide ((a.length : Int) = (b.length : Int)) = false := by simp; omega
    have q : a ≠ b := fun e => hl (by rw [e])
    rw [c]
    simp [q]
theorem List_l1_eq {r : List Run} {n idx : Int} {p : Run} (hp : 0 ≤ p.1 ∧ p.1 < 65536 ∧ 0 ≤ p.2 ∧ p.2 < 65536) (he : p.1 + p.2 < 65536) : ∀ (d k : Nat) (x : Int) (acc : List Int), p.1 ≤ x → x + d = p.1 + p.2 + 1 → d + 1 ≤ k → acc.length + d ≤ 1000000 →
    runs_List_l1 k acc p.1 p.2 x r n idx = some (acc ++ (List.range d).map (fun (j : Nat) => x + (j : Int)), r, n, idx)
  | d, 0, x, acc, _, _, hk, _ => by omega
  | d, k + 1, x, acc, hx, hd, hk, ha => by
    rw [runs_List_l1, end_eq hp]
    rcases Nat.eq_zero_or_pos d with h0 | h0
    · subst h0
      have c : ¬ x < min (p.1 + p.2 + 1) 65536 := by omega
      simp [c]
    obtain ⟨d, rfl⟩ : ∃ d', d = d' + 1 := ⟨d - 1, by omega⟩
    have c : x < min (p.1 + p.2 + 1) 65536 := by omega
    have g1 : decide ((acc.length + 1) * 2 ≤ 140737488355328) = true := by simp; omega
    have g2 : decide (acc.length + 1 ≤ 140737488355328) = true := by simp; omega
    simp only [Option.bind_some, c, decide_true, cond_true, List.length_cons, List.length_nil, Nat.zero_add, g1, g2]
    rw [u16_in x ⟨by omega, by omega⟩, i64_in _ ⟨by omega, by omega⟩, List_l1_eq hp he d k (x + 1) _ (by omega) (by omega) (by omega) (by simp; omega)]
    rw [List.range_succ_eq_map]
    simp [Function.comp_def, Int.add_assoc, Int.add_comm 1]
theorem List_l0_eq {r : List Run} {K : Nat} (hK : 65540 ≤ K) (hw : wfR r) (hb : r.length < 1000000) : ∀ (rest : List Run) (k i : Nat) (m : Int) (acc : List Int), i ≤ r.length → r.drop i = rest → mayF m rest = true → rest.length + K ≤ k → (acc.length : Int) ≤ m → m ≤ 65537 →
    runs_List_l0 k acc r r.length i = some (acc ++ listR rest)
  | _, 0, _, _, _, _, _, _, hk, _, _ => by omega
  | [], k + 1, i, m, acc, hi, h, hm, hk, ha, hm2 => by
    have := drop_nil h hi
    have c : ¬ ((i : Int) < (r.length : Int)) := by omega
    simp only [runs_List_l0, c, decide_false, cond_false, listR, List.append_nil]
  | x :: s, k + 1, i, m, acc, hi, h, hm, hk, ha, hm2 => by
    obtain ⟨g1, g2, g3⟩ := mayF_cons.1 hm
    obtain ⟨h1, h2, h3⟩ := drop_cons h ((0 : Int), (0 : Int))
    have hx := wf_get hw h
    have c : ((i : Int) < (r.length : Int)) := by omega
    have c0 : (0 : Int) ≤ (i : Int) := by omega
    rw [runs_List_l0]
    simp only [c, c0, decide_true, cond_true, Int.toNat_natCast, h2]
    rw [i64_in x.1 ⟨by omega, by omega⟩, List_l1_eq hx g2 (x.2 + 1).toNat k x.1 acc (by omega) (by omega) (by simp at hk; omega) (by omega)]
    simp only [Option.bind_some]
    rw [i64_in _ ⟨by omega, by omega⟩, show ((i : Int) + 1) = ((i + 1 : Nat) : Int) by omega]
    rw [List_l0_eq hK hw hb s k (i + 1) _ _ (by omega) h3 g3 (by simp at hk; omega) (by simp; omega) (by omega)]
    simp [listR]
theorem List_eq {r : List Run} {k : Nat} (hm : mayF 0 r = true) (hw : wfR r) (hb : r.length < 1000000) (hk : r.length + 65540 ≤ k) : runs_List k r = some (listR r) := by
  unfold runs_List
  rw [show runs_List_l0 k [] r r.length 0 = runs_List_l0 k [] r r.length ((0 : Nat) : Int) from rfl, List_l0_eq (K := 65540) (by omega) hw hb r k 0 0 [] (by omega) rfl hm hk (by simp) (by omega)]
  simp
/-- What is alike of one set as runs and as words. -/
theorem alike {r : List Run} {W : List Nat} (hm : mayF 0 r = true) (hw : wfR r) (hW : wfW W) (h : ∀ x, x < 65536 → hasW W x = hasB r (x : Int)) :
    listR r = castL (listW 0 W) ∧ (r.length : Int) = ((runsW 0 W : Nat) : Int) ∧ lenF r = ((lenW W : Nat) : Int) := by
  have hl : 64 * W.length = 65536 := by have := hW.1; omega
  have lo := fun x => may_low (x := x) hm hw
  have hi : ∀ x, 65536 ≤ x → hasB r x = false := fun x hx => has_top fun p hp => by
    have : ∀ {r : List Run} {m : Int}, mayF m r = true → ∀ p, p ∈ r → p.1 + p.2 < 65536 := by
      intro r
      induction r with
      | nil => intro m _ p hp; cases hp
      | cons q t ih =>
        intro m h p hp
        obtain ⟨h1, h2, h3⟩ := mayF_cons.1 h
        rcases List.mem_cons.1 hp with hp | hp
        · subst hp; exact h2
        · exact ih h3 p hp
    have := this hm p hp
    omega
  have cut : ∀ f : Int → Bool, (f 65536 = false) → memI f 0 (65537 - (0 : Int)).toNat = memI f 0 65536 := by
    intro f hf
    rw [show (65537 - (0 : Int)).toNat = 65536 + 1 by omega, memI_split, memI_none (a := 0 + ((65536 : Nat) : Int)) fun x q1 q2 => by
      have : x = 65536 := by omega
      rw [this, hf]]
    simp
  have toN : ∀ f : Int → Bool, memI f 0 65536 = castL ((List.range 65536).filter fun (j : Nat) => f (j : Int)) := by
    intro f
    unfold memI castL
    simp
  have e1 : listR r = castL (listW 0 W) := by
    rw [listR_mem hm hw (by omega), cut _ (hi _ (Int.le_refl _)), toN, listW_eq, hl]
    have : (fun j => 64 * 0 + j) = (fun j : Nat => j) := by funext j; omega
    have ef : (List.range 65536).filter (fun (j : Nat) => hasB r (j : Int)) = (List.range 65536).filter (hasW W) := by
      apply List.filter_congr
      intro x hx
      exact (h x (List.mem_range.1 hx)).symm
    rw [this, List.map_id', ef]
  refine ⟨e1, ?_, ?_⟩
  · have s := starts_mem hm hw (by omega)
    have hs : startI (hasB r) 65536 = false := by unfold startI; rw [hi _ (Int.le_refl _)]; rfl
    rw [cut _ hs, toN] at s
    have sl := congrArg List.length s
    rw [List.length_map] at sl
    rw [runsW_eq W 0 (by omega) hW.2, hl, sl]
    have ef : (List.range 65536).filter (fun (j : Nat) => startI (hasB r) (j : Int)) = (List.range 65536).filter (startW 0 W) := by
      apply List.filter_congr
      intro x hx
      have hx := List.mem_range.1 hx
      unfold startI startW
      rw [h x hx]
      congr 2
      cases x with
      | zero => rw [lo _ (by omega)]; rfl
      | succ x =>
        show hasB r (((x + 1 : Nat) : Int) - 1) = hasW W x
        rw [h x (by omega)]
        congr 1
        omega
    rw [ef]
    unfold castL
    rw [List.length_map]
  · rw [← listR_len hw, e1, lenW_eq W 0]
    unfold castL
    rw [List.length_map]
end Go.Rx.Tryz

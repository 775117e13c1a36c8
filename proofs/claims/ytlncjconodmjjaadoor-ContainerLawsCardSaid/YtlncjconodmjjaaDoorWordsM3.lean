/- The functions of words, in plain Lean. -/
import Derived.Test.YtlncjconodmjjaaDoorMemT
import Derived.Test.YtlncjconodmjjaaDoorCpF
namespace Go.Rx.Tryd
open Go.Rx.Plain Go.IntWalk
set_option linter.unusedVariables false
set_option linter.unusedSimpArgs false
theorem shr_lit (a : Nat) (s : Nat) (hs : s ≤ 64) : shrI .u64 (a : Int) (s : Int) = ((a / 2 ^ s : Nat) : Int) := by
  rw [shr64 hs, Nat.shiftRight_eq_div_pow]
theorem and_i64 {a b : Nat} (ha : a < 9223372036854775808) (hb : b < 9223372036854775808) : bitsI .and .i64 (a : Int) (b : Int) = ((a &&& b : Nat) : Int) := by
  have h := Nat.lt_of_le_of_lt (Nat.and_le_left (n := a) (m := b)) ha
  have e : (BitVec.ofInt 64 (a : Int) &&& BitVec.ofInt 64 (b : Int)).toNat = a &&& b := by
    rw [ofInt_nat, ofInt_nat, BitVec.toNat_and, BitVec.toNat_ofNat, BitVec.toNat_ofNat, Nat.mod_eq_of_lt (by omega), Nat.mod_eq_of_lt (by omega)]
  rw [bitsI_eq]
  show IntKind.wrap .i64 (((BitVec.ofInt 64 (a : Int) &&& BitVec.ofInt 64 (b : Int)).toNat : Nat) : Int) = _
  rw [e, i64_in _ ⟨by omega, by omega⟩]
theorem ones {k x : Nat} (hx : x < 18446744073709551616) : math_bits_OnesCount64 k (x : Int) = some ((pc 64 x : Nat) : Int) := by
  obtain ⟨d0, d1, d2, d3, d4, d5, d6, d7, e, b0, b1, b2, b3, b4, b5, b6, b7, hs⟩ := ones_eq x hx
  unfold math_bits_OnesCount64
  have m1 : msk 0x55 8 = 6148914691236517205 := rfl
  have m2 : msk 0x33 8 = 3689348814741910323 := rfl
  have m3 : msk 0x0f 8 = 1085102592571150095 := rfl
  have q1 : IntKind.wrap .u64 ((bitsI .and .u64 (shrI .u64 (x : Int) 1) 6148914691236517205) + (bitsI .and .u64 (x : Int) 6148914691236517205)) = ((S1 8 x : Nat) : Int) ∧ S1 8 x ≤ 12297829382473034410 := by
    have l1 : (x / 2) &&& 6148914691236517205 ≤ 6148914691236517205 := Nat.and_le_right
    have l2 : x &&& 6148914691236517205 ≤ 6148914691236517205 := Nat.and_le_right
    have s1 : shrI .u64 (x : Int) 1 = ((x / 2 : Nat) : Int) := shr_lit x 1 (by omega)
    rw [s1]
    have a1 : bitsI .and .u64 ((x / 2 : Nat) : Int) 6148914691236517205 = (((x / 2) &&& 6148914691236517205 : Nat) : Int) := and64 (by omega) (by decide)
    have a2 : bitsI .and .u64 (x : Int) 6148914691236517205 = ((x &&& 6148914691236517205 : Nat) : Int) := and64 hx (by decide)
    rw [a1, a2, u64_in _ ⟨by omega, by omega⟩]
    unfold S1
    rw [m1]
    exact ⟨by omega, by omega⟩
  obtain ⟨q1, l1⟩ := q1
  simp only [q1]
  generalize S1 8 x = x1 at e l1 ⊢
  have q2 : IntKind.wrap .u64 ((bitsI .and .u64 (shrI .u64 (x1 : Int) 2) 3689348814741910323) + (bitsI .and .u64 (x1 : Int) 3689348814741910323)) = ((S2 8 x1 : Nat) : Int) ∧ S2 8 x1 ≤ 7378697629483820646 := by
    have l1 : (x1 / 4) &&& 3689348814741910323 ≤ 3689348814741910323 := Nat.and_le_right
    have l2 : x1 &&& 3689348814741910323 ≤ 3689348814741910323 := Nat.and_le_right
    have s1 : shrI .u64 (x1 : Int) 2 = ((x1 / 4 : Nat) : Int) := shr_lit x1 2 (by omega)
    rw [s1]
    have a1 : bitsI .and .u64 ((x1 / 4 : Nat) : Int) 3689348814741910323 = (((x1 / 4) &&& 3689348814741910323 : Nat) : Int) := and64 (by omega) (by decide)
    have a2 : bitsI .and .u64 (x1 : Int) 3689348814741910323 = ((x1 &&& 3689348814741910323 : Nat) : Int) := and64 (by omega) (by decide)
    rw [a1, a2, u64_in _ ⟨by omega, by omega⟩]
    unfold S2
    rw [m2]
    exact ⟨by omega, by omega⟩
  obtain ⟨q2, l2⟩ := q2
  simp only [q2]
  generalize S2 8 x1 = x2 at e l2 ⊢
  have q3 : bitsI .and .u64 (IntKind.wrap .u64 ((shrI .u64 (x2 : Int) 4) + (x2 : Int))) 1085102592571150095 = ((S3 8 x2 : Nat) : Int) := by
    have s1 : shrI .u64 (x2 : Int) 4 = ((x2 / 16 : Nat) : Int) := shr_lit x2 4 (by omega)
    rw [s1, u64_in _ ⟨by omega, by omega⟩]
    unfold S3
    rw [m3]
    exact and64 (a := x2 / 16 + x2) (by omega) (by decide)
  simp only [q3]
  rw [e]
  generalize hv : d0 + 256 * (d1 + 256 * (d2 + 256 * (d3 + 256 * (d4 + 256 * (d5 + 256 * (d6 + 256 * d7)))))) = v
  obtain ⟨k1, k2, k3, k4⟩ := fold8 b0 b1 b2 b3 b4 b5 b6 b7 hv rfl rfl
  clear hv b0 b1 b2 b3 b4 b5 b6 b7 e q1 q2 q3 l1 l2 hx
  have s8 : shrI .u64 (v : Int) 8 = ((v / 256 : Nat) : Int) := shr_lit v 8 (by omega)
  have w8 : IntKind.wrap .u64 ((v : Int) + shrI .u64 (v : Int) 8) = ((v + v / 256 : Nat) : Int) := by rw [s8, u64_in _ ⟨by omega, by omega⟩]; omega
  simp only [w8]
  generalize v + v / 256 = v2 at *
  have s16 : shrI .u64 (v2 : Int) 16 = ((v2 / 65536 : Nat) : Int) := shr_lit v2 16 (by omega)
  have w16 : IntKind.wrap .u64 ((v2 : Int) + shrI .u64 (v2 : Int) 16) = ((v2 + v2 / 65536 : Nat) : Int) := by rw [s16, u64_in _ ⟨by omega, by omega⟩]; omega
  simp only [w16]
  generalize v2 + v2 / 65536 = v3 at *
  have s32 : shrI .u64 (v3 : Int) 32 = ((v3 / 4294967296 : Nat) : Int) := shr_lit v3 32 (by omega)
  have w32 : IntKind.wrap .i64 (IntKind.wrap .u64 ((v3 : Int) + shrI .u64 (v3 : Int) 32)) = ((v3 + v3 / 4294967296 : Nat) : Int) := by
    rw [s32, u64_in ((v3 : Int) + ((v3 / 4294967296 : Nat) : Int)) ⟨by omega, by omega⟩, i64_in _ ⟨by omega, by omega⟩]; omega
  rw [w32]
  have fin : bitsI .and .i64 ((v3 + v3 / 4294967296 : Nat) : Int) 127 = (((v3 + v3 / 4294967296) &&& 127 : Nat) : Int) := and_i64 (b := 127) (by omega) (by decide)
  rw [fin, show (127 : Nat) = 2 ^ 7 - 1 from rfl, Nat.and_two_pow_sub_one_eq_mod]
  congr 2
  rw [← hs]
  exact k4
theorem tz_tab : ∀ t : Nat, t < 64 → (2 ^ t * 285870213051353865 % 18446744073709551616) / 288230376151711744 < 64 ∧
    ([0, 1, 56, 2, 57, 49, 28, 3, 61, 58, 42, 50, 38, 29, 17, 4, 62, 47, 59, 36, 45, 43, 51, 22, 53, 39, 33, 30, 24, 18, 12, 5, 63, 55, 48, 27, 60, 41, 37, 16, 46, 35, 44, 21, 52, 32, 23, 11, 54, 26, 40, 15, 34, 20, 31, 10, 25, 14, 19, 9, 13, 8, 7, 6] : List Int).getD ((2 ^ t * 285870213051353865 % 18446744073709551616) / 288230376151711744) 0 = (t : Int) := by decide +kernel
theorem tz {k x t : Nat} (hx : x < 18446744073709551616) (h0 : x ≠ 0) (ht : t < 64) (hl : x &&& (2 ^ 64 - x) = 2 ^ t) : math_bits_TrailingZeros64 k (x : Int) = some (t : Int) := by
  unfold math_bits_TrailingZeros64
  have c : ¬ ((x : Int) = 0) := by omega
  obtain ⟨t1, t2⟩ := tz_tab t ht
  rw [show (2 : Nat) ^ 64 = 18446744073709551616 from rfl] at hl
  generalize 2 ^ t = p at hl t1 t2
  have hn : IntKind.wrap .u64 (0 - (x : Int)) = ((18446744073709551616 - x : Nat) : Int) := by
    rw [IntKind.wrap_u64]
    omega
  have ha : bitsI .and .u64 (x : Int) ((18446744073709551616 - x : Nat) : Int) = ((p : Nat) : Int) := by
    rw [and64 hx (by omega), hl]
  have hm : IntKind.wrap .u64 ((p : Int) * 285870213051353865) = ((p * 285870213051353865 % 18446744073709551616 : Nat) : Int) := by
    have e : ((p : Int) * 285870213051353865) = ((p * 285870213051353865 : Nat) : Int) := by rw [Int.natCast_mul]; rfl
    rw [IntKind.wrap_u64, e]
    generalize p * 285870213051353865 = y
    omega
  have hs : shrI .u64 ((p * 285870213051353865 % 18446744073709551616 : Nat) : Int) 58 = (((p * 285870213051353865 % 18446744073709551616) / 288230376151711744 : Nat) : Int) := shr_lit _ 58 (by decide)
  simp only [c, decide_false, cond_false, hn, ha, hm, hs]
  generalize (p * 285870213051353865 % 18446744073709551616) / 288230376151711744 = i at t1 t2 ⊢
  have c1 : decide ((0 : Int) ≤ (i : Int)) = true := by simp
  have c2 : decide ((i : Int) < 64) = true := by simp; omega
  have c3 : Nat.beq 64 (List.length deBruijn64) = true := by rw [deBruijn_eq]; rfl
  rw [c3, c1, c2, Int.toNat_natCast, deBruijn_eq, t2, i64_in _ ⟨by omega, by omega⟩]
  rfl
end Go.Rx.Tryd

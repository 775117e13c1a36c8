/- Bits of words, in plain Lean: the bits that are set, how many, the lowest one. -/
import Derived.Test.YtlncjconodmjjaaDoorCore
import Derived.IntWalk
import Derived.Laws.Bits64
namespace Go.Rx.Plain
set_option linter.unusedVariables false
set_option linter.unusedSimpArgs false
theorem land_split {k a b c d : Nat} (ha : a < 2 ^ k) (hc : c < 2 ^ k) : (a + 2 ^ k * b) &&& (c + 2 ^ k * d) = (a &&& c) + 2 ^ k * (b &&& d) := by
  apply Nat.eq_of_testBit_eq
  intro i
  rw [Nat.add_comm a, Nat.add_comm c, Nat.add_comm (a &&& c), Nat.testBit_and, Nat.testBit_two_pow_mul_add b ha, Nat.testBit_two_pow_mul_add d hc, Nat.testBit_two_pow_mul_add _ (Nat.lt_of_le_of_lt Nat.and_le_left ha)]
  split <;> simp
/-- The set bits among the n lowest ones, rising. -/
def bitsL : Nat → Nat → List Nat
  | 0, _ => []
  | n + 1, x => (if x % 2 = 1 then [0] else []) ++ (bitsL n (x / 2)).map (· + 1)
def pc (n x : Nat) : Nat := (bitsL n x).length
theorem pc_succ (n x : Nat) : pc (n + 1) x = x % 2 + pc n (x / 2) := by
  unfold pc
  simp only [bitsL, List.length_append, List.length_map]
  split
  · rename_i h; simp [h]
  · have : x % 2 = 0 := by omega
    simp [this]
theorem pc_le : ∀ n x, pc n x ≤ n
  | 0, _ => by simp [pc, bitsL]
  | n + 1, x => by
    have := pc_le n (x / 2)
    rw [pc_succ]
    omega
theorem pc_add (n : Nat) : ∀ (m x : Nat), pc (m + n) x = pc m x + pc n (x / 2 ^ m)
  | 0, x => by simp [pc, bitsL]
  | m + 1, x => by
    rw [show m + 1 + n = (m + n) + 1 by omega, pc_succ, pc_add n m, pc_succ, Nat.div_div_eq_div_mul, Nat.pow_succ, Nat.mul_comm 2]
    omega
theorem pc_mod : ∀ (n x : Nat), pc n (x % 2 ^ n) = pc n x
  | 0, _ => rfl
  | n + 1, x => by
    rw [pc_succ, pc_succ]
    have e1 : x % 2 ^ (n + 1) % 2 = x % 2 := Nat.mod_mod_of_dvd _ ⟨2 ^ n, by rw [Nat.pow_succ, Nat.mul_comm]⟩
    have e2 : x % 2 ^ (n + 1) / 2 = (x / 2) % 2 ^ n := by rw [Nat.pow_succ, Nat.mul_comm, Nat.mod_mul_right_div_self]
    rw [e1, e2, pc_mod n]
/-! ### How many: the well-known sum by parts, byte for byte -/
def msk (c : Nat) : Nat → Nat
  | 0 => 0
  | n + 1 => c + 256 * msk c n
def S1 (n x : Nat) : Nat := ((x / 2) &&& msk 0x55 n) + (x &&& msk 0x55 n)
def S2 (n x : Nat) : Nat := ((x / 4) &&& msk 0x33 n) + (x &&& msk 0x33 n)
def S3 (n x : Nat) : Nat := (x / 16 + x) &&& msk 0x0f n
def h1 (b : Nat) : Nat := ((b / 2) &&& 0x55) + (b &&& 0x55)
def h2 (b : Nat) : Nat := ((b / 4) &&& 0x33) + (b &&& 0x33)
theorem split256 {a b c d : Nat} (ha : a < 256) (hc : c < 256) : (a + 256 * b) &&& (c + 256 * d) = (a &&& c) + 256 * (b &&& d) := land_split (k := 8) ha hc
theorem dec1 : ∀ b, b < 256 → ∀ e, e < 2 → (b / 2 + 128 * e) &&& 0x55 = (b / 2) &&& 0x55 := by decide +kernel
theorem dec2 : ∀ b, b < 256 → ∀ e, e < 4 → (b / 4 + 64 * e) &&& 0x33 = (b / 4) &&& 0x33 := by decide +kernel
theorem dec3 : ∀ b, b < 256 → h1 b < 256 ∧ h2 (h1 b) < 256 ∧ h2 (h1 b) % 16 ≤ 4 ∧ h2 (h1 b) / 16 ≤ 4 ∧ (h2 (h1 b) / 16 + h2 (h1 b)) % 16 = pc 8 b ∧ h2 b < 256 := by decide +kernel
theorem S1_succ (n x : Nat) : S1 (n + 1) x = h1 (x % 256) + 256 * S1 n (x / 256) := by
  have em : msk 0x55 (n + 1) = 0x55 + 256 * msk 0x55 n := rfl
  unfold S1 h1
  rw [em]
  have e1 : x / 2 = (x % 256 / 2 + 128 * (x / 256 % 2)) + 256 * (x / 256 / 2) := by omega
  have e2 : x = x % 256 + 256 * (x / 256) := by omega
  have l1 : x % 256 / 2 + 128 * (x / 256 % 2) < 256 := by omega
  have l2 : x % 256 < 256 := by omega
  rw [e1, split256 l1 (by omega), dec1 _ l2 _ (by omega)]
  conv => lhs; rhs; lhs; rw [e2]
  rw [split256 l2 (by omega)]
  omega
theorem S2_succ (n x : Nat) : S2 (n + 1) x = h2 (x % 256) + 256 * S2 n (x / 256) := by
  have em : msk 0x33 (n + 1) = 0x33 + 256 * msk 0x33 n := rfl
  unfold S2 h2
  rw [em]
  have e1 : x / 4 = (x % 256 / 4 + 64 * (x / 256 % 4)) + 256 * (x / 256 / 4) := by omega
  have e2 : x = x % 256 + 256 * (x / 256) := by omega
  have l1 : x % 256 / 4 + 64 * (x / 256 % 4) < 256 := by omega
  have l2 : x % 256 < 256 := by omega
  rw [e1, split256 l1 (by omega), dec2 _ l2 _ (by omega)]
  conv => lhs; rhs; lhs; rw [e2]
  rw [split256 l2 (by omega)]
  omega
theorem S3_succ (n x : Nat) (h : x % 16 ≤ 4) (h2 : x % 256 / 16 ≤ 4) (h3 : x / 256 % 16 ≤ 4) : S3 (n + 1) x = (x % 256 / 16 + x % 256) % 16 + 256 * S3 n (x / 256) := by
  have em : msk 0x0f (n + 1) = 0x0f + 256 * msk 0x0f n := rfl
  unfold S3
  rw [em]
  have e1 : x / 16 + x = (x % 256 / 16 + 16 * (x / 256 % 16) + x % 256) + 256 * (x / 256 / 16 + x / 256) := by omega
  have l1 : x % 256 / 16 + 16 * (x / 256 % 16) + x % 256 < 256 := by omega
  rw [e1, split256 l1 (by omega)]
  have e3 : (x % 256 / 16 + 16 * (x / 256 % 16) + x % 256) &&& 15 = (x % 256 / 16 + x % 256) % 16 := by
    rw [show (15 : Nat) = 2 ^ 4 - 1 from rfl, Nat.and_two_pow_sub_one_eq_mod]
    omega
  rw [e3]
theorem S21 (n x : Nat) : S2 (n + 1) (S1 (n + 1) x) % 256 = h2 (h1 (x % 256)) ∧ S2 (n + 1) (S1 (n + 1) x) / 256 = S2 n (S1 n (x / 256)) := by
  have d := dec3 (x % 256) (by omega)
  rw [S1_succ, S2_succ]
  have e1 : (h1 (x % 256) + 256 * S1 n (x / 256)) % 256 = h1 (x % 256) := by omega
  have e2 : (h1 (x % 256) + 256 * S1 n (x / 256)) / 256 = S1 n (x / 256) := by omega
  rw [e1, e2]
  omega
theorem S21_low : ∀ n x, S2 n (S1 n x) % 16 ≤ 4
  | 0, x => by simp [S2, msk]
  | n + 1, x => by
    have := (S21 n x).1
    have d := dec3 (x % 256) (by omega)
    omega
theorem S321 (n x : Nat) : S3 (n + 1) (S2 (n + 1) (S1 (n + 1) x)) = pc 8 (x % 256) + 256 * S3 n (S2 n (S1 n (x / 256))) := by
  have d := dec3 (x % 256) (by omega)
  obtain ⟨q1, q2⟩ := S21 n x
  rw [S3_succ _ _ (S21_low _ _) (by rw [q1]; omega) (by rw [q2]; exact S21_low _ _), q1, q2]
  omega
theorem S3_zero (x : Nat) : S3 0 x = 0 := by simp [S3, msk]
theorem ones_eq (x : Nat) (hx : x < 2 ^ 64) : ∃ d0 d1 d2 d3 d4 d5 d6 d7 : Nat, S3 8 (S2 8 (S1 8 x)) = d0 + 256 * (d1 + 256 * (d2 + 256 * (d3 + 256 * (d4 + 256 * (d5 + 256 * (d6 + 256 * d7)))))) ∧
    d0 ≤ 8 ∧ d1 ≤ 8 ∧ d2 ≤ 8 ∧ d3 ≤ 8 ∧ d4 ≤ 8 ∧ d5 ≤ 8 ∧ d6 ≤ 8 ∧ d7 ≤ 8 ∧ d0 + d1 + d2 + d3 + d4 + d5 + d6 + d7 = pc 64 x := by
  refine ⟨pc 8 (x % 256), pc 8 (x / 256 % 256), pc 8 (x / 256 / 256 % 256), pc 8 (x / 256 / 256 / 256 % 256), pc 8 (x / 256 / 256 / 256 / 256 % 256), pc 8 (x / 256 / 256 / 256 / 256 / 256 % 256),
    pc 8 (x / 256 / 256 / 256 / 256 / 256 / 256 % 256), pc 8 (x / 256 / 256 / 256 / 256 / 256 / 256 / 256 % 256), ?_, pc_le _ _, pc_le _ _, pc_le _ _, pc_le _ _, pc_le _ _, pc_le _ _, pc_le _ _, pc_le _ _, ?_⟩
  · rw [S321, S321, S321, S321, S321, S321, S321, S321, S3_zero, Nat.mul_zero, Nat.add_zero]
  · have m : ∀ y, pc 8 (y % 256) = pc 8 y := pc_mod 8
    rw [m, m, m, m, m, m, m, m]
    have s : ∀ n y, pc (8 + n) y = pc 8 y + pc n (y / 256) := fun n y => pc_add n 8 y
    rw [show (64 : Nat) = 8 + (8 + (8 + (8 + (8 + (8 + (8 + 8)))))) from rfl, s, s, s, s, s, s, s]
    omega
theorem fold8 {d0 d1 d2 d3 d4 d5 d6 d7 v v2 v3 : Nat} (b0 : d0 ≤ 8) (b1 : d1 ≤ 8) (b2 : d2 ≤ 8) (b3 : d3 ≤ 8) (b4 : d4 ≤ 8) (b5 : d5 ≤ 8) (b6 : d6 ≤ 8) (b7 : d7 ≤ 8)
    (hv : d0 + 256 * (d1 + 256 * (d2 + 256 * (d3 + 256 * (d4 + 256 * (d5 + 256 * (d6 + 256 * d7)))))) = v) (hv2 : v + v / 256 = v2) (hv3 : v2 + v2 / 65536 = v3) :
    v < 1152921504606846976 ∧ v2 < 2305843009213693952 ∧ v3 < 4611686018427387904 ∧ (v3 + v3 / 4294967296) % 128 = d0 + d1 + d2 + d3 + d4 + d5 + d6 + d7 := by
  have k1 : v < 1152921504606846976 := by clear hv2 hv3; omega
  have k2 : v2 < 2305843009213693952 := by clear hv hv3; omega
  have k3 : v3 < 4611686018427387904 := by clear hv hv2; omega
  refine ⟨k1, k2, k3, ?_⟩
  clear k1 k2 k3
  have hA : v / 256 = d1 + 256 * (d2 + 256 * (d3 + 256 * (d4 + 256 * (d5 + 256 * (d6 + 256 * d7))))) := by clear hv2 hv3; omega
  rw [hA] at hv2
  have hB0 : v2 = (d0 + d1 + 256 * (d1 + d2)) + 65536 * (d2 + d3 + 256 * (d3 + d4) + 65536 * (d4 + d5 + 256 * (d5 + d6) + 65536 * (d6 + d7 + 256 * d7))) := by clear hA hv3; omega
  have hB : v2 / 65536 = d2 + d3 + 256 * (d3 + d4) + 65536 * (d4 + d5 + 256 * (d5 + d6) + 65536 * (d6 + d7 + 256 * d7)) := by
    rw [hB0]
    generalize d2 + d3 + 256 * (d3 + d4) + 65536 * (d4 + d5 + 256 * (d5 + d6) + 65536 * (d6 + d7 + 256 * d7)) = z
    clear hv hA hv2 hv3 hB0
    omega
  rw [hB] at hv3
  have hC0 : v3 = (d0 + d1 + d2 + d3 + 256 * (d1 + d2 + d3 + d4) + 65536 * (d2 + d3 + d4 + d5 + 256 * (d3 + d4 + d5 + d6))) + 4294967296 * (d4 + d5 + d6 + d7 + 256 * (d5 + d6 + d7) + 65536 * (d6 + d7 + 256 * d7)) := by clear hv hA hv2 hB; omega
  have hC : v3 / 4294967296 = d4 + d5 + d6 + d7 + 256 * (d5 + d6 + d7) + 65536 * (d6 + d7 + 256 * d7) := by
    rw [hC0]
    generalize d4 + d5 + d6 + d7 + 256 * (d5 + d6 + d7) + 65536 * (d6 + d7 + 256 * d7) = z
    clear hv hA hv2 hv3 hB0 hB hC0
    omega
  rw [hC, hC0]
  clear hv hA hv2 hv3 hB0 hB hC0 hC
  have e : (d0 + d1 + d2 + d3 + 256 * (d1 + d2 + d3 + d4) + 65536 * (d2 + d3 + d4 + d5 + 256 * (d3 + d4 + d5 + d6))) + 4294967296 * (d4 + d5 + d6 + d7 + 256 * (d5 + d6 + d7) + 65536 * (d6 + d7 + 256 * d7)) + (d4 + d5 + d6 + d7 + 256 * (d5 + d6 + d7) + 65536 * (d6 + d7 + 256 * d7)) =
      (d0 + d1 + d2 + d3 + d4 + d5 + d6 + d7) + 128 * (2 * (d1 + d2 + d3 + d4) + 512 * (d2 + d3 + d4 + d5 + 256 * (d3 + d4 + d5 + d6)) + 33554432 * (d4 + d5 + d6 + d7 + 256 * (d5 + d6 + d7) + 65536 * (d6 + d7 + 256 * d7)) + 2 * (d5 + d6 + d7) + 512 * (d6 + d7 + 256 * d7)) := by omega
  rw [e, Nat.add_mul_mod_self_left, Nat.mod_eq_of_lt (by omega)]
/-! ### The lowest bit -/
theorem even_land (x y : Nat) : (2 * x) &&& (2 * y) = 2 * (x &&& y) := by
  have := land_split (k := 1) (a := 0) (b := x) (c := 0) (d := y) (by omega) (by omega)
  simpa using this
theorem odd_land (x y : Nat) : (2 * x + 1) &&& (2 * y + 1) = 2 * (x &&& y) + 1 := by
  have := land_split (k := 1) (a := 1) (b := x) (c := 1) (d := y) (by omega) (by omega)
  simp at this
  rw [Nat.add_comm (2 * x), Nat.add_comm (2 * y), this]
  omega
theorem odd_even_land (x y : Nat) : (2 * x + 1) &&& (2 * y) = 2 * (x &&& y) := by
  have := land_split (k := 1) (a := 1) (b := x) (c := 0) (d := y) (by omega) (by omega)
  simp at this
  rw [Nat.add_comm (2 * x), this]
theorem land_not : ∀ (n x : Nat), x < 2 ^ n → x &&& (2 ^ n - 1 - x) = 0
  | 0, x, h => by
    have : x = 0 := by simpa using h
    subst this
    rfl
  | n + 1, x, h => by
    have ih := land_not n (x / 2) (by rw [Nat.pow_succ] at h; omega)
    have hp : 2 ^ (n + 1) = 2 * 2 ^ n := by rw [Nat.pow_succ, Nat.mul_comm]
    have h0 : 0 < 2 ^ n := Nat.two_pow_pos n
    rcases Nat.mod_two_eq_zero_or_one x with q | q
    · have e1 : x = 2 * (x / 2) := by omega
      have e2 : 2 ^ (n + 1) - 1 - x = 2 * (2 ^ n - 1 - x / 2) + 1 := by omega
      rw [e2, Nat.and_comm]
      conv => lhs; rhs; rw [e1]
      rw [odd_even_land, Nat.and_comm, ih]
    · have e1 : x = 2 * (x / 2) + 1 := by omega
      have e2 : 2 ^ (n + 1) - 1 - x = 2 * (2 ^ n - 1 - x / 2) := by omega
      rw [e2]
      conv => lhs; lhs; rw [e1]
      rw [odd_even_land, ih]
/-- A number that is not 0 has a lowest bit; without it, the other ones are there still. -/
theorem low_bit : ∀ (n x : Nat), x < 2 ^ n → x ≠ 0 → ∃ t, t < n ∧ x &&& (2 ^ n - x) = 2 ^ t ∧ bitsL n x = t :: bitsL n (x &&& (x - 1)) ∧ x &&& (x - 1) < x
  | 0, x, h, h0 => by simp at h; omega
  | n + 1, x, h, h0 => by
    have hp : 2 ^ (n + 1) = 2 * 2 ^ n := by rw [Nat.pow_succ, Nat.mul_comm]
    have hq : 0 < 2 ^ n := Nat.two_pow_pos n
    rcases Nat.mod_two_eq_zero_or_one x with q | q
    · have e1 : x = 2 * (x / 2) := by omega
      obtain ⟨t, t1, t2, t3, t4⟩ := low_bit n (x / 2) (by omega) (by omega)
      have e2 : 2 ^ (n + 1) - x = 2 * (2 ^ n - x / 2) := by omega
      have e3 : x &&& (x - 1) = 2 * (x / 2 &&& (x / 2 - 1)) := by
        have : x - 1 = 2 * (x / 2 - 1) + 1 := by omega
        rw [this, Nat.and_comm]
        conv => lhs; rhs; rw [e1]
        rw [odd_even_land, Nat.and_comm]
      refine ⟨t + 1, by omega, ?_, ?_, by rw [e3]; omega⟩
      · rw [e2]
        conv => lhs; lhs; rw [e1]
        rw [even_land, t2, Nat.pow_succ, Nat.mul_comm]
      · rw [e3]
        simp only [bitsL]
        have m1 : 2 * (x / 2 &&& (x / 2 - 1)) % 2 = 0 := by omega
        have m2 : 2 * (x / 2 &&& (x / 2 - 1)) / 2 = (x / 2 &&& (x / 2 - 1)) := by omega
        rw [m1, m2, q, t3]
        simp
    · have e1 : x = 2 * (x / 2) + 1 := by omega
      have e3 : x &&& (x - 1) = 2 * (x / 2) := by
        have : x - 1 = 2 * (x / 2) := by omega
        rw [this]
        conv => lhs; lhs; rw [e1]
        rw [odd_even_land, Nat.and_self]
      refine ⟨0, by omega, ?_, ?_, by rw [e3]; omega⟩
      · have : 2 ^ (n + 1) - x = 2 * (2 ^ n - 1 - x / 2) + 1 := by omega
        rw [this]
        conv => lhs; lhs; rw [e1]
        rw [odd_land, land_not n (x / 2) (by omega)]
      · rw [e3]
        simp only [bitsL]
        have m1 : 2 * (x / 2) % 2 = 0 := by omega
        have m2 : 2 * (x / 2) / 2 = x / 2 := by omega
        rw [m1, m2, q]
        simp
theorem bitsL_zero : ∀ n, bitsL n 0 = []
  | 0 => rfl
  | n + 1 => by simp [bitsL, bitsL_zero n]
theorem bitsL_eq : ∀ (n x : Nat), bitsL n x = (List.range n).filter fun j => x.testBit j
  | 0, x => rfl
  | n + 1, x => by
    rw [bitsL, bitsL_eq n, List.range_succ_eq_map, List.filter_cons, List.filter_map]
    have e : ((fun j => x.testBit j) ∘ Nat.succ) = fun j => (x / 2).testBit j := by
      funext j
      simp [Nat.testBit_succ]
    rw [e]
    have e2 : x.testBit 0 = decide (x % 2 = 1) := Nat.testBit_zero x
    rw [e2]
    split
    · rename_i h; simp [h]
    · rename_i h; simp [h]
/-! ### Operations on ints that are numbers below 2^64 -/
theorem ofInt_nat (n : Nat) : BitVec.ofInt 64 (n : Int) = BitVec.ofNat 64 n := by
  apply BitVec.eq_of_toNat_eq
  simp
theorem and64 {a b : Nat} (ha : a < 18446744073709551616) (hb : b < 18446744073709551616) : bitsI .and .u64 (a : Int) (b : Int) = ((a &&& b : Nat) : Int) := by
  have h := Nat.lt_of_le_of_lt (Nat.and_le_left (n := a) (m := b)) ha
  have e : (BitVec.ofInt 64 (a : Int) &&& BitVec.ofInt 64 (b : Int)).toNat = a &&& b := by
    rw [ofInt_nat, ofInt_nat, BitVec.toNat_and, BitVec.toNat_ofNat, BitVec.toNat_ofNat, Nat.mod_eq_of_lt ha, Nat.mod_eq_of_lt hb]
  rw [bitsI_eq]
  show IntKind.wrap .u64 (((BitVec.ofInt 64 (a : Int) &&& BitVec.ofInt 64 (b : Int)).toNat : Nat) : Int) = _
  rw [e, IntWalk.u64_in _ ⟨by omega, by omega⟩]
theorem or_lt64 {a b : Nat} (ha : a < 18446744073709551616) (hb : b < 18446744073709551616) : a ||| b < 18446744073709551616 := Nat.or_lt_two_pow (n := 64) ha hb
theorem xor_lt64 {a b : Nat} (ha : a < 18446744073709551616) (hb : b < 18446744073709551616) : a ^^^ b < 18446744073709551616 := Nat.xor_lt_two_pow (n := 64) ha hb
theorem or64 {a b : Nat} (ha : a < 18446744073709551616) (hb : b < 18446744073709551616) : bitsI .or .u64 (a : Int) (b : Int) = ((a ||| b : Nat) : Int) := by
  have h := or_lt64 ha hb
  have e : (BitVec.ofInt 64 (a : Int) ||| BitVec.ofInt 64 (b : Int)).toNat = a ||| b := by
    rw [ofInt_nat, ofInt_nat, BitVec.toNat_or, BitVec.toNat_ofNat, BitVec.toNat_ofNat, Nat.mod_eq_of_lt ha, Nat.mod_eq_of_lt hb]
  rw [bitsI_eq]
  show IntKind.wrap .u64 (((BitVec.ofInt 64 (a : Int) ||| BitVec.ofInt 64 (b : Int)).toNat : Nat) : Int) = _
  rw [e, IntWalk.u64_in _ ⟨by omega, by omega⟩]
theorem xor64 {a b : Nat} (ha : a < 18446744073709551616) (hb : b < 18446744073709551616) : bitsI .xor .u64 (a : Int) (b : Int) = ((a ^^^ b : Nat) : Int) := by
  have h := xor_lt64 ha hb
  have e : (BitVec.ofInt 64 (a : Int) ^^^ BitVec.ofInt 64 (b : Int)).toNat = a ^^^ b := by
    rw [ofInt_nat, ofInt_nat, BitVec.toNat_xor, BitVec.toNat_ofNat, BitVec.toNat_ofNat, Nat.mod_eq_of_lt ha, Nat.mod_eq_of_lt hb]
  rw [bitsI_eq]
  show IntKind.wrap .u64 (((BitVec.ofInt 64 (a : Int) ^^^ BitVec.ofInt 64 (b : Int)).toNat : Nat) : Int) = _
  rw [e, IntWalk.u64_in _ ⟨by omega, by omega⟩]
def notAnd (a b : Nat) : Nat := a &&& (18446744073709551615 - b)
theorem andNot64 {a b : Nat} (ha : a < 18446744073709551616) (hb : b < 18446744073709551616) : bitsI .andNot .u64 (a : Int) (b : Int) = ((notAnd a b : Nat) : Int) := by
  have h : notAnd a b < 18446744073709551616 := Nat.lt_of_le_of_lt Nat.and_le_left ha
  have e : (BitVec.ofInt 64 (a : Int) &&& ~~~BitVec.ofInt 64 (b : Int)).toNat = notAnd a b := by
    rw [ofInt_nat, ofInt_nat, BitVec.toNat_and, BitVec.toNat_not, BitVec.toNat_ofNat, BitVec.toNat_ofNat, Nat.mod_eq_of_lt ha, Nat.mod_eq_of_lt hb]
    rfl
  rw [bitsI_eq]
  show IntKind.wrap .u64 (((BitVec.ofInt 64 (a : Int) &&& ~~~BitVec.ofInt 64 (b : Int)).toNat : Nat) : Int) = _
  rw [e, IntWalk.u64_in _ ⟨by omega, by omega⟩]
theorem testBit_notAnd {a b : Nat} (hb : b < 18446744073709551616) {j : Nat} (hj : j < 64) : (notAnd a b).testBit j = (a.testBit j && !b.testBit j) := by
  unfold notAnd
  rw [Nat.testBit_and]
  have : (18446744073709551615 - b).testBit j = !b.testBit j := by
    have := Nat.testBit_two_pow_sub_succ (x := b) (n := 64) hb j
    rw [show (2 : Nat) ^ 64 - (b + 1) = 18446744073709551615 - b by omega] at this
    rw [this]
    simp [hj]
  rw [this]
theorem shr64 {a s : Nat} (hs : s ≤ 64) : shrI .u64 (a : Int) (s : Int) = ((a >>> s : Nat) : Int) := by
  unfold shrI
  have : min (Int.toNat (s : Int)) IntKind.u64.bits = s := by
    rw [Int.toNat_natCast]
    exact Nat.min_eq_left hs
  rw [this, Int.fdiv_eq_ediv_of_nonneg _ (Int.pow_nonneg (by omega)), Nat.shiftRight_eq_div_pow]
  simp
theorem shl64 {a s : Nat} (hs : s ≤ 64) : shlI .u64 (a : Int) (s : Int) = ((a <<< s % 18446744073709551616 : Nat) : Int) := by
  unfold shlI
  have : min (Int.toNat (s : Int)) IntKind.u64.bits = s := by
    rw [Int.toNat_natCast]
    exact Nat.min_eq_left hs
  rw [this, IntKind.wrap_u64, Nat.shiftLeft_eq]
  simp
end Go.Rx.Plain

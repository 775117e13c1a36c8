/- ContainerLaws' pure function answers true. -/
import Derived.Test.YtlncjconodmjjaaDoorContE
import Derived.KernelRfl
namespace Go.Rx.Tryd
open Go.Rx.Plain Go.IntWalk
set_option linter.unusedVariables false
set_option linter.unusedSimpArgs false
theorem known_three : isinglasslaw07_known 400000 = some true := by kernel_rfl
theorem R5Same_l0_eq {a b : List Int} (hl : a.length = b.length) (hb : a.length < 1000000) : ∀ (rest : List Int) (k i : Nat), i ≤ a.length → a.drop i = rest → rest.length + 1 ≤ k → isinglassref05_Same_l0 k a b i = some (bif decide (rest = b.drop i) then .inr () else .inl false)
  | [], 0, _, _, _, hk => by simp at hk
  | _ :: _, 0, _, _, _, hk => by simp at hk
  | [], k + 1, i, hi, h, hk => by
    have h0 := drop_nil h hi
    have c : ¬ ((i : Int) < (a.length : Int)) := by omega
    have e : b.drop i = [] := List.drop_eq_nil_of_le (by omega)
    simp only [isinglassref05_Same_l0, c, decide_false, cond_false, e, decide_true, cond_true]
  | x :: s, k + 1, i, hi, h, hk => by
    obtain ⟨h1, h2, h3⟩ := drop_cons h (0 : Int)
    obtain ⟨y, t, hy⟩ : ∃ y t, b.drop i = y :: t := by
      cases e : b.drop i with
      | nil => have := drop_nil e (by omega); omega
      | cons y t => exact ⟨y, t, rfl⟩
    obtain ⟨g1, g2, g3⟩ := drop_cons hy (0 : Int)
    have c : ((i : Int) < (a.length : Int)) := by omega
    have c0 : (0 : Int) ≤ (i : Int) := by omega
    have c1 : ((i : Int) < (b.length : Int)) := by omega
    rw [isinglassref05_Same_l0]
    simp only [c, c0, c1, decide_true, cond_true, Int.toNat_natCast, h2, g2]
    rw [i64_in _ ⟨by omega, by omega⟩, show ((i : Int) + 1) = ((i + 1 : Nat) : Int) by omega]
    rw [R5Same_l0_eq hl hb s k (i + 1) (by omega) h3 (by simp at hk; omega), g3, hy]
    by_cases q : x = y
    · subst q
      simp
    · simp [q]
theorem R5Same_eq {a b : List Int} {k : Nat} (hb : a.length < 1000000) (hk : a.length + 1 ≤ k) : isinglassref05_Same k a b = some (decide (a = b)) := by
  unfold isinglassref05_Same
  by_cases hl : a.length = b.length
  · have c : decide ((a.length : Int) = (b.length : Int)) = true := by simp; omega
    rw [c]
    simp only [Bool.not_true, cond_false]
    rw [show isinglassref05_Same_l0 k a b 0 = isinglassref05_Same_l0 k a b ((0 : Nat) : Int) from rfl, R5Same_l0_eq hl hb a k 0 (by omega) rfl hk, List.drop_zero]
    cases decide (a = b) <;> rfl
  · have c : decide ((a.length : Int) = (b.length : Int)) = false := by simp; omega
    have q : a ≠ b := fun e => hl (by rw [e])
    rw [c]
    simp [q]

/-- Words are told by what they have. -/
theorem wfW_ext {W V : List Nat} (hW : wfW W) (hV : wfW V) (h : ∀ x : Nat, x < 65536 → hasW W x = hasW V x) : W = V := by
  refine List.ext_getElem (by rw [hW.1, hV.1]) fun i h1 h2 => ?_
  have e1 : W[i] = W.getD i 0 := by simp [List.getD, h1]
  have e2 : V[i] = V.getD i 0 := by simp [List.getD, h2]
  have hl := hW.1
  rw [e1, e2]
  refine Nat.eq_of_testBit_eq fun j => ?_
  by_cases q : j < 64
  · have := h (64 * i + j) (by omega)
    unfold hasW at this
    rw [show (64 * i + j) / 64 = i by omega, show (64 * i + j) % 64 = j by omega] at this
    exact this
  · have h64 : (18446744073709551616 : Nat) ≤ 2 ^ j := Nat.pow_le_pow_right (n := 2) (by omega) (show 64 ≤ j by omega)
    rw [Nat.testBit_lt_two_pow (Nat.lt_of_lt_of_le (wfW_get hW.2 i) h64), Nat.testBit_lt_two_pow (Nat.lt_of_lt_of_le (wfW_get hV.2 i) h64)]
theorem same_eq {p q : Cont} {f g : Int → Bool} {k : Nat} (hf : Sup f) (hp : IsC p f) (hq : IsC q g) (kp : max p.1 1 = kF (nF f) (rF f)) (kq : max q.1 1 = kF (nF g) (rF g)) (h : f = g) (hk : 140000 ≤ k) : isinglasslaw07_ContainerLaws_1 k p q = some true := by
  subst h
  obtain ⟨W, w1, w2, w3⟩ := CWords (k := k) hf hp hk
  obtain ⟨V, v1, v2, v3⟩ := CWords (k := k) hf hq hk
  have : V = W := wfW_ext v2 w2 fun x hx => by rw [w3 x hx, v3 x hx]
  subst this
  have hl : (up V).length = 1024 := by rw [up_len, w2.1]
  have s := R5Same_eq (a := up V) (b := up V) (k := k) (by omega) (by omega)
  rw [decide_eq_true rfl] at s
  unfold isinglasslaw07_ContainerLaws_1
  simp only [Kind_eq, Option.bind_some, kp, kq, decide_true, cond_true, w1, v1, s]
theorem not_eq {p : Cont} {f : Int → Bool} {k : Nat} (hf : Sup f) (hp : IsC p f) (hk : 140000 ≤ k) : ∃ q, isinglasslaw07_ContainerLaws_2 k p = some q ∧ IsC q (fx f 0 65536) ∧ max q.1 1 = kF (nF (fx f 0 65536)) (rF (fx f 0 65536)) := by
  obtain ⟨q, e, h⟩ := CFlip (k := k) (lo := 0) (hi := 65536) hf hp hk
  exact ⟨q, by unfold isinglasslaw07_ContainerLaws_2; rw [e]; rfl, h⟩
theorem fx_in (f : Int → Bool) (x : Int) : fx f 0 65536 x = (f x != (decide (0 ≤ x) && decide (x < 65536))) := rfl
theorem kind_of {n : Int} (h0 : 0 ≤ n) (h1 : n < 256) : IntKind.wrap .u8 (1 + n.tmod 3) = 1 ∨ IntKind.wrap .u8 (1 + n.tmod 3) = 2 ∨ IntKind.wrap .u8 (1 + n.tmod 3) = 3 := by
  rw [Int.tmod_eq_emod_of_nonneg h0, u8_in _ ⟨by omega, by omega⟩]
  omega
theorem div_u8 {n d : Int} (h0 : 0 ≤ n) (h1 : n < 256) (hd : d = 3 ∨ d = 9) : 0 ≤ IntKind.wrap .u8 (n.tdiv d) ∧ IntKind.wrap .u8 (n.tdiv d) < 256 := by
  rw [Int.tdiv_eq_ediv_of_nonneg h0]
  rcases hd with rfl | rfl
  · rw [u8_in _ ⟨by omega, by omega⟩]; omega
  · rw [u8_in _ ⟨by omega, by omega⟩]; omega
theorem three {a b c : List Int} {kd : Int} (ha : ∀ y, y ∈ a → 0 ≤ y ∧ y < 65536) (hb : ∀ y, y ∈ b → 0 ≤ y ∧ y < 65536) (hc : ∀ y, y ∈ c → 0 ≤ y ∧ y < 65536) (hk : 0 ≤ kd ∧ kd < 256) : isinglasslaw07_ContainerLaws 400000 a b c kd = some true := by
  unfold isinglasslaw07_ContainerLaws
  by_cases la : (1000 : Int) < (a.length : Int)
  · rw [decide_eq_true la]
    simp only [cond_true, known_three, Option.bind_some]
  rw [decide_eq_false la]
  by_cases lb : (1000 : Int) < (b.length : Int)
  · rw [decide_eq_true lb]
    simp only [cond_true, cond_false, known_three, Option.bind_some]
  rw [decide_eq_false lb]
  by_cases lc : (1000 : Int) < (c.length : Int)
  · rw [decide_eq_true lc]
    simp only [cond_true, cond_false, known_three, Option.bind_some]
  rw [decide_eq_false lc]
  have k1 := kind_of hk.1 hk.2
  have d3 := div_u8 (d := 3) hk.1 hk.2 (.inl rfl)
  have d9 := div_u8 (d := 9) hk.1 hk.2 (.inr rfl)
  have k2 := kind_of d3.1 d3.2
  have k3 := kind_of d9.1 d9.2
  generalize IntKind.wrap .u8 (1 + kd.tmod 3) = q1 at *
  generalize IntKind.wrap .u8 (1 + (IntKind.wrap .u8 (kd.tdiv 3)).tmod 3) = q2 at *
  generalize IntKind.wrap .u8 (1 + (IntKind.wrap .u8 (kd.tdiv 9)).tmod 3) = q3 at *
  obtain ⟨M, x, m1, _, hx⟩ := make3_eq (k := 400000) ha (by omega) (by omega) k1
  obtain ⟨N, y, m2, _, hy⟩ := make3_eq (k := 400000) hb (by omega) (by omega) k2
  obtain ⟨O, z, m3, _, hz⟩ := make3_eq (k := 400000) hc (by omega) (by omega) k3
  have sf := setL_sup ha
  have sg := setL_sup hb
  have sh := setL_sup hc
  generalize setL a = f at *
  generalize setL b = g at *
  generalize setL c = h at *
  -- both goes over either
  obtain ⟨a1, b1, c1, _⟩ := COr (k := 400000) sg sh hy hz (by omega)
  obtain ⟨a2, b2, c2, e2⟩ := CAnd (k := 400000) sf (sup_Or sg sh) hx c1 (by omega)
  obtain ⟨a3, b3, c3, _⟩ := CAnd (k := 400000) sf sg hx hy (by omega)
  obtain ⟨a4, b4, c4, _⟩ := CAnd (k := 400000) sf sh hx hz (by omega)
  obtain ⟨a5, b5, c5, e5⟩ := COr (k := 400000) (sup_And sf sg) (sup_And sf sh) c3 c4 (by omega)
  have s1 := same_eq (k := 400000) (sup_And sf (sup_Or sg sh)) c2 c5 e2 e5 (by funext t; cases f t <;> cases g t <;> cases h t <;> rfl) (by omega)
  -- neither
  obtain ⟨a6, b6, c6, _⟩ := COr (k := 400000) sf sg hx hy (by omega)
  obtain ⟨a7, b7, c7, e7⟩ := not_eq (k := 400000) (sup_Or sf sg) c6 (by omega)
  obtain ⟨a8, b8, c8, _⟩ := not_eq (k := 400000) sf hx (by omega)
  obtain ⟨a9, b9, c9, _⟩ := not_eq (k := 400000) sg hy (by omega)
  obtain ⟨a10, b10, c10, e10⟩ := CAnd (k := 400000) (fx_sup sf 0 65536) (fx_sup sg 0 65536) c8 c9 (by omega)
  have out : ∀ (f : Int → Bool) (t : Int), Sup f → (decide (0 ≤ t) && decide (t < 65536)) = false → f t = false := fun f t hf ht => hf t (by
    rw [Bool.and_eq_false_iff, decide_eq_false_iff_not, decide_eq_false_iff_not] at ht
    omega)
  have s2 := same_eq (k := 400000) (fx_sup (sup_Or sf sg) 0 65536) c7 c10 e7 e10 (by
    funext t
    rw [fx_in, fx_in, fx_in]
    cases q : (decide (0 ≤ t) && decide (t < 65536)) with
    | true => cases f t <;> cases g t <;> rfl
    | false => rw [out f t sf q, out g t sg q]; rfl) (by omega)
  -- just one
  obtain ⟨a11, b11, c11, _⟩ := CXor (k := 400000) sf sg hx hy (by omega)
  obtain ⟨a12, b12, c12, e12⟩ := CXor (k := 400000) (sup_Xor sf sg) sh c11 hz (by omega)
  obtain ⟨a13, b13, c13, _⟩ := CXor (k := 400000) sg sh hy hz (by omega)
  obtain ⟨a14, b14, c14, e14⟩ := CXor (k := 400000) sf (sup_Xor sg sh) hx c13 (by omega)
  have s3 := same_eq (k := 400000) (sup_Xor (sup_Xor sf sg) sh) c12 c14 e12 e14 (by funext t; cases f t <;> cases g t <;> cases h t <;> rfl) (by omega)
  -- the rest
  obtain ⟨a15, b15, c15, e15⟩ := CAndNot (k := 400000) sf sg hx hy (by omega)
  obtain ⟨a16, b16, c16, e16⟩ := CAnd (k := 400000) sf (fx_sup sg 0 65536) hx c9 (by omega)
  have s4 := same_eq (k := 400000) (sup_AndNot sf sg) c15 c16 e15 e16 (by
    funext t
    rw [fx_in]
    cases q : (decide (0 ≤ t) && decide (t < 65536)) with
    | true => cases f t <;> cases g t <;> rfl
    | false => rw [out f t sf q, out g t sg q]; rfl) (by omega)
  simp only [cond_false, m1, m2, m3, Option.bind_some, Bool.not_true, b1, b2, b3, b4, b5, s1, cond_true, b6, b7, b8, b9, b10, s2, b11, b12, b13, b14, s3, b15, b16, s4, known_three]
end Go.Rx.Tryd

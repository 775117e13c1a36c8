/- ContainerPairs' pure function answers true. -/
import Derived.Test.YtlncjconodmjjaaDoorContE
import Derived.KernelRfl
namespace Go.Rx.Tryd
open Go.Rx.Plain Go.IntWalk
set_option linter.unusedVariables false
set_option linter.unusedSimpArgs false
theorem known_pairs : isinglasslaw07_known 400000 = some true := by kernel_rfl
theorem P_l1_step {k i : Nat} {f g : Int → Bool} {M N : List Bool} {es : List Cont} {e : Cont} {x0 : Int} {x1 x2 : List Int} {x3 : List Run} {y0 : Int} {y1 y2 : List Int} {y3 : List Run} {a b : List Int} {x lo hi kd : Int} {p q : Bool}
    (hk : 300000 ≤ k) (hf : Sup f) (hg : Sup g) (hM : IsM M f) (hN : IsM N g) (hi9 : i < 4) (hl : es.length = 4) (he : es.getD i ((0 : Int), ([], ([], []))) = e)
    (h1 : IsC e (fun z => opN ((i + 1 : Nat) : Int) (f z) (g z))) (h2 : max e.1 1 = kF (nF fun z => opN ((i + 1 : Nat) : Int) (f z) (g z)) (rF fun z => opN ((i + 1 : Nat) : Int) (f z) (g z))) :
    isinglasslaw07_ContainerPairs_l1 (k + 1) x0 x1 x2 x3 M y0 y1 y2 y3 N es a b x lo hi kd p q (i : Int) = isinglasslaw07_ContainerPairs_l1 k x0 x1 x2 x3 M y0 y1 y2 y3 N es a b x lo hi kd p q ((i + 1 : Nat) : Int) := by
  have c : (i : Int) < 4 := by omega
  have c0 : (0 : Int) ≤ (i : Int) := by omega
  have b1 : Nat.ble 4 es.length = true := by rw [hl]; rfl
  have e2 : IntKind.wrap .i64 ((i : Int) + 1) = ((i + 1 : Nat) : Int) := by rw [i64_in _ ⟨by omega, by omega⟩]; omega
  generalize hj : i + 1 = j at *
  obtain ⟨R, r1, r2⟩ := Both_eq (n := (j : Int)) (k := k) hM hN (by omega)
  have hs : Sup fun z => opN (j : Int) (f z) (g z) := fun z hz => by
    show opN (j : Int) (f z) (g z) = false
    rw [hf z hz, hg z hz]
    unfold opN
    split
    · rfl
    · split
      · rfl
      · split <;> rfl
  generalize (fun z => opN (j : Int) (f z) (g z)) = w at *
  have k1 := RKind_eq (k := k) hs r2 (by omega)
  have l1 := r2.list (k := k) (by omega)
  have a1 := CArray (k := k) hs h1 (by omega)
  have s1 := SameM w (k := k) (by omega)
  rw [isinglasslaw07_ContainerPairs_l1]
  simp only [c, c0, decide_true, cond_true, e2, r1, Option.bind_some, b1, Int.toNat_natCast, he, Kind_eq, k1, h2, Bool.not_true, cond_false, a1, l1, s1]
theorem P_l1_end {k : Nat} {M N : List Bool} {es : List Cont} {x0 : Int} {x1 x2 : List Int} {x3 : List Run} {y0 : Int} {y1 y2 : List Int} {y3 : List Run} {a b : List Int} {x lo hi kd : Int} {p q : Bool} :
    isinglasslaw07_ContainerPairs_l1 (k + 1) x0 x1 x2 x3 M y0 y1 y2 y3 N es a b x lo hi kd p q ((4 : Nat) : Int) = some (.inr (x0, x1, x2, x3, M, y0, y1, y2, y3, N, a, b, x, lo, hi, kd, p, q)) := by
  rw [isinglasslaw07_ContainerPairs_l1]
  rfl
theorem P_l1_all {k : Nat} {f g : Int → Bool} {M N : List Bool} {e1 e2 e3 e4 : Cont} {x0 : Int} {x1 x2 : List Int} {x3 : List Run} {y0 : Int} {y1 y2 : List Int} {y3 : List Run} {a b : List Int} {x lo hi kd : Int} {p q : Bool}
    (hk : 300010 ≤ k) (hf : Sup f) (hg : Sup g) (hM : IsM M f) (hN : IsM N g)
    (h1 : IsC e1 (fun z => and (f z) (g z)) ∧ max e1.1 1 = kF (nF fun z => and (f z) (g z)) (rF fun z => and (f z) (g z)))
    (h2 : IsC e2 (fun z => or (f z) (g z)) ∧ max e2.1 1 = kF (nF fun z => or (f z) (g z)) (rF fun z => or (f z) (g z)))
    (h3 : IsC e3 (fun z => ann (f z) (g z)) ∧ max e3.1 1 = kF (nF fun z => ann (f z) (g z)) (rF fun z => ann (f z) (g z)))
    (h4 : IsC e4 (fun z => bne (f z) (g z)) ∧ max e4.1 1 = kF (nF fun z => bne (f z) (g z)) (rF fun z => bne (f z) (g z))) :
    isinglasslaw07_ContainerPairs_l1 k x0 x1 x2 x3 M y0 y1 y2 y3 N [e1, e2, e3, e4] a b x lo hi kd p q 0 = some (.inr (x0, x1, x2, x3, M, y0, y1, y2, y3, N, a, b, x, lo, hi, kd, p, q)) := by
  obtain ⟨k, rfl⟩ : ∃ j, k = j + 1 + 1 + 1 + 1 + 1 := ⟨k - 5, by omega⟩
  have w1 : (fun z => opN ((0 + 1 : Nat) : Int) (f z) (g z)) = fun z => and (f z) (g z) := rfl
  have w2 : (fun z => opN ((1 + 1 : Nat) : Int) (f z) (g z)) = fun z => or (f z) (g z) := rfl
  have w3 : (fun z => opN ((2 + 1 : Nat) : Int) (f z) (g z)) = fun z => ann (f z) (g z) := rfl
  have w4 : (fun z => opN ((3 + 1 : Nat) : Int) (f z) (g z)) = fun z => bne (f z) (g z) := rfl
  have t1 := P_l1_step (k := k + 1 + 1 + 1 + 1) (i := 0) (es := [e1, e2, e3, e4]) (x0 := x0) (x1 := x1) (x2 := x2) (x3 := x3) (y0 := y0) (y1 := y1) (y2 := y2) (y3 := y3) (a := a) (b := b) (x := x) (lo := lo) (hi := hi) (kd := kd) (p := p) (q := q) (by omega) hf hg hM hN (by omega) rfl rfl (by rw [w1]; exact h1.1) (by rw [w1]; exact h1.2)
  have t2 := P_l1_step (k := k + 1 + 1 + 1) (i := 1) (es := [e1, e2, e3, e4]) (x0 := x0) (x1 := x1) (x2 := x2) (x3 := x3) (y0 := y0) (y1 := y1) (y2 := y2) (y3 := y3) (a := a) (b := b) (x := x) (lo := lo) (hi := hi) (kd := kd) (p := p) (q := q) (by omega) hf hg hM hN (by omega) rfl rfl (by rw [w2]; exact h2.1) (by rw [w2]; exact h2.2)
  have t3 := P_l1_step (k := k + 1 + 1) (i := 2) (es := [e1, e2, e3, e4]) (x0 := x0) (x1 := x1) (x2 := x2) (x3 := x3) (y0 := y0) (y1 := y1) (y2 := y2) (y3 := y3) (a := a) (b := b) (x := x) (lo := lo) (hi := hi) (kd := kd) (p := p) (q := q) (by omega) hf hg hM hN (by omega) rfl rfl (by rw [w3]; exact h3.1) (by rw [w3]; exact h3.2)
  have t4 := P_l1_step (k := k + 1) (i := 3) (es := [e1, e2, e3, e4]) (x0 := x0) (x1 := x1) (x2 := x2) (x3 := x3) (y0 := y0) (y1 := y1) (y2 := y2) (y3 := y3) (a := a) (b := b) (x := x) (lo := lo) (hi := hi) (kd := kd) (p := p) (q := q) (by omega) hf hg hM hN (by omega) rfl rfl (by rw [w4]; exact h4.1) (by rw [w4]; exact h4.2)
  exact (t1.trans (t2.trans (t3.trans t4))).trans P_l1_end
theorem P_l0_eq {a b : List Int} {x lo hi : Int} {K : Nat} (hK : 300010 ≤ K) (ha : ∀ y, y ∈ a → 0 ≤ y ∧ y < 65536) (hb : ∀ y, y ∈ b → 0 ≤ y ∧ y < 65536) (la : a.length ≤ 3000) (lb : b.length ≤ 3000) (hx : 0 ≤ x ∧ x < 65536) : ∀ (d k i : Nat), 9 - i ≤ d → d + K + 1 ≤ k → i ≤ 9 →
    isinglasslaw07_ContainerPairs_l0 k a b x lo hi (i : Int) = some (.inr ())
  | d, 0, i, _, hk, _ => by omega
  | d, k + 1, i, hd, hk, hi9 => by
    rw [isinglasslaw07_ContainerPairs_l0]
    by_cases c : (i : Int) < 9
    · have n1 : K ≤ k := by omega
      have n2 : 300010 ≤ k := Nat.le_trans hK n1
      have e2 : IntKind.wrap .u8 ((i : Int) + 1) = ((i + 1 : Nat) : Int) := by rw [u8_in _ ⟨by omega, by omega⟩]; omega
      have go := P_l0_eq (x := x) (lo := lo) (hi := hi) hK ha hb la lb hx (d - 1) k (i + 1) (by omega) (by omega) (by omega)
      have ka : IntKind.wrap .u8 (1 + IntKind.wrap .u8 ((i : Int).tdiv 3)) = 1 ∨ IntKind.wrap .u8 (1 + IntKind.wrap .u8 ((i : Int).tdiv 3)) = 2 ∨ IntKind.wrap .u8 (1 + IntKind.wrap .u8 ((i : Int).tdiv 3)) = 3 := by
        have : (i : Int).tdiv 3 = ((i / 3 : Nat) : Int) := by rw [Int.tdiv_eq_ediv_of_nonneg (by omega)]; omega
        rw [this, u8_in ((i / 3 : Nat) : Int) ⟨by omega, by omega⟩, u8_in _ ⟨by omega, by omega⟩]
        omega
      have kb : IntKind.wrap .u8 (1 + (i : Int).tmod 3) = 1 ∨ IntKind.wrap .u8 (1 + (i : Int).tmod 3) = 2 ∨ IntKind.wrap .u8 (1 + (i : Int).tmod 3) = 3 := by
        have : (i : Int).tmod 3 = ((i % 3 : Nat) : Int) := by rw [Int.tmod_eq_emod_of_nonneg (by omega)]; omega
        rw [this, u8_in _ ⟨by omega, by omega⟩]
        omega
      obtain ⟨M, c1, m1, hM, hc⟩ := make3_eq (k := k) ha la (by omega) ka
      obtain ⟨N, d1, m2, hN, hd1⟩ := make3_eq (k := k) hb lb (by omega) kb
      have hf := setL_sup ha
      have hg := setL_sup hb
      generalize setL a = f at *
      generalize setL b = g at *
      generalize IntKind.wrap .u8 (1 + IntKind.wrap .u8 ((i : Int).tdiv 3)) = kda at *
      generalize IntKind.wrap .u8 (1 + (i : Int).tmod 3) = kdb at *
      obtain ⟨p1, q1, r1⟩ := CAnd (k := k) hf hg hc hd1 (by omega)
      obtain ⟨p2, q2, r2⟩ := COr (k := k) hf hg hc hd1 (by omega)
      obtain ⟨p3, q3, r3⟩ := CAndNot (k := k) hf hg hc hd1 (by omega)
      obtain ⟨p4, q4, r4⟩ := CXor (k := k) hf hg hc hd1 (by omega)
      obtain ⟨x0, x1, x2, x3⟩ := c1
      obtain ⟨y0, y1, y2, y3⟩ := d1
      have L := P_l1_all (k := k) (e1 := p1) (e2 := p2) (e3 := p3) (e4 := p4) (x0 := x0) (x1 := x1) (x2 := x2) (x3 := x3) (y0 := y0) (y1 := y1) (y2 := y2) (y3 := y3) (a := a) (b := b) (x := x) (lo := lo) (hi := hi) (kd := (i : Int)) (p := true) (q := false) n2 hf hg hM hN r1 r2 r3 r4
      obtain ⟨u, u1, u2, u3⟩ := CFlip (k := k) (lo := lo) (hi := hi) hf hc (by omega)
      obtain ⟨v, v1, v2, v3⟩ := CWith (k := k) hf hc (by omega) hx
      obtain ⟨T, t1, t2⟩ := RFlip_eq (k := k) (lo := lo) (hi := hi) hM (by omega)
      have hfx := fx_sup hf lo hi
      have tk := RKind_eq (k := k) hfx t2 (by omega)
      have tl := t2.list (k := k) (by omega)
      have ua := CArray (k := k) hfx u2 (by omega)
      have us := SameM (fx f lo hi) (k := k) (by omega)
      have ca := CArray (k := k) hf hc (by omega)
      have ml := hM.list (k := k) (by omega)
      have ms := SameM f (k := k) (by omega)
      have da := CArray (k := k) hg hd1 (by omega)
      have nl := hN.list (k := k) (by omega)
      have ns := SameM g (k := k) (by omega)
      have hS := hM.set hx.1 hx.2
      have hfs : Sup (fun y => f y || decide (y = x)) := fun y hy => by
        show (f y || decide (y = x)) = false
        rw [hf y hy, decide_eq_false (by omega)]
        rfl
      have sk := RKind_eq (k := k) hfs hS (by omega)
      have sl := hS.list (k := k) (by omega)
      have va := CArray (k := k) hfs v2 (by omega)
      have vs := SameM (fun y => f y || decide (y = x)) (k := k) (by omega)
      have b1 : Nat.ble 65536 M.length = true := by rw [hM.len, Nat.ble_eq]; omega
      generalize (fun y => f y || decide (y = x)) = fs at *
      simp only [c, decide_true, cond_true, m1, m2, Option.bind_some, Bool.not_true, cond_false, q1, q2, q3, q4, List.length_replicate, Nat.beq_refl, L, u1, v1, t1, Kind_eq, u3, tk, tl, ua, us, ca, ml, ms, da, nl, ns, hx.1, hx.2, b1, v3, sk, sl, va, vs, e2]
      exact go
    · have : i = 9 := by omega
      simp only [c, decide_false, cond_false]
theorem pairs {a b : List Int} {x lo hi : Int} (ha : ∀ y, y ∈ a → 0 ≤ y ∧ y < 65536) (hb : ∀ y, y ∈ b → 0 ≤ y ∧ y < 65536) (hx : 0 ≤ x ∧ x < 65536) : isinglasslaw07_ContainerPairs 400000 a b x lo hi = some true := by
  unfold isinglasslaw07_ContainerPairs
  by_cases la : (3000 : Int) < (a.length : Int)
  · rw [decide_eq_true la]
    simp only [cond_true, known_pairs, Option.bind_some]
  rw [decide_eq_false la]
  by_cases lb : (3000 : Int) < (b.length : Int)
  · rw [decide_eq_true lb]
    simp only [cond_true, cond_false, known_pairs, Option.bind_some]
  rw [decide_eq_false lb]
  have L := P_l0_eq (x := x) (lo := lo) (hi := hi) (K := 300010) (Nat.le_refl _) ha hb (by omega) (by omega) hx 9 400000 0 (by omega) (by omega) (by omega)
  have L' : isinglasslaw07_ContainerPairs_l0 400000 a b x lo hi 0 = some (.inr ()) := L
  simp only [cond_false, L', Option.bind_some, known_pairs]
end Go.Rx.Tryd

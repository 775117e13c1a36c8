/- Containers, part 2: lists as runs, as words; runs as words; marks. -/
import Derived.Test.YtlncjconodmjjaaDoorContA
namespace Go.Rx.Tryd
open Go.Rx.Plain Go.IntWalk
set_option linter.unusedVariables false
set_option linter.unusedSimpArgs false
theorem listR_ge : ∀ {r : List Run}, wfR r → r.length ≤ (listR r).length
  | [], _ => Nat.le_refl _
  | p :: t, h => by
    have hp := wfR_head h
    have := listR_ge (wfR_tail h)
    simp only [listR, List.length_append, List.length_map, List.length_range, List.length_cons]
    omega
theorem ofinv_len {a : List Int} {i : Nat} {r : List Run} (h : OfInv r (a.take i)) : r.length ≤ i := by
  have := listR_ge h.wf
  rw [h.l, List.length_take] at this
  omega
theorem Of_l0_eq {a : List Int} (hr : ris 0 a) : ∀ (d k i : Nat) (r : List Run), a.length - i ≤ d → d + 1 ≤ k → i ≤ a.length → OfInv r (a.take i) → ∃ r', runs_Of_l0 k r a a (a.length : Int) (i : Int) = some r' ∧ OfInv r' a
  | d, 0, i, r, _, hk, _, _ => by omega
  | d, k + 1, i, r, hd, hk, hi, h => by
    have hl := ris_len hr
    have hrl := ofinv_len h
    rw [runs_Of_l0]
    cases hdr : a.drop i with
    | nil =>
      have := drop_nil hdr hi
      have c : ¬ ((i : Int) < (a.length : Int)) := by omega
      refine ⟨r, by simp only [c, decide_false, cond_false], ?_⟩
      rw [this, List.take_length] at h
      exact h
    | cons x s =>
      obtain ⟨h1, h2, h3⟩ := drop_cons hdr (0 : Int)
      have n1 : a.length - (i + 1) ≤ d - 1 := by omega
      have n2 : d - 1 + 1 ≤ k := by omega
      have n3 : i + 1 ≤ a.length := by omega
      have n4 : i ≠ 0 → 0 < i := by omega
      obtain ⟨s1, s2⟩ := ofstep hr hdr h
      have hx : a[i]? = some x := by rw [getD_some0 h1, h2]
      have hx0 := ris_low hr (List.mem_of_getElem? hx)
      have c : ((i : Int) < (a.length : Int)) := by omega
      have c0 : (0 : Int) ≤ (i : Int) := by omega
      have e2 : IntKind.wrap .i64 ((i : Int) + 1) = ((i + 1 : Nat) : Int) := by rw [i64_in _ ⟨by omega, by omega⟩]; omega
      have g1 : decide ((r.length + 1) * 4 ≤ 140737488355328) = true := by simp; omega
      have g2 : decide (r.length + 1 ≤ 140737488355328) = true := by simp; omega
      simp only [c, c0, decide_true, cond_true, Int.toNat_natCast, h2, e2, List.length_cons, List.length_nil, Nat.zero_add, g1, g2]
      by_cases hi0 : i = 0
      · have q : ¬ ((0 : Int) < (i : Int)) := by omega
        simp only [q, decide_false, cond_false]
        exact Of_l0_eq hr (d - 1) k (i + 1) _ n1 n2 n3 (s2 (.inl hi0))
      · have q : ((0 : Int) < (i : Int)) := by omega
        have e1 : IntKind.wrap .i64 ((i : Int) - 1) = ((i - 1 : Nat) : Int) := by rw [i64_in _ ⟨by omega, by omega⟩]; omega
        have c1 : (0 : Int) ≤ ((i - 1 : Nat) : Int) := by omega
        have c2 : ((i - 1 : Nat) : Int) < (a.length : Int) := by omega
        have hp := getD_some0 (l := a) (i := i - 1) (by omega)
        have hp0 := ris_low hr (List.mem_of_getElem? hp)
        have hlt := ris_lt hr (i - 1) i _ x (by omega) hp hx
        have e3 : IntKind.wrap .u16 (a.getD (i - 1) 0 + 1) = a.getD (i - 1) 0 + 1 := u16_in _ ⟨by omega, by omega⟩
        simp only [q, e1, c1, c2, decide_true, cond_true, Int.toNat_natCast, e3]
        by_cases hq : x = a.getD (i - 1) 0 + 1
        · obtain ⟨r', p, hr', hp2, hnew⟩ := s1 (n4 hi0) hq
          have hpw := h.wf p (by rw [hr']; simp)
          have l1 : r.length = r'.length + 1 := by rw [hr']; simp
          have e4 : IntKind.wrap .i64 ((r.length : Int) - 1) = ((r'.length : Nat) : Int) := by rw [i64_in _ ⟨by omega, by omega⟩]; omega
          have c3 : (0 : Int) ≤ ((r'.length : Nat) : Int) := by omega
          have c4 : ((r'.length : Nat) : Int) < (r.length : Int) := by omega
          have e5 : r.getD r'.length ((0 : Int), (0 : Int)) = p := by rw [hr']; simp [List.getD]
          have e6 : r.set r'.length (p.1, p.2 + 1) = r' ++ [(p.1, p.2 + 1)] := by
            rw [hr', List.set_append_right _ _ (Nat.le_refl _)]
            simp
          have e7 : IntKind.wrap .u16 (p.2 + 1) = p.2 + 1 := u16_in _ ⟨by omega, by omega⟩
          simp only [hq, decide_true, cond_true, e4, c3, c4, Int.toNat_natCast, e5, e7, e6]
          exact Of_l0_eq hr (d - 1) k (i + 1) _ n1 n2 n3 hnew
        · simp only [hq, decide_false, cond_false]
          exact Of_l0_eq hr (d - 1) k (i + 1) _ n1 n2 n3 (s2 (.inr hq))
theorem ofinv0 (a : List Int) : OfInv [] (a.take 0) := ⟨by simp [listR], rfl, fun p hp => (nomatch hp)⟩
theorem Of_eq {a : List Int} {k : Nat} (hr : ris 0 a) (hk : a.length + 1 ≤ k) : ∃ r, runs_Of k a = some r ∧ OfInv r a := by
  obtain ⟨r, e, h⟩ := Of_l0_eq hr a.length k 0 [] (by omega) hk (by omega) (ofinv0 a)
  refine ⟨r, ?_, h⟩
  unfold runs_Of
  have e' : runs_Of_l0 k [] a a (a.length : Int) 0 = some r := e
  rw [e']
  rfl
theorem ARuns_l0_eq {a : List Int} (hr : ris 0 a) : ∀ (d k i : Nat) (r : List Run), a.length - i ≤ d → d + 1 ≤ k → i ≤ a.length → OfInv r (a.take i) → ∃ r', arrays_Runs_l0 k a (r.length : Int) a (a.length : Int) (i : Int) = some (r'.length : Int) ∧ OfInv r' a
  | d, 0, i, r, _, hk, _, _ => by omega
  | d, k + 1, i, r, hd, hk, hi, h => by
    have hl := ris_len hr
    have hrl := ofinv_len h
    rw [arrays_Runs_l0]
    cases hdr : a.drop i with
    | nil =>
      have := drop_nil hdr hi
      have c : ¬ ((i : Int) < (a.length : Int)) := by omega
      refine ⟨r, by simp only [c, decide_false, cond_false], ?_⟩
      rw [this, List.take_length] at h
      exact h
    | cons x s =>
      obtain ⟨h1, h2, h3⟩ := drop_cons hdr (0 : Int)
      have n1 : a.length - (i + 1) ≤ d - 1 := by omega
      have n2 : d - 1 + 1 ≤ k := by omega
      have n3 : i + 1 ≤ a.length := by omega
      have n4 : i ≠ 0 → 0 < i := by omega
      obtain ⟨s1, s2⟩ := ofstep hr hdr h
      have hx : a[i]? = some x := by rw [getD_some0 h1, h2]
      have hx0 := ris_low hr (List.mem_of_getElem? hx)
      have c : ((i : Int) < (a.length : Int)) := by omega
      have c0 : (0 : Int) ≤ (i : Int) := by omega
      have e2 : IntKind.wrap .i64 ((i : Int) + 1) = ((i + 1 : Nat) : Int) := by rw [i64_in _ ⟨by omega, by omega⟩]; omega
      have e8 : IntKind.wrap .i64 ((r.length : Int) + 1) = (((r ++ [(x, (0 : Int))]).length : Nat) : Int) := by rw [i64_in _ ⟨by omega, by omega⟩]; simp
      simp only [c, c0, decide_true, cond_true, Int.toNat_natCast, h2, e2, e8]
      by_cases hi0 : i = 0
      · have q : ((i : Int) = 0) := by omega
        simp only [q, decide_true, cond_true]
        exact ARuns_l0_eq hr (d - 1) k (i + 1) _ n1 n2 n3 (s2 (.inl hi0))
      · have q : ¬ ((i : Int) = 0) := by omega
        have e1 : IntKind.wrap .i64 ((i : Int) - 1) = ((i - 1 : Nat) : Int) := by rw [i64_in _ ⟨by omega, by omega⟩]; omega
        have c1 : (0 : Int) ≤ ((i - 1 : Nat) : Int) := by omega
        have c2 : ((i - 1 : Nat) : Int) < (a.length : Int) := by omega
        have hp := getD_some0 (l := a) (i := i - 1) (by omega)
        have hp0 := ris_low hr (List.mem_of_getElem? hp)
        have hlt := ris_lt hr (i - 1) i _ x (by omega) hp hx
        have e3 : IntKind.wrap .u16 (a.getD (i - 1) 0 + 1) = a.getD (i - 1) 0 + 1 := u16_in _ ⟨by omega, by omega⟩
        simp only [q, e1, c1, c2, decide_true, decide_false, cond_true, cond_false, Int.toNat_natCast, e3]
        by_cases hq : x = a.getD (i - 1) 0 + 1
        · obtain ⟨r', p, hr', hp2, hnew⟩ := s1 (n4 hi0) hq
          have l1 : r.length = (r' ++ [(p.1, p.2 + 1)]).length := by rw [hr']; simp
          simp only [hq, decide_true, Bool.not_true, cond_false]
          rw [l1]
          exact ARuns_l0_eq hr (d - 1) k (i + 1) _ n1 n2 n3 hnew
        · simp only [hq, decide_false, Bool.not_false, cond_true]
          exact ARuns_l0_eq hr (d - 1) k (i + 1) _ n1 n2 n3 (s2 (.inr hq))
theorem ARuns_eq {a : List Int} {k : Nat} (hr : ris 0 a) (hk : a.length + 1 ≤ k) : ∃ r, arrays_Runs k a = some (r.length : Int) ∧ OfInv r a := by
  obtain ⟨r, e, h⟩ := ARuns_l0_eq hr a.length k 0 [] (by omega) hk (by omega) (ofinv0 a)
  refine ⟨r, ?_, h⟩
  unfold arrays_Runs
  have e' : arrays_Runs_l0 k a 0 a (a.length : Int) 0 = some (r.length : Int) := e
  rw [e']
  rfl
/-! ### Words -/
theorem setbit_wf {W : List Nat} (hW : wfW W) {x : Nat} (hx : x < 65536) : wfW (W.set (x / 64) (W.getD (x / 64) 0 ||| (1 <<< (x % 64) % 18446744073709551616))) :=
  wfW_of (by rw [List.length_set]; exact hW.1) fun j hj => by
    rw [getD_set (by rw [hW.1]; omega)]
    split
    · exact or_lt64 (wfW_get hW.2 _) (Nat.mod_lt _ (by decide))
    · exact wfW_get hW.2 j
theorem setbit_has {W : List Nat} (hW : wfW W) {x : Nat} (hx : x < 65536) (y : Nat) (hy : y < 65536) : hasW (W.set (x / 64) (W.getD (x / 64) 0 ||| (1 <<< (x % 64) % 18446744073709551616))) y = (hasW W y || decide (y = x)) := by
  unfold hasW
  rw [getD_set (by rw [hW.1]; omega)]
  split
  · rename_i c
    rw [c, Nat.testBit_or, show (18446744073709551616 : Nat) = 2 ^ 64 from rfl, Nat.testBit_mod_two_pow, Nat.testBit_shiftLeft]
    congr 1
    have h1 : y % 64 < 64 := Nat.mod_lt _ (by omega)
    rw [Bool.eq_iff_iff]
    simp only [h1, decide_true, Bool.true_and, Bool.and_eq_true, decide_eq_true_eq, ge_iff_le]
    constructor
    · intro ⟨h2, h3⟩
      have : y % 64 - x % 64 = 0 := by
        cases hz : y % 64 - x % 64 with
        | zero => rfl
        | succ z => rw [hz, Nat.testBit_succ] at h3; simp at h3
      omega
    · intro h
      subst h
      simp
  · rename_i c
    have : ¬ y = x := fun h => c (by rw [h])
    simp [this]
theorem setbit_eq {W : List Nat} (hW : wfW W) {x : Nat} (hx : x < 65536) : bitsI .or .u64 ((W.getD (x / 64) 0 : Nat) : Int) (shlI .u64 1 ((x % 64 : Nat) : Int)) = ((W.getD (x / 64) 0 ||| (1 <<< (x % 64) % 18446744073709551616) : Nat) : Int) := by
  have s1 : shlI .u64 1 ((x % 64 : Nat) : Int) = ((1 <<< (x % 64) % 18446744073709551616 : Nat) : Int) := shl64 (a := 1) (by omega)
  rw [s1, or64 (wfW_get hW.2 _) (Nat.mod_lt _ (by decide))]
theorem tdiv64 (x : Nat) : ((x : Int).tdiv 64) = ((x / 64 : Nat) : Int) := by
  rw [Int.tdiv_eq_ediv_of_nonneg (by omega)]
  omega
theorem tmod64 (x : Nat) : ((x : Int).tmod 64) = ((x % 64 : Nat) : Int) := by
  rw [Int.tmod_eq_emod_of_nonneg (by omega)]
  omega
theorem WHas_eq {W : List Nat} {x k : Nat} (hW : wfW W) (hx : x < 65536) : words_Has k (up W) (x : Int) = some (hasW W x) := by
  unfold words_Has
  have e1 : IntKind.wrap .u16 ((x / 64 : Nat) : Int) = ((x / 64 : Nat) : Int) := u16_in _ ⟨by omega, by omega⟩
  have e2 : IntKind.wrap .i64 ((x / 64 : Nat) : Int) = ((x / 64 : Nat) : Int) := i64_in _ ⟨by omega, by omega⟩
  have c : ((x / 64 : Nat) : Int) < ((up W).length : Int) := by rw [up_len, hW.1]; omega
  have c0 : (0 : Int) ≤ ((x / 64 : Nat) : Int) := by omega
  have c1 : ¬ (((x % 64 : Nat) : Int) < 0) := by omega
  have hv := wfW_get hW.2 (x / 64)
  have s1 : shrI .u64 ((W.getD (x / 64) 0 : Nat) : Int) ((x % 64 : Nat) : Int) = ((W.getD (x / 64) 0 >>> (x % 64) : Nat) : Int) := shr64 (by omega)
  have hs : W.getD (x / 64) 0 >>> (x % 64) < 18446744073709551616 := Nat.lt_of_le_of_lt (Nat.shiftRight_le _ _) hv
  have a1 : bitsI .and .u64 ((W.getD (x / 64) 0 >>> (x % 64) : Nat) : Int) 1 = (((W.getD (x / 64) 0 >>> (x % 64)) &&& 1 : Nat) : Int) := and64 (b := 1) hs (by decide)
  simp only [tdiv64, tmod64, e1, e2, c, c0, c1, decide_true, decide_false, cond_true, Bool.not_false, Int.toNat_natCast, up_get, s1, a1]
  unfold hasW
  rw [Nat.testBit, Nat.and_comm 1, Nat.and_one_is_mod]
  rcases Nat.mod_two_eq_zero_or_one (W.getD (x / 64) 0 >>> (x % 64)) with h | h
  · rw [h]; rfl
  · rw [h]; rfl
theorem WOf_l0_eq {a : List Int} (hr : ris 0 a) : ∀ (rest : List Int) (k i : Nat) (W : List Nat), i ≤ a.length → a.drop i = rest → rest.length + 1 ≤ k → wfW W →
    ∃ W', words_Of_l0 k (up W) a (a.length : Int) (i : Int) = some (up W') ∧ wfW W' ∧ ∀ x : Nat, x < 65536 → hasW W' x = (hasW W x || decide ((x : Int) ∈ rest))
  | _, 0, _, _, _, _, hk, _ => by omega
  | [], k + 1, i, W, hi, h, hk, hW => by
    have := drop_nil h hi
    have c : ¬ ((i : Int) < (a.length : Int)) := by omega
    exact ⟨W, by rw [words_Of_l0]; simp only [c, decide_false, cond_false], hW, fun x _ => by simp⟩
  | y :: s, k + 1, i, W, hi, h, hk, hW => by
    have hl := ris_len hr
    obtain ⟨h1, h2, h3⟩ := drop_cons h (0 : Int)
    have hy0 := ris_low hr (List.mem_of_mem_drop (by rw [h]; simp) : y ∈ a)
    obtain ⟨n, rfl⟩ : ∃ n : Nat, y = (n : Int) := ⟨y.toNat, by omega⟩
    have hn : n < 65536 := by omega
    have c : ((i : Int) < (a.length : Int)) := by omega
    have c0 : (0 : Int) ≤ (i : Int) := by omega
    have e1 : IntKind.wrap .u16 ((n / 64 : Nat) : Int) = ((n / 64 : Nat) : Int) := u16_in _ ⟨by omega, by omega⟩
    have e2 : IntKind.wrap .i64 ((i : Int) + 1) = ((i + 1 : Nat) : Int) := by rw [i64_in _ ⟨by omega, by omega⟩]; omega
    have c1 : ((n / 64 : Nat) : Int) < ((up W).length : Int) := by rw [up_len, hW.1]; omega
    have c2 : (0 : Int) ≤ ((n / 64 : Nat) : Int) := by omega
    have c3 : ¬ (((n % 64 : Nat) : Int) < 0) := by omega
    obtain ⟨W', r1, r2, r3⟩ := WOf_l0_eq hr s k (i + 1) _ (by omega) h3 (by simp at hk; omega) (setbit_wf hW hn)
    refine ⟨W', ?_, r2, fun x hx => ?_⟩
    · rw [words_Of_l0]
      simp only [c, c0, decide_true, cond_true, Int.toNat_natCast, h2, tdiv64, tmod64, e1, c1, c2, c3, decide_false, Bool.not_false, up_get, setbit_eq hW hn, up_set, e2]
      exact r1
    · rw [r3 x hx, setbit_has hW hn x hx]
      have : ((x : Int) = (n : Int)) ↔ x = n := by omega
      simp [this, Bool.or_assoc]
theorem WOf_eq {a : List Int} {k : Nat} (hr : ris 0 a) (hk : a.length + 1 ≤ k) : ∃ W, words_Of k a = some (up W) ∧ wfW W ∧ ∀ x : Nat, x < 65536 → hasW W x = decide ((x : Int) ∈ a) := by
  obtain ⟨W, r1, r2, r3⟩ := WOf_l0_eq hr a k 0 _ (by omega) rfl hk zero_wf
  refine ⟨W, ?_, r2, fun x hx => by rw [r3 x hx, zero_has]; simp⟩
  unfold words_Of
  rw [replicate_up]
  have r1' : words_Of_l0 k (up (List.replicate 1024 0)) a (a.length : Int) 0 = some (up W) := r1
  simp only [Nat.le_refl, decide_true, cond_true]
  rw [r1']
  rfl
theorem CW_l1_eq {r : List Run} {n idx : Int} {p : Run} (hp : 0 ≤ p.1 ∧ p.1 < 65536 ∧ 0 ≤ p.2 ∧ p.2 < 65536) (he : p.1 + p.2 < 65536) : ∀ (d k x : Nat) (W : List Nat), p.1 ≤ (x : Int) → (x : Int) + d = p.1 + p.2 + 1 → d + 1 ≤ k → wfW W →
    ∃ W', container_Container_Words_l1 k (up W) p.1 p.2 (x : Int) r n idx = some (up W', r, n, idx) ∧ wfW W' ∧ ∀ y : Nat, y < 65536 → hasW W' y = (hasW W y || (decide (x ≤ y) && decide ((y : Int) ≤ p.1 + p.2)))
  | d, 0, x, W, _, _, hk, _ => by omega
  | d, k + 1, x, W, hx, hd, hk, hW => by
    rw [container_Container_Words_l1, i64_in p.1 ⟨by omega, by omega⟩, i64_in p.2 ⟨by omega, by omega⟩, i64_in (p.1 + p.2) ⟨by omega, by omega⟩]
    by_cases c : (x : Int) ≤ p.1 + p.2
    · have hn : x < 65536 := by omega
      have e1 : IntKind.wrap .i64 ((x / 64 : Nat) : Int) = ((x / 64 : Nat) : Int) := i64_in _ ⟨by omega, by omega⟩
      have e2 : IntKind.wrap .i64 ((x : Int) + 1) = ((x + 1 : Nat) : Int) := by rw [i64_in _ ⟨by omega, by omega⟩]; omega
      have c1 : ((x / 64 : Nat) : Int) < ((up W).length : Int) := by rw [up_len, hW.1]; omega
      have c2 : (0 : Int) ≤ ((x / 64 : Nat) : Int) := by omega
      have c3 : ¬ (((x % 64 : Nat) : Int) < 0) := by omega
      obtain ⟨W', r1, r2, r3⟩ := CW_l1_eq hp he (d - 1) k (x + 1) _ (by omega) (by omega) (by omega) (setbit_wf hW hn)
      refine ⟨W', ?_, r2, fun y hy => ?_⟩
      · simp only [c, decide_true, cond_true, tdiv64, tmod64, e1, c1, c2, c3, decide_false, Bool.not_false, Int.toNat_natCast, up_get, setbit_eq hW hn, up_set, e2]
        exact r1
      · rw [r3 y hy, setbit_has hW hn y hy, Bool.or_assoc]
        congr 1
        rw [Bool.eq_iff_iff]
        simp
        omega
    · refine ⟨W, by simp only [c, decide_false, cond_false], hW, fun y hy => ?_⟩
      have : (decide (x ≤ y) && decide ((y : Int) ≤ p.1 + p.2)) = false := by simp; omega
      rw [this]
      simp
theorem CW_l0_eq {r : List Run} {K : Nat} (hK : 65540 ≤ K) (hw : wfR r) (hb : r.length < 1000000) : ∀ (rest : List Run) (k i : Nat) (m : Int) (W : List Nat), i ≤ r.length → r.drop i = rest → mayF m rest = true → rest.length + K ≤ k → wfW W →
    ∃ W', container_Container_Words_l0 k (up W) r r.length i = some (up W') ∧ wfW W' ∧ ∀ y : Nat, y < 65536 → hasW W' y = (hasW W y || hasB rest (y : Int))
  | _, 0, _, _, _, _, _, _, hk, _ => by omega
  | [], k + 1, i, m, W, hi, h, hm, hk, hW => by
    have := drop_nil h hi
    have c : ¬ ((i : Int) < (r.length : Int)) := by omega
    exact ⟨W, by rw [container_Container_Words_l0]; simp only [c, decide_false, cond_false], hW, fun y _ => by rw [hasB_nil]; simp⟩
  | p :: s, k + 1, i, m, W, hi, h, hm, hk, hW => by
    obtain ⟨g1, g2, g3⟩ := mayF_cons.1 hm
    obtain ⟨h1, h2, h3⟩ := drop_cons h ((0 : Int), (0 : Int))
    have hp := wf_get hw h
    have c : ((i : Int) < (r.length : Int)) := by omega
    have c0 : (0 : Int) ≤ (i : Int) := by omega
    obtain ⟨n, hn⟩ : ∃ n : Nat, p.1 = (n : Int) := ⟨p.1.toNat, by omega⟩
    obtain ⟨W1, e1, w1, f1⟩ := CW_l1_eq (r := r) (n := (r.length : Int)) (idx := (i : Int)) hp g2 (p.2 + 1).toNat k n W (by omega) (by omega) (by simp at hk; omega) hW
    obtain ⟨W2, e2, w2, f2⟩ := CW_l0_eq hK hw hb s k (i + 1) _ W1 (by omega) h3 g3 (by simp at hk; omega) w1
    refine ⟨W2, ?_, w2, fun y hy => ?_⟩
    · rw [container_Container_Words_l0]
      simp only [c, c0, decide_true, cond_true, Int.toNat_natCast, h2]
      rw [i64_in p.1 ⟨by omega, by omega⟩]
      have e1' : container_Container_Words_l1 k (up W) p.1 p.2 p.1 r (r.length : Int) (i : Int) = some (up W1, r, (r.length : Int), (i : Int)) := by
        rw [← hn] at e1
        exact e1
      rw [e1']
      simp only [Option.bind_some]
      rw [i64_in _ ⟨by omega, by omega⟩, show ((i : Int) + 1) = ((i + 1 : Nat) : Int) by omega]
      exact e2
    · rw [f2 y hy, f1 y hy, hasB_cons, Bool.or_assoc]
      congr 2
      rw [Bool.eq_iff_iff]
      simp
      omega
/-! ### Marks -/
theorem MOf_l0_eq {a : List Int} (ha : ∀ y, y ∈ a → 0 ≤ y ∧ y < 65536) (hb : a.length < 1000000) : ∀ (rest : List Int) (k i : Nat) (M : List Bool), i ≤ a.length → a.drop i = rest → rest.length + 1 ≤ k → M.length = 65536 →
    ∃ M', isinglassref04_Of_l0 k M a (i : Int) = some M' ∧ M'.length = 65536 ∧ ∀ x : Nat, x < 65536 → M'.getD x false = (M.getD x false || decide ((x : Int) ∈ rest))
  | _, 0, _, _, _, _, hk, _ => by omega
  | [], k + 1, i, M, hi, h, hk, hM => by
    have := drop_nil h hi
    have c : ¬ ((i : Int) < (a.length : Int)) := by omega
    exact ⟨M, by rw [isinglassref04_Of_l0]; simp only [c, decide_false, cond_false], hM, fun x _ => by simp⟩
  | y :: s, k + 1, i, M, hi, h, hk, hM => by
    obtain ⟨h1, h2, h3⟩ := drop_cons h (0 : Int)
    have hy0 := ha y (List.mem_of_mem_drop (by rw [h]; simp))
    obtain ⟨n, rfl⟩ : ∃ n : Nat, y = (n : Int) := ⟨y.toNat, by omega⟩
    have c : ((i : Int) < (a.length : Int)) := by omega
    have c0 : (0 : Int) ≤ (i : Int) := by omega
    have c1 : (0 : Int) ≤ (n : Int) := by omega
    have c2 : (n : Int) < 65536 := by omega
    have b1 : Nat.ble 65536 M.length = true := by rw [Nat.ble_eq]; omega
    have e2 : IntKind.wrap .i64 ((i : Int) + 1) = ((i + 1 : Nat) : Int) := by rw [i64_in _ ⟨by omega, by omega⟩]; omega
    obtain ⟨M', r1, r2, r3⟩ := MOf_l0_eq ha hb s k (i + 1) (M.set n true) (by omega) h3 (by simp at hk; omega) (by rw [List.length_set]; exact hM)
    refine ⟨M', ?_, r2, fun x hx => ?_⟩
    · rw [isinglassref04_Of_l0]
      simp only [c, c0, decide_true, cond_true, Int.toNat_natCast, h2, c1, c2]
      rw [b1, e2]
      exact r1
    · rw [r3 x hx]
      have : (M.set n true).getD x false = (M.getD x false || decide (x = n)) := by
        rw [List.getD_eq_getElem?_getD, List.getElem?_set, List.getD_eq_getElem?_getD]
        by_cases q : n = x
        · subst q
          rw [if_pos rfl, if_pos (by omega)]
          simp
        · have : ¬ x = n := fun h => q h.symm
          rw [if_neg q]
          simp [this]
      rw [this]
      have e : ((x : Int) = (n : Int)) ↔ x = n := by omega
      simp [e, Bool.or_assoc]
theorem MOf_eq {a : List Int} {k : Nat} (ha : ∀ y, y ∈ a → 0 ≤ y ∧ y < 65536) (hb : a.length < 1000000) (hk : a.length + 1 ≤ k) :
    ∃ M, isinglassref04_Of k a = some M ∧ M.length = 65536 ∧ ∀ x : Nat, x < 65536 → M.getD x false = decide ((x : Int) ∈ a) := by
  obtain ⟨M, r1, r2, r3⟩ := MOf_l0_eq ha hb a k 0 (List.replicate 65536 false) (by omega) rfl hk List.length_replicate
  refine ⟨M, ?_, r2, fun x hx => ?_⟩
  · unfold isinglassref04_Of
    have r1' : isinglassref04_Of_l0 k (List.replicate 65536 false) a 0 = some M := r1
    rw [r1']
    rfl
  · rw [r3 x hx]
    have : (List.replicate 65536 false).getD x false = false := by
      rw [List.getD_eq_getElem?_getD, List.getElem?_replicate]
      split <;> rfl
    rw [this]
    simp
theorem MList_l0_eq {M : List Bool} (hM : M.length = 65536) : ∀ (d k i : Nat) (acc : List Int), 65536 - i ≤ d → d + 1 ≤ k → i ≤ 65536 → acc.length ≤ i → isinglassref04_Marks_List_l0 k M acc (i : Int) = some (M, acc ++ memI (fun x => M.getD x.toNat false) (i : Int) (65536 - i))
  | d, 0, i, acc, _, hk, _, _ => by omega
  | d, k + 1, i, acc, hd, hk, hi, ha => by
    rw [isinglassref04_Marks_List_l0]
    by_cases c : (i : Int) < 65536
    · have c0 : (0 : Int) ≤ (i : Int) := by omega
      have b1 : Nat.ble 65536 M.length = true := by rw [Nat.ble_eq]; omega
      have e1 : IntKind.wrap .u16 (i : Int) = (i : Int) := u16_in _ ⟨by omega, by omega⟩
      have e2 : IntKind.wrap .i64 ((i : Int) + 1) = ((i + 1 : Nat) : Int) := by rw [i64_in _ ⟨by omega, by omega⟩]; omega
      have g1 : decide ((acc.length + 1) * 2 ≤ 140737488355328) = true := by simp; omega
      have g2 : decide (acc.length + 1 ≤ 140737488355328) = true := by simp; omega
      have hs : memI (fun x => M.getD x.toNat false) (i : Int) (65536 - i) = (if M.getD i false then [(i : Int)] else []) ++ memI (fun x => M.getD x.toNat false) ((i + 1 : Nat) : Int) (65536 - (i + 1)) := by
        rw [show 65536 - i = 1 + (65536 - (i + 1)) by omega, memI_split, show (i : Int) + ((1 : Nat) : Int) = ((i + 1 : Nat) : Int) by omega]
        congr 1
        unfold memI
        rw [show List.range 1 = [0] from rfl]
        simp only [List.filter_cons, List.filter_nil, Int.natCast_zero, Int.add_zero, Int.toNat_natCast]
        split <;> simp
      simp only [c, c0, decide_true, cond_true, Int.toNat_natCast]
      rw [b1, hs, e1, e2]
      simp only [cond_true, List.length_cons, List.length_nil, Nat.zero_add, g1, g2]
      cases hg : M.getD i false with
      | true =>
        simp only [cond_true, if_true]
        rw [MList_l0_eq hM (d - 1) k (i + 1) _ (by omega) (by omega) (by omega) (by simp; omega), List.append_assoc]
      | false =>
        simp only [cond_false, Bool.false_eq_true, if_false, List.nil_append]
        exact MList_l0_eq hM (d - 1) k (i + 1) _ (by omega) (by omega) (by omega) (by omega)
    · have : i = 65536 := by omega
      have hz : memI (fun x => M.getD x.toNat false) (i : Int) (65536 - i) = [] := by
        rw [show 65536 - i = 0 by omega]
        rfl
      rw [hz]
      simp only [c, decide_false, cond_false, List.append_nil]
theorem MList_eq {M : List Bool} {k : Nat} (hM : M.length = 65536) (hk : 65540 ≤ k) : isinglassref04_Marks_List k M = some (M, memI (fun x => M.getD x.toNat false) 0 65536) := by
  unfold isinglassref04_Marks_List
  have := MList_l0_eq hM 65536 k 0 [] (by omega) (by omega) (by omega) (by simp)
  rw [Nat.sub_zero, List.nil_append] at this
  rw [Int.natCast_zero] at this
  simp only [this, Option.bind_some]
end Go.Rx.Tryd

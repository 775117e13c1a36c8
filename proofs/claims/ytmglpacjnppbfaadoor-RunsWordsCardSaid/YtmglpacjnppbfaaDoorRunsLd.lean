/- The other functions of runs: the calculus, how many, how many below, the k-th, whether there. -/
import Derived.Test.YtmglpacjnppbfaaDoorRunsMd
import Derived.Test.YtmglpacjnppbfaaDoorRunsC
namespace Go.Rx.Tryd
open Go.Rx.Plain Go.IntWalk
set_option linter.unusedVariables false
set_option linter.unusedSimpArgs false
theorem And_ans {k : Nat} {a b : List Run} (ma : mayF 0 a = true) (mb : mayF 0 b = true) (wa : wfR a) (wb : wfR b) (ha : a.length < 100000) (hb : b.length < 100000) (hk : 2 * (a.length + b.length) + 5 ≤ k) :
    ∃ r, runs_And k a b = some r ∧ Ans (fun x y => x && y) a b r := by
  obtain ⟨r, h1, h2⟩ := runs_edges_And_1_good (k := k) (srt_row ma wa) (srt_row mb wb) (od_row a) (od_row b) (by rw [len_row]; omega) (by rw [len_row]; omega) (by rw [len_row, len_row]; omega)
  refine ⟨r, ?_, good_ans h2 ma mb wa wb⟩
  unfold runs_And
  rw [row_eq wa (by omega) (by omega)]
  simp only [Option.bind_some]
  rw [row_eq wb (by omega) (by omega)]
  simp only [Option.bind_some]
  rw [h1]
  rfl
theorem AndNot_ans {k : Nat} {a b : List Run} (ma : mayF 0 a = true) (mb : mayF 0 b = true) (wa : wfR a) (wb : wfR b) (ha : a.length < 100000) (hb : b.length < 100000) (hk : 2 * (a.length + b.length) + 5 ≤ k) :
    ∃ r, runs_AndNot k a b = some r ∧ Ans (fun x y => x && !y) a b r := by
  obtain ⟨r, h1, h2⟩ := runs_edges_AndNot_1_good (k := k) (srt_row ma wa) (srt_row mb wb) (od_row a) (od_row b) (by rw [len_row]; omega) (by rw [len_row]; omega) (by rw [len_row, len_row]; omega)
  refine ⟨r, ?_, good_ans h2 ma mb wa wb⟩
  unfold runs_AndNot
  rw [row_eq wa (by omega) (by omega)]
  simp only [Option.bind_some]
  rw [row_eq wb (by omega) (by omega)]
  simp only [Option.bind_some]
  rw [h1]
  rfl
theorem Xor_ans {k : Nat} {a b : List Run} (ma : mayF 0 a = true) (mb : mayF 0 b = true) (wa : wfR a) (wb : wfR b) (ha : a.length < 100000) (hb : b.length < 100000) (hk : 2 * (a.length + b.length) + 5 ≤ k) :
    ∃ r, runs_Xor k a b = some r ∧ Ans (fun x y => x != y) a b r := by
  obtain ⟨r, h1, h2⟩ := runs_edges_Xor_1_good (k := k) (srt_row ma wa) (srt_row mb wb) (od_row a) (od_row b) (by rw [len_row]; omega) (by rw [len_row]; omega) (by rw [len_row, len_row]; omega)
  refine ⟨r, ?_, good_ans h2 ma mb wa wb⟩
  unfold runs_Xor
  rw [row_eq wa (by omega) (by omega)]
  simp only [Option.bind_some]
  rw [row_eq wb (by omega) (by omega)]
  simp only [Option.bind_some]
  rw [h1]
  rfl
/-- What a range flipped is. -/
structure Flp (a : List Run) (lo hi : Int) (r : List Run) : Prop where
  may : mayF 0 r = true
  wf : wfR r
  has : ∀ x, hasB r x = (hasB a x != (decide (max lo 0 ≤ x) && decide (x < min hi 65536)))
  len : r.length ≤ 2 * a.length + 2
theorem clone_eq {k : Nat} {r : List Run} (h : r.length < 1000000) : slices_Clone_Run k r = some r := by
  cases r with
  | nil => rfl
  | cons x l =>
    have g1 : decide ((0 + (x :: l).length) * 4 ≤ 140737488355328) = true := by simp at h ⊢; omega
    have g2 : decide (0 + (x :: l).length ≤ 140737488355328) = true := by simp at h ⊢; omega
    simp only [slices_Clone_Run, List.length_nil, g1, g2, cond_true, List.nil_append]
theorem Flip_ans {k : Nat} {a : List Run} {lo hi : Int} (ma : mayF 0 a = true) (wa : wfR a) (ha : a.length < 100000) (hk : 2 * a.length + 8 ≤ k) :
    ∃ r, runs_Flip k a lo hi = some r ∧ Flp a lo hi r := by
  unfold runs_Flip
  by_cases c : min hi 65536 ≤ max lo 0
  · refine ⟨a, by simp only [c, decide_true, cond_true, clone_eq (k := k) (show a.length < 1000000 by omega), Option.bind_some], ma, wa, fun x => ?_, by omega⟩
    have : (decide (max lo 0 ≤ x) && decide (x < min hi 65536)) = false := by simp; omega
    rw [this]
    simp
  · obtain ⟨r, h1, h2⟩ := runs_edges_Flip_1_good (k := k) (b := [max lo 0, min hi 65536]) (srt_row ma wa) ⟨by omega, by omega, by omega, by omega, trivial⟩ (od_row a) (by simp [od]) (by rw [len_row]; omega) (by simp) (by rw [len_row]; simp; omega)
    refine ⟨r, ?_, h2.may, h2.wf, fun x => ?_, by have := h2.len; rw [len_row] at this; simpa using this⟩
    · simp only [c, decide_false, cond_false]
      rw [row_eq wa (by omega) (by omega)]
      simp only [Option.bind_some]
      rw [h1]
      rfl
    · rw [h2.has, par_row x ma wa]
      congr 1
      simp only [par]
      by_cases q1 : max lo 0 ≤ x <;> by_cases q2 : min hi 65536 ≤ x
      · have : ¬ x < min hi 65536 := by omega
        simp [q1, q2, this]
      · have : x < min hi 65536 := by omega
        simp [q1, q2, this]
      · omega
      · have : x < min hi 65536 := by omega
        simp [q1, q2, this]
theorem Len_l0_eq {r : List Run} (hw : wfR r) (hb : r.length < 1000000) : ∀ (rest : List Run) (k : Nat) (n : Int) (i : Nat), i ≤ r.length → r.drop i = rest → rest.length + 1 ≤ k → 0 ≤ n → n ≤ 65536 * (i : Int) → runs_Len_l0 k n r r.length i = some (n + lenF rest)
  | [], 0, _, _, _, _, hk, _, _ => by simp at hk
  | _ :: _, 0, _, _, _, _, hk, _, _ => by simp at hk
  | [], k + 1, n, i, hi, h, hk, h0, h1 => by
    have := drop_nil h hi
    have c : ¬ ((i : Int) < (r.length : Int)) := by omega
    simp only [runs_Len_l0, c, decide_false, cond_false, lenF, Int.add_zero]
  | x :: s, k + 1, n, i, hi, h, hk, h0, h1 => by
    obtain ⟨g1, g2, g3⟩ := drop_cons h ((0 : Int), (0 : Int))
    have hx := wf_get hw h
    have c : ((i : Int) < (r.length : Int)) := by omega
    have c0 : (0 : Int) ≤ (i : Int) := by omega
    rw [runs_Len_l0]
    simp only [c, c0, decide_true, cond_true, Int.toNat_natCast, g2]
    rw [i64_in x.2 ⟨by omega, by omega⟩, i64_in (x.2 + 1) ⟨by omega, by omega⟩, i64_in (n + (x.2 + 1)) ⟨by omega, by omega⟩, i64_in (i + 1) ⟨by omega, by omega⟩, show ((i : Int) + 1) = ((i + 1 : Nat) : Int) by omega]
    rw [Len_l0_eq hw hb s k _ (i + 1) (by omega) g3 (by simp at hk; omega) (by omega) (by omega), lenF]
    congr 1
    omega
theorem Len_eq {r : List Run} {k : Nat} (hw : wfR r) (hb : r.length < 1000000) (hk : r.length + 1 ≤ k) : runs_Len k r = some (lenF r) := by
  unfold runs_Len
  rw [show runs_Len_l0 k 0 r r.length 0 = runs_Len_l0 k 0 r r.length ((0 : Nat) : Int) from rfl, Len_l0_eq hw hb r k 0 0 (by omega) rfl hk (by omega) (by omega)]
  simp
theorem Rank_l0_eq {r : List Run} {x : Int} (hx0 : 0 ≤ x) (hx1 : x ≤ 9223372036854775807) (hw : wfR r) (hb : r.length < 1000000) : ∀ (rest : List Run) (k : Nat) (n : Int) (i : Nat), i ≤ r.length → r.drop i = rest → rest.length + 1 ≤ k → 0 ≤ n → n ≤ 65536 * (i : Int) → runs_Rank_l0 k x n r r.length i = some (n + rankF rest x)
  | [], 0, _, _, _, _, hk, _, _ => by simp at hk
  | _ :: _, 0, _, _, _, _, hk, _, _ => by simp at hk
  | [], k + 1, n, i, hi, h, hk, h0, h1 => by
    have := drop_nil h hi
    have c : ¬ ((i : Int) < (r.length : Int)) := by omega
    simp only [runs_Rank_l0, c, decide_false, cond_false, rankF, Int.add_zero]
  | y :: s, k + 1, n, i, hi, h, hk, h0, h1 => by
    obtain ⟨g1, g2, g3⟩ := drop_cons h ((0 : Int), (0 : Int))
    have hy := wf_get hw h
    have c : ((i : Int) < (r.length : Int)) := by omega
    have c0 : (0 : Int) ≤ (i : Int) := by omega
    rw [runs_Rank_l0]
    simp only [c, c0, decide_true, cond_true, Int.toNat_natCast, g2]
    rw [i64_in y.2 ⟨by omega, by omega⟩, i64_in y.1 ⟨by omega, by omega⟩, i64_in (y.2 + 1) ⟨by omega, by omega⟩, i64_in (x - y.1) ⟨by omega, by omega⟩, i64_in (n + min (max (x - y.1) 0) (y.2 + 1)) ⟨by omega, by omega⟩, i64_in (i + 1) ⟨by omega, by omega⟩, show ((i : Int) + 1) = ((i + 1 : Nat) : Int) by omega]
    rw [Rank_l0_eq hx0 hx1 hw hb s k _ (i + 1) (by omega) g3 (by simp at hk; omega) (by omega) (by omega), rankF]
    congr 1
    omega
theorem Rank_eq {r : List Run} {k : Nat} {x : Int} (hx1 : x ≤ 9223372036854775807) (hw : wfR r) (hb : r.length < 1000000) (hk : r.length + 1 ≤ k) : runs_Rank k r x = some (rankF r (max x 0)) := by
  unfold runs_Rank
  rw [show runs_Rank_l0 k (max x 0) 0 r r.length 0 = runs_Rank_l0 k (max x 0) 0 r r.length ((0 : Nat) : Int) from rfl, Rank_l0_eq (by omega) (by omega) hw hb r k 0 0 (by omega) rfl hk (by omega) (by omega)]
  simp
theorem Select_l0_eq {r : List Run} (hw : wfR r) (hb : r.length < 1000000) : ∀ (rest : List Run) (k : Nat) (n : Int) (i : Nat), i ≤ r.length → r.drop i = rest → rest.length + 1 ≤ k → -9223372036854775808 ≤ n → n ≤ 9223372036854775807 → runs_Select_l0 k rest n r r.length i = some (selF rest n)
  | [], 0, _, _, _, _, hk, _, _ => by simp at hk
  | _ :: _, 0, _, _, _, _, hk, _, _ => by simp at hk
  | [], k + 1, n, i, hi, h, hk, h0, h1 => by
    have := drop_nil h hi
    have c : ¬ ((i : Int) < (r.length : Int)) := by omega
    simp only [runs_Select_l0, c, decide_false, cond_false, selF]
  | y :: s, k + 1, n, i, hi, h, hk, h0, h1 => by
    obtain ⟨g1, g2, g3⟩ := drop_cons h ((0 : Int), (0 : Int))
    have hy := wf_get hw h
    have c : ((i : Int) < (r.length : Int)) := by omega
    have c0 : (0 : Int) ≤ (i : Int) := by omega
    have c1 : (1 : Int) ≤ ((y :: s).length : Int) := by simp; omega
    rw [runs_Select_l0]
    simp only [c, c0, c1, decide_true, cond_true, Int.toNat_natCast, g2]
    rw [i64_in y.2 ⟨by omega, by omega⟩, i64_in (y.2 + 1) ⟨by omega, by omega⟩, selF]
    by_cases q : n ≤ y.2
    · simp [q]
    · simp only [q, decide_false, cond_false, if_false]
      rw [i64_in (n - (y.2 + 1)) ⟨by omega, by omega⟩, i64_in (i + 1) ⟨by omega, by omega⟩, show ((i : Int) + 1) = ((i + 1 : Nat) : Int) by omega]
      exact Select_l0_eq hw hb s k _ (i + 1) (by omega) g3 (by simp at hk; omega) (by omega) (by omega)
/-- The k-th number, or that there is none. -/
theorem Select_eq {r : List Run} {k : Nat} {n : Int} (hm : mayF 0 r = true) (hw : wfR r) (hb : r.length < 1000000) (hk : r.length + 1 ≤ k) (h0 : -9223372036854775808 ≤ n) (h1 : n ≤ 9223372036854775807) :
    runs_Select k r n = some (0, false) ∨ ∃ x, runs_Select k r n = some (x, true) ∧ 0 ≤ x ∧ x < 65536 ∧ rankF r x = n ∧ rankF r (x + 1) = n + 1 ∧ hasB r x = true := by
  unfold runs_Select
  rw [show runs_Select_l0 k r n r r.length 0 = runs_Select_l0 k r n r r.length ((0 : Nat) : Int) from rfl, Select_l0_eq hw hb r k n 0 (by omega) rfl hk h0 h1]
  simp only [Option.bind_some]
  by_cases c : n < 0
  · left
    rw [sel_neg hw c]
    simp [c]
  · cases h : (selF r n).1 with
    | nil =>
      left
      by_cases c2 : (selF r n).2 < 0
      · simp [c2]
      · simp [c2]
    | cons p t =>
      right
      have e : selF r n = (p :: t, (selF r n).2) := by rw [← h]
      obtain ⟨i1, i2, i3, i4, i5, i6, i7, i8⟩ := sel_ok hm hw (by omega) p t _ e
      refine ⟨p.1 + (selF r n).2, ?_, by omega, by omega, i6, i7, i8⟩
      have c2 : ¬ (selF r n).2 < 0 := by omega
      have c3 : ¬ ((t.length : Int) + 1 = 0) := by omega
      have c4 : (0 : Int) < (t.length : Int) + 1 := by omega
      simp [c2, c3, c4]
      rw [u16_in (selF r n).2 ⟨by omega, by omega⟩, u16_in _ ⟨by omega, by omega⟩]
theorem half (a b : Nat) (h : a + b < 1000000000) : IntKind.wrap .i64 (shrI .u64 (IntKind.wrap .u64 (IntKind.wrap .i64 ((a : Int) + (b : Int)))) 1) = (((a + b) / 2 : Nat) : Int) := by
  rw [i64_in ((a : Int) + (b : Int)) ⟨by omega, by omega⟩, u64_in ((a : Int) + (b : Int)) ⟨by omega, by omega⟩]
  have e : shrI .u64 ((a : Int) + (b : Int)) 1 = (((a + b) / 2 : Nat) : Int) := by
    unfold shrI
    have : (2 : Int) ^ (min (Int.toNat 1) IntKind.u64.bits) = 2 := rfl
    rw [this, Int.fdiv_eq_ediv_of_nonneg _ (by omega)]
    omega
  rw [e, i64_in _ ⟨by omega, by omega⟩]
theorem may_sorted : ∀ {r : List Run} {m : Int}, mayF m r = true → wfR r → ∀ (i j : Nat) (p q : Run), i < j → r[i]? = some p → r[j]? = some q → p.1 < q.1
  | [], _, _, _, i, j, p, q, _, hp, _ => by simp at hp
  | y :: t, m, h, hw, i, j, p, q, hij, hp, hq => by
    obtain ⟨h1, h2, h3⟩ := mayF_cons.1 h
    have hy := wfR_head hw
    obtain ⟨j, rfl⟩ : ∃ j', j = j' + 1 := ⟨j - 1, by omega⟩
    rw [List.getElem?_cons_succ] at hq
    cases i with
    | zero =>
      rw [List.getElem?_cons_zero] at hp
      cases hp
      have hl : ∀ {s : List Run} {m : Int}, mayF m s = true → wfR s → ∀ (j : Nat) (q : Run), s[j]? = some q → m ≤ q.1 := by
        intro s
        induction s with
        | nil => intro m _ _ j q h; simp at h
        | cons z u ih =>
          intro m h hw j q hq
          obtain ⟨g1, g2, g3⟩ := mayF_cons.1 h
          have := wfR_head hw
          cases j with
          | zero => simp at hq; subst hq; exact g1
          | succ j =>
            have := ih g3 (wfR_tail hw) j q (by simpa using hq)
            omega
      have := hl h3 (wfR_tail hw) j q hq
      omega
    | succ i =>
      rw [List.getElem?_cons_succ] at hp
      exact may_sorted h3 (wfR_tail hw) i j p q (by omega) hp hq
end Go.Rx.Tryd

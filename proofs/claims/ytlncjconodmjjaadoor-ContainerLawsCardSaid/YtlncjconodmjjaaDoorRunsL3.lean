/- The other functions of runs: the calculus, how many, how many below, the k-th, whether there. -/
import Derived.Test.YtlncjconodmjjaaDoorRunsM3
import Derived.Test.YtlncjconodmjjaaDoorRunsC
namespace Go.Rx.Tryd
open Go.Rx.Plain Go.IntWalk
set_option linter.unusedVariables false
set_option linter.unusedSimpArgs false
theorem And_ans {k : Nat} {a b : List Run} (ma : mayF 0 a = true) (mb : mayF 0 b = true) (wa : wfR a) (wb : wfR b) (ha : a.length < 100000) (hb : b.length < 100000) (hk : 2 * (a.length + b.length) + 5 ≤ k) :
    ∃ r, runs_And k a b = some r ∧ Ans (fun x y => x && y) a b r := by
  obtain ⟨r, h1, h2⟩ := runs_edges_And_1_good (k := k) (srt_row ma wa) (srt_row mb wb) (od_row a) (od_row b) (by rw [len_row]; omega) (by rw [len_row]; omega) (by rw [len_row, len_row]; omega)
  refine ⟨r, ?_, good_ans h2 ma mb wa wb⟩
  unfold runs_And
  rw [row_eq wa (by omega) (by omega)]
  simp only [Option.bind_some]
  rw [row_eq wb (by omega) (by omega)]
  simp only [Option.bind_some]
  rw [h1]
  rfl
theorem AndNot_ans {k : Nat} {a b : List Run} (ma : mayF 0 a = true) (mb : mayF 0 b = true) (wa : wfR a) (wb : wfR b) (ha : a.length < 100000) (hb : b.length < 100000) (hk : 2 * (a.length + b.length) + 5 ≤ k) :
    ∃ r, runs_AndNot k a b = some r ∧ Ans (fun x y => x && !y) a b r := by
  obtain ⟨r, h1, h2⟩ := runs_edges_AndNot_1_good (k := k) (srt_row ma wa) (srt_row mb wb) (od_row a) (od_row b) (by rw [len_row]; omega) (by rw [len_row]; omega) (by rw [len_row, len_row]; omega)
  refine ⟨r, ?_, good_ans h2 ma mb wa wb⟩
  unfold runs_AndNot
  rw [row_eq wa (by omega) (by omega)]
  simp only [Option.bind_some]
  rw [row_eq wb (by omega) (by omega)]
  simp only [Option.bind_some]
  rw [h1]
  rfl
theorem Xor_ans {k : Nat} {a b : List Run} (ma : mayF 0 a = true) (mb : mayF 0 b = true) (wa : wfR a) (wb : wfR b) (ha : a.length < 100000) (hb : b.length < 100000) (hk : 2 * (a.length + b.length) + 5 ≤ k) :
    ∃ r, runs_Xor k a b = some r ∧ Ans (fun x y => x != y) a b r := by
  obtain ⟨r, h1, h2⟩ := runs_edges_Xor_1_good (k := k) (srt_row ma wa) (srt_row mb wb) (od_row a) (od_row b) (by rw [len_row]; omega) (by rw [len_row]; omega) (by rw [len_row, len_row]; omega)
  refine ⟨r, ?_, good_ans h2 ma mb wa wb⟩
  unfold runs_Xor
  rw [row_eq wa (by omega) (by omega)]
  simp only [Option.bind_some]
  rw [row_eq wb (by omega) (by omega)]
  simp only [Option.bind_some]
  rw [h1]
  rfl
/-- What a range flipped is. -/
structure Flp (a : List Run) (lo hi : Int) (r : List Run) : Prop where
  may : mayF 0 r = true
  wf : wfR r
  has : ∀ x, hasB r x = (hasB a x != (decide (max lo 0 ≤ x) && decide (x < min hi 65536)))
  len : r.length ≤ 2 * a.length + 2
theorem clone_eq {k : Nat} {r : List Run} (h : r.length < 1000000) : slices_Clone_Run k r = some r := by
  cases r with
  | nil => rfl
  | cons x l =>
    have g1 : decide ((0 + (x :: l).length) * 4 ≤ 140737488355328) = true := by simp at h ⊢; omega
    have g2 : decide (0 + (x :: l).length ≤ 140737488355328) = true := by simp at h ⊢; omega
    simp only [slices_Clone_Run, List.length_nil, g1, g2, cond_true, List.nil_append]
theorem Flip_ans {k : Nat} {a : List Run} {lo hi : Int} (ma : mayF 0 a = true) (wa : wfR a) (ha : a.length < 100000) (hk : 2 * a.length + 8 ≤ k) :
    ∃ r, runs_Flip k a lo hi = some r ∧ Flp a lo hi r := by
  unfold runs_Flip
  by_cases c : min hi 65536 ≤ max lo 0
  · refine ⟨a, by simp only [c, decide_true, cond_true, clone_eq (k := k) (show a.length < 1000000 by omega), Option.bind_some], ma, wa, fun x => ?_, by omega⟩
    have : (decide (max lo 0 ≤ x) && decide (x < min hi 65536)) = false := by simp; omega
    rw [this]
    simp
  · obtain ⟨r, h1, h2⟩ := runs_edges_Flip_1_good (k := k) (b := [max lo 0, min hi 65536]) (srt_row ma wa) ⟨by omega, by omega, by omega, by omega, trivial⟩ (od_row a) (by simp [od]) (by rw [len_row]; omega) (by simp) (by rw [len_row]; simp; omega)
    refine ⟨r, ?_, h2.may, h2.wf, fun x => ?_, by have := h2.len; rw [len_row] at this; simpa using this⟩
    · simp only [c, decide_false, cond_false]
      rw [row_eq wa (by omega) (by omega)]
      simp only [Option.bind_some]
      rw [h1]
      rfl
    · rw [h2.has, par_row x ma wa]
      congr 1
      simp only [par]
      by_cases q1 : max lo 0 ≤ x <;> by_cases q2 : min hi 65536 ≤ x
      · have : ¬ x < min hi 65536 := by omega
        simp [q1, q2, this]
      · have : x < min hi 65536 := by omega
        simp [q1, q2, this]
      · omega
      · have : x < min hi 65536 := by omega
        simp [q1, q2, this]
theorem Len_l0_eq {r : List Run} (hw : wfR r) (hb : r.length < 1000000) : ∀ (rest : List Run) (k : Nat) (n : Int) (i : Nat), i ≤ r.length → r.drop i = rest → rest.length + 1 ≤ k → 0 ≤ n → n ≤ 65536 * (i : Int) → runs_Len_l0 k n r r.length i = some (n + lenF rest)
  | [], 0, _, _, _, _, hk, _, _ => by simp at hk
  | _ :: _, 0, _, _, _, _, hk, _, _ => by simp at hk
  | [], k + 1, n, i, hi, h, hk, h0, h1 => by
    have := drop_nil h hi
    have c : ¬ ((i : Int) < (r.length : Int)) := by omega
    simp only [runs_Len_l0, c, decide_false, cond_false, lenF, Int.add_zero]
  | x :: s, k + 1, n, i, hi, h, hk, h0, h1 => by
    obtain ⟨g1, g2, g3⟩ := drop_cons h ((0 : Int), (0 : Int))
    have hx := wf_get hw h
    have c : ((i : Int) < (r.length : Int)) := by omega
    have c0 : (0 : Int) ≤ (i : Int) := by omega
    rw [runs_Len_l0]
    simp only [c, c0, decide_true, cond_true, Int.toNat_natCast, g2]
    rw [i64_in x.2 ⟨by omega, by omega⟩, i64_in (x.2 + 1) ⟨by omega, by omega⟩, i64_in (n + (x.2 + 1)) ⟨by omega, by omega⟩, i64_in (i + 1) ⟨by omega, by omega⟩, show ((i : Int) + 1) = ((i + 1 : Nat) : Int) by omega]
    rw [Len_l0_eq hw hb s k _ (i + 1) (by omega) g3 (by simp at hk; omega) (by omega) (by omega), lenF]
    congr 1
    omega
theorem Len_eq {r : List Run} {k : Nat} (hw : wfR r) (hb : r.length < 1000000) (hk : r.length + 1 ≤ k) : runs_Len k r = some (lenF r) := by
  unfold runs_Len
  rw [show runs_Len_l0 k 0 r r.length 0 = runs_Len_l0 k 0 r r.length ((0 : Nat) : Int) from rfl, Len_l0_eq hw hb r k 0 0 (by omega) rfl hk (by omega) (by omega)]
  simp
theorem half (a b : Nat) (h : a + b < 1000000000) : IntKind.wrap .i64 (shrI .u64 (IntKind.wrap .u64 (IntKind.wrap .i64 ((a : Int) + (b : Int)))) 1) = (((a + b) / 2 : Nat) : Int) := by
  rw [i64_in ((a : Int) + (b : Int)) ⟨by omega, by omega⟩, u64_in ((a : Int) + (b : Int)) ⟨by omega, by omega⟩]
  have e : shrI .u64 ((a : Int) + (b : Int)) 1 = (((a + b) / 2 : Nat) : Int) := by
    unfold shrI
    have : (2 : Int) ^ (min (Int.toNat 1) IntKind.u64.bits) = 2 := rfl
    rw [this, Int.fdiv_eq_ediv_of_nonneg _ (by omega)]
    omega
  rw [e, i64_in _ ⟨by omega, by omega⟩]
theorem has1_eq {k : Nat} {p : Run} {x : Int} (hp : 0 ≤ p.1 ∧ p.1 < 65536 ∧ 0 ≤ p.2 ∧ p.2 < 65536) (hx : 0 ≤ x ∧ x < 65536) : runs_Has_1 k p x = some (p.1 - x) := by
  unfold runs_Has_1
  rw [i64_in p.1 ⟨by omega, by omega⟩, i64_in x ⟨by omega, by omega⟩, i64_in _ ⟨by omega, by omega⟩]
theorem may_sorted : ∀ {r : List Run} {m : Int}, mayF m r = true → wfR r → ∀ (i j : Nat) (p q : Run), i < j → r[i]? = some p → r[j]? = some q → p.1 < q.1
  | [], _, _, _, i, j, p, q, _, hp, _ => by simp at hp
  | y :: t, m, h, hw, i, j, p, q, hij, hp, hq => by
    obtain ⟨h1, h2, h3⟩ := mayF_cons.1 h
    have hy := wfR_head hw
    obtain ⟨j, rfl⟩ : ∃ j', j = j' + 1 := ⟨j - 1, by omega⟩
    rw [List.getElem?_cons_succ] at hq
    cases i with
    | zero =>
      rw [List.getElem?_cons_zero] at hp
      cases hp
      have hl : ∀ {s : List Run} {m : Int}, mayF m s = true → wfR s → ∀ (j : Nat) (q : Run), s[j]? = some q → m ≤ q.1 := by
        intro s
        induction s with
        | nil => intro m _ _ j q h; simp at h
        | cons z u ih =>
          intro m h hw j q hq
          obtain ⟨g1, g2, g3⟩ := mayF_cons.1 h
          have := wfR_head hw
          cases j with
          | zero => simp at hq; subst hq; exact g1
          | succ j =>
            have := ih g3 (wfR_tail hw) j q (by simpa using hq)
            omega
      have := hl h3 (wfR_tail hw) j q hq
      omega
    | succ i =>
      rw [List.getElem?_cons_succ] at hp
      exact may_sorted h3 (wfR_tail hw) i j p q (by omega) hp hq
theorem bs_l0_eq {r : List Run} {x : Int} (hm : mayF 0 r = true) (hw : wfR r) (hb : r.length < 1000000) (hx : 0 ≤ x ∧ x < 65536) (n : Int) : ∀ (d k i j : Nat), j - i ≤ d → d + 1 ≤ k → i ≤ j → j ≤ r.length → (∀ t p, t < i → r[t]? = some p → p.1 < x) → (∀ t p, j ≤ t → r[t]? = some p → x ≤ p.1) →
    ∃ i' : Nat, slices_BinarySearchFunc_uint16_Has_1_l0 k r x n i j = some (r, x, n, (i' : Int)) ∧ i' ≤ r.length ∧ (∀ t p, t < i' → r[t]? = some p → p.1 < x) ∧ (∀ t p, i' ≤ t → r[t]? = some p → x ≤ p.1)
  | d, 0, i, j, h1, h2, h3, h4, h5, h6 => by omega
  | d, k + 1, i, j, h1, h2, h3, h4, h5, h6 => by
    rw [slices_BinarySearchFunc_uint16_Has_1_l0]
    by_cases c : i < j
    · have c1 : ((i : Int) < (j : Int)) := by omega
      have e := half i j (by omega)
      have l1 : i ≤ (i + j) / 2 := by omega
      have l2 : (i + j) / 2 < j := by omega
      generalize (i + j) / 2 = hf at e l1 l2
      simp only [c1, decide_true, cond_true]
      rw [e]
      have c2 : (0 : Int) ≤ (hf : Int) := by omega
      have c3 : (hf : Int) < (r.length : Int) := by omega
      have hlt : hf < r.length := by omega
      have hg : r[hf]? = some (r.getD hf ((0 : Int), (0 : Int))) := by simp [List.getD, hlt]
      simp only [c2, c3, decide_true, cond_true, Int.toNat_natCast]
      generalize r.getD hf ((0 : Int), (0 : Int)) = p at hg ⊢
      have hp := hw p (List.mem_of_getElem? hg)
      rw [has1_eq hp hx]
      simp only [Option.bind_some]
      have e2 : IntKind.wrap .i64 ((hf : Int) + 1) = ((hf + 1 : Nat) : Int) := by rw [i64_in _ ⟨by omega, by omega⟩]; omega
      rw [e2]
      by_cases q : p.1 - x < 0
      · simp only [q, decide_true, cond_true]
        exact bs_l0_eq hm hw hb hx n (d - 1) k (hf + 1) j (by omega) (by omega) (by omega) h4 (fun t p' ht hp' => by
          by_cases ht2 : t = hf
          · subst ht2
            rw [hg] at hp'
            cases hp'
            omega
          · have := may_sorted hm hw t hf p' p (by omega) hp' hg
            omega) h6
      · simp only [q, decide_false, cond_false]
        exact bs_l0_eq hm hw hb hx n (d - 1) k i hf (by omega) (by omega) l1 (by omega) h5 (fun t p' ht hp' => by
          by_cases ht2 : t = hf
          · subst ht2
            rw [hg] at hp'
            cases hp'
            omega
          · have := may_sorted hm hw hf t p p' (by omega) hg hp'
            omega)
    · have c1 : ¬ ((i : Int) < (j : Int)) := by omega
      have : i = j := by omega
      subst this
      exact ⟨i, by simp only [c1, decide_false, cond_false], h4, h5, h6⟩
theorem Has_eq {r : List Run} {k : Nat} {x : Int} (hm : mayF 0 r = true) (hw : wfR r) (hb : r.length < 1000000) (hk : r.length + 1 ≤ k) (hx : 0 ≤ x ∧ x < 65536) : runs_Has k r x = some (hasB r x) := by
  obtain ⟨i, e, h1, h2, h3⟩ := bs_l0_eq hm hw hb hx (r.length : Int) r.length k 0 r.length (by omega) hk (by omega) (by omega) (fun t p ht _ => by omega) (fun t p ht hp => by
    have := (List.getElem?_eq_some_iff.1 hp).1
    omega)
  have hsplit := has_split (x := x) (l := r.take i) (s := r.drop i) (m := 0) (by rw [List.take_append_drop]; exact hm) (by rw [List.take_append_drop]; exact hw)
    (fun p hp => by
      obtain ⟨t, ht⟩ := List.getElem?_of_mem hp
      rw [List.getElem?_take] at ht
      split at ht
      · rename_i c
        exact h2 t p c ht
      · cases ht)
    (fun p hp => by
      obtain ⟨t, ht⟩ := List.getElem?_of_mem hp
      rw [List.getElem?_drop] at ht
      exact h3 _ p (by omega) ht)
  rw [List.take_append_drop] at hsplit
  unfold runs_Has slices_BinarySearchFunc_uint16_Has_1
  have e' : slices_BinarySearchFunc_uint16_Has_1_l0 k r x (r.length : Int) 0 (r.length : Int) = some (r, x, (r.length : Int), (i : Int)) := e
  rw [e']
  simp only [Option.bind_some]
  -- the last one that begins below it
  have last : (bif decide ((0 : Int) < (i : Int)) then
      (bif decide ((0 : Int) ≤ IntKind.wrap .i64 ((i : Int) - 1)) then
        (bif decide (IntKind.wrap .i64 ((i : Int) - 1) < (r.length : Int)) then
          (runs_end k (r.getD (Int.toNat (IntKind.wrap .i64 ((i : Int) - 1))) ((0 : Int), (0 : Int)))).bind fun y6 => some (decide ((IntKind.wrap .i64 x) < y6))
        else none) else none) else some false) = some (lastIn (r.take i) x) := by
    cases i with
    | zero => rfl
    | succ i =>
      have c : (0 : Int) < ((i + 1 : Nat) : Int) := by omega
      have c2 : IntKind.wrap .i64 (((i + 1 : Nat) : Int) - 1) = (i : Int) := by rw [i64_in _ ⟨by omega, by omega⟩]; omega
      have c3 : (0 : Int) ≤ (i : Int) := by omega
      have c4 : (i : Int) < (r.length : Int) := by omega
      have hlt : i < r.length := by omega
      have hg : r[i]? = some (r.getD i ((0 : Int), (0 : Int))) := by simp [List.getD, hlt]
      simp only [c, c2, c3, c4, decide_true, cond_true, Int.toNat_natCast]
      have hl : (r.take (i + 1)).getLast? = some (r.getD i ((0 : Int), (0 : Int))) := by
        rw [List.getLast?_eq_getElem?, List.getElem?_take]
        have : (r.take (i + 1)).length - 1 = i := by simp; omega
        rw [this, if_pos (by omega), hg]
      unfold lastIn
      rw [hl]
      generalize r.getD i ((0 : Int), (0 : Int)) = p at hg ⊢
      have hp := hw p (List.mem_of_getElem? hg)
      rw [end_eq hp, i64_in x ⟨by omega, by omega⟩]
      rfl
  have fin : ∀ b : Bool, headIs (r.drop i) x = b → (bif b then some true else (bif decide ((0 : Int) < (i : Int)) then
      (bif decide ((0 : Int) ≤ IntKind.wrap .i64 ((i : Int) - 1)) then
        (bif decide (IntKind.wrap .i64 ((i : Int) - 1) < (r.length : Int)) then
          (runs_end k (r.getD (Int.toNat (IntKind.wrap .i64 ((i : Int) - 1))) ((0 : Int), (0 : Int)))).bind fun y6 => some (decide ((IntKind.wrap .i64 x) < y6))
        else none) else none) else some false)) = some (hasB r x) := by
    intro b hb
    rw [last, hsplit, hb]
    cases b <;> simp
  by_cases c : (i : Int) < (r.length : Int)
  · have c0 : (0 : Int) ≤ (i : Int) := by omega
    have hlt : i < r.length := by omega
    have hg : r[i]? = some (r.getD i ((0 : Int), (0 : Int))) := by simp [List.getD, hlt]
    have hd : r.drop i = r.getD i ((0 : Int), (0 : Int)) :: r.drop (i + 1) := by
      rw [List.drop_eq_getElem_cons hlt]
      simp [List.getD, hlt]
    rw [hd] at fin
    simp only [c, c0, decide_true, cond_true, Int.toNat_natCast]
    generalize r.getD i ((0 : Int), (0 : Int)) = p at hg fin ⊢
    have hp := hw p (List.mem_of_getElem? hg)
    rw [has1_eq hp hx]
    simp only [Option.bind_some]
    refine fin _ ?_
    rw [Bool.eq_iff_iff]
    simp [headIs]
    omega
  · have hd : r.drop i = [] := List.drop_eq_nil_of_le (by omega)
    rw [hd] at fin
    simp only [c, decide_false, cond_false, Option.bind_some]
    exact fin false rfl
end Go.Rx.Tryd

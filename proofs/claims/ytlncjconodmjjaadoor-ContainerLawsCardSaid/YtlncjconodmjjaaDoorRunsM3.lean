/- The functions of runs, in plain Lean: rows of edges, right runs, and both, either, the rest, just one of two. -/
import Derived.Test.YtlncjconodmjjaaDoorRunsE3
namespace Go.Rx.Tryd
open Go.Rx.Plain Go.IntWalk
set_option linter.unusedVariables false
set_option linter.unusedSimpArgs false
theorem wf_get {r : List Run} (hw : wfR r) {i : Nat} {x : Run} {s : List Run} (h : r.drop i = x :: s) : 0 ≤ x.1 ∧ x.1 < 65536 ∧ 0 ≤ x.2 ∧ x.2 < 65536 :=
  hw x (List.mem_of_mem_drop (by rw [h]; simp))
theorem end_eq {k : Nat} {x : Run} (h : 0 ≤ x.1 ∧ x.1 < 65536 ∧ 0 ≤ x.2 ∧ x.2 < 65536) : runs_end k x = some (x.1 + x.2 + 1) := by
  unfold runs_end
  rw [i64_in x.1 ⟨by omega, by omega⟩, i64_in x.2 ⟨by omega, by omega⟩, i64_in (x.1 + x.2) ⟨by omega, by omega⟩, i64_in _ ⟨by omega, by omega⟩]
theorem row_l0_eq {r : List Run} (hw : wfR r) (hb : r.length < 1000000) : ∀ (rest : List Run) (k : Nat) (acc : List Int) (i : Nat), i ≤ r.length → r.drop i = rest → rest.length + 1 ≤ k → acc.length ≤ 2 * i → runs_row_l0 k acc r r.length i = some (acc ++ rowL rest)
  | [], 0, _, _, _, _, hk, _ => by simp at hk
  | _ :: _, 0, _, _, _, _, hk, _ => by simp at hk
  | [], k + 1, acc, i, hi, h, hk, hl => by
    have := drop_nil h hi
    have c : ¬ ((i : Int) < (r.length : Int)) := by omega
    simp only [runs_row_l0, c, decide_false, cond_false, rowL, List.append_nil]
  | x :: s, k + 1, acc, i, hi, h, hk, hl => by
    obtain ⟨h1, h2, h3⟩ := drop_cons h ((0 : Int), (0 : Int))
    have hx := wf_get hw h
    have c : ((i : Int) < (r.length : Int)) := by omega
    have c0 : (0 : Int) ≤ (i : Int) := by omega
    have g1 : decide ((acc.length + 2) * 8 ≤ 140737488355328) = true := by simp; omega
    have g2 : decide (acc.length + 2 ≤ 140737488355328) = true := by simp; omega
    rw [runs_row_l0]
    simp only [c, c0, decide_true, cond_true, Int.toNat_natCast, h2, end_eq hx, Option.bind_some, List.length_cons, List.length_nil, Nat.zero_add, g1, g2]
    rw [i64_in x.1 ⟨by omega, by omega⟩, i64_in _ ⟨by omega, by omega⟩, show ((i : Int) + 1) = ((i + 1 : Nat) : Int) by omega]
    rw [row_l0_eq hw hb s k _ (i + 1) (by omega) h3 (by simp at hk; omega) (by simp; omega)]
    simp [rowL]
theorem row_eq {r : List Run} {k : Nat} (hw : wfR r) (hb : r.length < 1000000) (hk : r.length + 1 ≤ k) : runs_row k r = some (rowL r) := by
  unfold runs_row
  have := row_l0_eq hw hb r k [] 0 (by omega) rfl hk (by simp)
  simp only [Int.natCast_zero] at this
  rw [show (0 : Int) = ((0 : Nat) : Int) from rfl] at *
  rw [row_l0_eq hw hb r k [] 0 (by omega) rfl hk (by simp)]
  rfl
theorem May_l0_eq {r : List Run} (hw : wfR r) (hb : r.length < 1000000) : ∀ (rest : List Run) (k : Nat) (m : Int) (i : Nat), i ≤ r.length → r.drop i = rest → rest.length + 1 ≤ k → runs_May_l0 k m r r.length i = some (bif mayF m rest then .inr () else .inl false)
  | [], 0, _, _, _, _, hk => by simp at hk
  | _ :: _, 0, _, _, _, _, hk => by simp at hk
  | [], k + 1, m, i, hi, h, hk => by
    have := drop_nil h hi
    have c : ¬ ((i : Int) < (r.length : Int)) := by omega
    simp only [runs_May_l0, c, decide_false, cond_false, mayF, cond_true]
  | x :: s, k + 1, m, i, hi, h, hk => by
    obtain ⟨h1, h2, h3⟩ := drop_cons h ((0 : Int), (0 : Int))
    have hx := wf_get hw h
    have c : ((i : Int) < (r.length : Int)) := by omega
    have c0 : (0 : Int) ≤ (i : Int) := by omega
    rw [runs_May_l0]
    simp only [c, c0, decide_true, cond_true, Int.toNat_natCast, h2, end_eq hx, Option.bind_some, mayF]
    rw [i64_in x.1 ⟨by omega, by omega⟩, i64_in (i + 1) ⟨by omega, by omega⟩, i64_in (x.1 + x.2 + 1 + 1) ⟨by omega, by omega⟩, show ((i : Int) + 1) = ((i + 1 : Nat) : Int) by omega]
    rw [May_l0_eq hw hb s k _ (i + 1) (by omega) h3 (by simp at hk; omega)]
    by_cases q1 : x.1 < m
    · have : ¬ m ≤ x.1 := by omega
      simp [q1, this]
    · have q1' : m ≤ x.1 := by omega
      by_cases q2 : 65536 < x.1 + x.2 + 1
      · have : ¬ x.1 + x.2 < 65536 := by omega
        simp [q1, q2, this]
      · have q2' : x.1 + x.2 < 65536 := by omega
        simp only [q1, q2, q1', q2', decide_false, cond_false, decide_true, Bool.true_and]
        rw [show x.1 + x.2 + 1 + 1 = x.1 + x.2 + 2 by omega]
theorem May_eq {r : List Run} {k : Nat} (hw : wfR r) (hb : r.length < 1000000) (hk : r.length + 1 ≤ k) : runs_May k r = some (mayF 0 r) := by
  unfold runs_May
  rw [show runs_May_l0 k 0 r r.length 0 = runs_May_l0 k 0 r r.length ((0 : Nat) : Int) from rfl, May_l0_eq hw hb r k 0 0 (by omega) rfl hk]
  cases mayF 0 r <;> rfl
/-- What an answer of the calculus is. -/
structure Ans (op : Bool → Bool → Bool) (a b r : List Run) : Prop where
  may : mayF 0 r = true
  wf : wfR r
  has : ∀ x, hasB r x = op (hasB a x) (hasB b x)
  len : r.length ≤ 2 * (a.length + b.length)
theorem good_ans {op : Bool → Bool → Bool} {a b r : List Run} (h : Good op (rowL a) (rowL b) r) (ma : mayF 0 a = true) (mb : mayF 0 b = true) (wa : wfR a) (wb : wfR b) : Ans op a b r :=
  ⟨h.may, h.wf, fun x => by rw [h.has, par_row x ma wa, par_row x mb wb], by have := h.len; rw [len_row, len_row] at this; omega⟩
theorem od_row (r : List Run) : od (rowL r).length = false := by
  rw [len_row]
  unfold od
  have : 2 * r.length % 2 = 0 := by omega
  rw [this]
  rfl
theorem Or_ans {k : Nat} {a b : List Run} (ma : mayF 0 a = true) (mb : mayF 0 b = true) (wa : wfR a) (wb : wfR b) (ha : a.length < 100000) (hb : b.length < 100000) (hk : 2 * (a.length + b.length) + 5 ≤ k) :
    ∃ r, runs_Or k a b = some r ∧ Ans (fun x y => x || y) a b r := by
  obtain ⟨r, h1, h2⟩ := runs_edges_Or_1_good (k := k) (srt_row ma wa) (srt_row mb wb) (od_row a) (od_row b) (by rw [len_row]; omega) (by rw [len_row]; omega) (by rw [len_row, len_row]; omega)
  refine ⟨r, ?_, good_ans h2 ma mb wa wb⟩
  unfold runs_Or
  rw [row_eq wa (by omega) (by omega)]
  simp only [Option.bind_some]
  rw [row_eq wb (by omega) (by omega)]
  simp only [Option.bind_some]
  rw [h1]
  rfl
end Go.Rx.Tryd

/- RunsLaws' pure function answers true. -/
import Derived.Test.YtmglpacjnppbfaaRunsL
import Derived.KernelRfl
namespace Go.Rx.Try
open Go.Rx.Plain Go.IntWalk
set_option linter.unusedVariables false
set_option linter.unusedSimpArgs false
theorem known_big : isinglasslaw06_known 20000 = some true := by kernel_rfl
theorem loop4 {k : Nat} {A : List Run} {n : Int} {B C r0 r1 r2 r3 : List Run} (h0 : runs_May (k + 4) r0 = some true) (h1 : runs_May (k + 3) r1 = some true) (h2 : runs_May (k + 2) r2 = some true) (h3 : runs_May (k + 1) r3 = some true) :
    isinglasslaw06_RunsLaws_l0 (k + 5) A n B C (r0, (r1, (r2, r3))) 0 = some (.inr (A, n, B, C)) := by
  have e0 : IntKind.wrap .i64 ((0 : Int) + 1) = 1 := by rw [i64_in _ ⟨by omega, by omega⟩]; rfl
  have e1 : IntKind.wrap .i64 ((1 : Int) + 1) = 2 := by rw [i64_in _ ⟨by omega, by omega⟩]; rfl
  have e2 : IntKind.wrap .i64 ((2 : Int) + 1) = 3 := by rw [i64_in _ ⟨by omega, by omega⟩]; rfl
  have e3 : IntKind.wrap .i64 ((3 : Int) + 1) = 4 := by rw [i64_in _ ⟨by omega, by omega⟩]; rfl
  rw [isinglasslaw06_RunsLaws_l0]
  simp only [show (0 : Int) < 4 by omega, decide_true, cond_true, h0, Option.bind_some, Bool.not_true, cond_false, e0]
  rw [isinglasslaw06_RunsLaws_l0]
  simp only [show (1 : Int) < 4 by omega, show ¬ (1 : Int) = 0 by omega, decide_true, decide_false, cond_true, h1, Option.bind_some, Bool.not_true, cond_false, e1]
  rw [isinglasslaw06_RunsLaws_l0]
  simp only [show (2 : Int) < 4 by omega, show ¬ (2 : Int) = 0 by omega, show ¬ (2 : Int) = 1 by omega, decide_true, decide_false, cond_true, h2, Option.bind_some, Bool.not_true, cond_false, e2]
  rw [isinglasslaw06_RunsLaws_l0]
  simp only [show (3 : Int) < 4 by omega, show ¬ (3 : Int) = 0 by omega, show ¬ (3 : Int) = 1 by omega, show ¬ (3 : Int) = 2 by omega, decide_true, decide_false, cond_true, h3, Option.bind_some, Bool.not_true, cond_false, e3]
  rw [isinglasslaw06_RunsLaws_l0]
  simp only [show ¬ (4 : Int) < 4 by omega, decide_false, cond_false]
theorem laws {a b : List Run} {lo hi n : Int} (wa : wfR a) (wb : wfR b) (hn0 : -9223372036854775808 ≤ n) (hn1 : n ≤ 9223372036854775807) : isinglasslaw06_RunsLaws 20000 a b lo hi n = some true := by
  unfold isinglasslaw06_RunsLaws
  by_cases la : (500 : Int) < (a.length : Int)
  · simp only [la, decide_true, cond_true, known_big, Option.bind_some]
  by_cases lb : (500 : Int) < (b.length : Int)
  · simp only [la, lb, decide_true, decide_false, cond_true, cond_false, known_big, Option.bind_some]
  simp only [la, lb, decide_false, cond_false]
  rw [May_eq wa (by omega) (by omega)]
  simp only [Option.bind_some]
  cases ma : mayF 0 a with
  | false => simp only [Bool.not_false, cond_true, known_big, Option.bind_some]
  | true =>
  simp only [Bool.not_true, cond_false]
  rw [May_eq wb (by omega) (by omega)]
  simp only [Option.bind_some]
  cases mb : mayF 0 b with
  | false => simp only [Bool.not_false, cond_true, known_big, Option.bind_some]
  | true =>
  simp only [Bool.not_true, cond_false]
  obtain ⟨rest, e1, q1⟩ := AndNot_ans (k := 20000) ma mb wa wb (by omega) (by omega) (by omega)
  obtain ⟨both, e2, q2⟩ := And_ans (k := 20000) ma mb wa wb (by omega) (by omega) (by omega)
  obtain ⟨one, e3, q3⟩ := Xor_ans (k := 20000) ma mb wa wb (by omega) (by omega) (by omega)
  have l1 := q1.len
  have l2 := q2.len
  have l3 := q3.len
  obtain ⟨o1, e4, q4⟩ := Or_ans (k := 20000) q1.may q2.may q1.wf q2.wf (by omega) (by omega) (by omega)
  have l4 := q4.len
  obtain ⟨o2, e5, q5⟩ := Xor_ans (k := 20000) q3.may mb q3.wf wb (by omega) (by omega) (by omega)
  have l5 := q5.len
  obtain ⟨f1, e6, q6⟩ := Flip_ans (k := 20000) (lo := lo) (hi := hi) ma wa (by omega) (by omega)
  have l6 := q6.len
  obtain ⟨f2, e7, q7⟩ := Flip_ans (k := 20000) (lo := lo) (hi := hi) q6.may q6.wf (by omega) (by omega)
  have l7 := q7.len
  obtain ⟨z, e8, q8⟩ := And_ans (k := 20000) q1.may mb q1.wf wb (by omega) (by omega) (by omega)
  have s1 : o1 = a := may_ext q4.may ma q4.wf wa fun x => by
    rw [q4.has, q1.has, q2.has]
    cases hasB a x <;> cases hasB b x <;> rfl
  have s2 : o2 = a := may_ext q5.may ma q5.wf wa fun x => by
    rw [q5.has, q3.has]
    cases hasB a x <;> cases hasB b x <;> rfl
  have s3 : f2 = a := may_ext q7.may ma q7.wf wa fun x => by
    rw [q7.has, q6.has]
    cases hasB a x <;> cases (decide (max lo 0 ≤ x) && decide (x < min hi 65536)) <;> rfl
  have s4 : z = [] := may_ext q8.may (n := 0) rfl q8.wf (fun p hp => nomatch hp) fun x => by
    rw [q8.has, q1.has, hasB_nil]
    cases hasB a x <;> cases hasB b x <;> rfl
  have ll : lenF both + lenF rest = lenF a := by
    rw [len_cnt q2.may q2.wf, len_cnt q1.may q1.wf, len_cnt ma wa, ← cnt_or]
    · refine cnt_congr _ fun x => ?_
      rw [q1.has, q2.has]
      cases hasB a x <;> cases hasB b x <;> rfl
    · intro x h1 h2
      rw [q2.has] at h1
      rw [q1.has] at h2
      revert h1 h2
      cases hasB a x <;> cases hasB b x <;> simp
  have hl4 := loop4 (k := 19995) (A := a) (n := n) (B := rest) (C := both) (May_eq (k := 19999) q1.wf (by omega) (by omega) |>.trans (by rw [q1.may])) (May_eq (k := 19998) q2.wf (by omega) (by omega) |>.trans (by rw [q2.may]))
    (May_eq (k := 19997) q3.wf (by omega) (by omega) |>.trans (by rw [q3.may])) (May_eq (k := 19996) q6.wf (by omega) (by omega) |>.trans (by rw [q6.may]))
  have g1 := len_le wa
  have g2 := len_le q2.wf
  have g3 := len_nonneg q2.wf
  have g4 := len_le q1.wf
  have g5 := len_nonneg q1.wf
  have r7 : runs_Rank 20000 a 70000 = some (lenF a) := by rw [Rank_eq (by omega) wa (by omega) (by omega), show max (70000 : Int) 0 = 70000 from rfl, rank_len ma wa (by omega)]
  have n1 : runs_Len 20000 a = some (lenF a) := Len_eq wa (by omega) (by omega)
  have n2 : runs_Len 20000 both = some (lenF both) := Len_eq q2.wf (by omega) (by omega)
  have n3 : runs_Len 20000 rest = some (lenF rest) := Len_eq q1.wf (by omega) (by omega)
  have w1 : IntKind.wrap .i64 (lenF both + lenF rest) = lenF a := by rw [ll, i64_in _ ⟨by omega, by omega⟩]
  have sa : isinglassref06_Same 20000 a a = some true := by rw [Same_eq (by omega) (by omega)]; simp
  simp only [e1, e2, e3, e4, e5, e6, e7, e8, Option.bind_some, sa, s1, s2, s3, s4, decide_true, Bool.not_true, cond_false, List.length_nil]
  have hl4' : isinglasslaw06_RunsLaws_l0 20000 a n rest both (rest, both, one, f1) 0 = some (.inr (a, n, rest, both)) := hl4
  rw [hl4']
  simp only [Option.bind_some, show ((0 : Nat) : Int) = 0 from rfl, decide_true, Bool.not_true, cond_false]
  rcases Select_eq (k := 20000) ma wa (by omega) (by omega) hn0 hn1 with hs | ⟨x, hs, x0, x1, x2, x3, x4⟩
  · rw [hs]
    simp only [Option.bind_some, Bool.not_false, cond_true, r7, n1, n2, n3, w1, decide_true, known_big]
  · rw [hs]
    have hr1 : runs_Rank 20000 a (IntKind.wrap .i64 x) = some n := by
      rw [i64_in x ⟨by omega, by omega⟩, Rank_eq (by omega) wa (by omega) (by omega), show max x 0 = x by omega, x2]
    have hr2 : runs_Rank 20000 a (IntKind.wrap .i64 ((IntKind.wrap .i64 x) + 1)) = some (n + 1) := by
      rw [i64_in x ⟨by omega, by omega⟩, i64_in (x + 1) ⟨by omega, by omega⟩, Rank_eq (by omega) wa (by omega) (by omega), show max (x + 1) 0 = x + 1 by omega, x3]
    have hh : runs_Has 20000 a x = some true := by rw [Has_eq ma wa (by omega) (by omega) ⟨x0, x1⟩, x4]
    have rl := rank_le (x := x + 1) wa
    rw [x3] at rl
    have hw : IntKind.wrap .i64 (n + 1) = n + 1 := i64_in _ ⟨by omega, by omega⟩
    simp only [Option.bind_some, Bool.not_true, cond_false, hr1, hr2, hh, hw, decide_true, cond_true, r7, n1, n2, n3, w1, known_big]
end Go.Rx.Try

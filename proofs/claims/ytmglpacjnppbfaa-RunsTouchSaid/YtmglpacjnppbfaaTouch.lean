/- RunsTouch's pure function answers true. -/
import Derived.Test.YtmglpacjnppbfaaRunsM
import Derived.KernelRfl
namespace Go.Rx.Try
open Go.Rx.Plain Go.IntWalk
set_option linter.unusedVariables false
set_option linter.unusedSimpArgs false
theorem known_eq : isinglasslaw06_known 30 = some true := by kernel_rfl
theorem touch {a b c : Int} (ha : 0 ≤ a ∧ a ≤ 65535) (hb : 0 ≤ b ∧ b ≤ 65535) (hc : 0 ≤ c ∧ c ≤ 65535) : isinglasslaw06_RunsTouch 30 a b c = some true := by
  unfold isinglasslaw06_RunsTouch
  simp only [known_eq, Option.bind_some]
  rw [i64_in a ⟨by omega, by omega⟩, i64_in b ⟨by omega, by omega⟩, i64_in c ⟨by omega, by omega⟩, i64_in (a + b) ⟨by omega, by omega⟩, i64_in (a + b + 1) ⟨by omega, by omega⟩, i64_in (a + b + 1 + 1) ⟨by omega, by omega⟩, i64_in (a + b + 1 + 1 + c) ⟨by omega, by omega⟩]
  by_cases q : 65536 ≤ a + b + 1 + 1 + c
  · simp only [q, decide_true, cond_true]
  · simp only [q, decide_false, cond_false]
    rw [u16_in (a + b + 1) ⟨by omega, by omega⟩, u16_in (a + b + 1 + 1) ⟨by omega, by omega⟩, u16_in (b + c) ⟨by omega, by omega⟩, u16_in (b + c + 1) ⟨by omega, by omega⟩]
    have wA : wfR [(a, b)] := by intro p hp; simp at hp; subst hp; exact ⟨by omega, by omega, by omega, by omega⟩
    have wB : wfR [(a + b + 1, c)] := by intro p hp; simp at hp; subst hp; exact ⟨by show 0 ≤ a + b + 1; omega, by show a + b + 1 < 65536; omega, by omega, by omega⟩
    have wC : wfR [(a + b + 1 + 1, c)] := by intro p hp; simp at hp; subst hp; exact ⟨by show 0 ≤ a + b + 1 + 1; omega, by show a + b + 1 + 1 < 65536; omega, by omega, by omega⟩
    have mA : mayF 0 [(a, b)] = true := by simp [mayF]; omega
    have mB : mayF 0 [(a + b + 1, c)] = true := by simp [mayF]; omega
    have mC : mayF 0 [(a + b + 1 + 1, c)] = true := by simp [mayF]; omega
    obtain ⟨r1, e1, n1⟩ := Or_ans (k := 30) mA mB wA wB (by simp) (by simp) (by simp)
    obtain ⟨r2, e2, n2⟩ := Or_ans (k := 30) mC mA wC wA (by simp) (by simp) (by simp)
    have f1 : r1 = [(a, b + c + 1)] := by
      refine may_ext n1.may (n := 0) (by simp [mayF]; omega) n1.wf (by intro p hp; simp at hp; subst hp; exact ⟨by omega, by omega, by show 0 ≤ b + c + 1; omega, by show b + c + 1 < 65536; omega⟩) fun x => ?_
      rw [n1.has x, Bool.eq_iff_iff]
      simp [hasB]
      omega
    have m2 : mayF 0 [(a, b), (a + b + 1 + 1, c)] = true := by simp [mayF]; omega
    have w2 : wfR [(a, b), (a + b + 1 + 1, c)] := by
      intro p hp
      simp at hp
      rcases hp with hp | hp
      · subst hp; exact ⟨by omega, by omega, by omega, by omega⟩
      · subst hp; exact ⟨by show 0 ≤ a + b + 1 + 1; omega, by show a + b + 1 + 1 < 65536; omega, by omega, by omega⟩
    have f2 : r2 = [(a, b), (a + b + 1 + 1, c)] := by
      refine may_ext n2.may m2 n2.wf w2 fun x => ?_
      rw [n2.has x, Bool.eq_iff_iff]
      simp [hasB]
      omega
    rw [e1, e2, f1, f2]
    have w3 : wfR [(a, b), (a + b + 1, c)] := by
      intro p hp
      simp at hp
      rcases hp with hp | hp
      · subst hp; exact ⟨by omega, by omega, by omega, by omega⟩
      · subst hp; exact ⟨by show 0 ≤ a + b + 1; omega, by show a + b + 1 < 65536; omega, by omega, by omega⟩
    have m3 : mayF 0 [(a, b), (a + b + 1, c)] = false := by
      have : ¬ a + b + 2 ≤ a + b + 1 := by omega
      simp [mayF, this]
    have z0 : Int.toNat 0 = 0 := rfl
    have z1 : Int.toNat 1 = 1 := rfl
    simp only [Option.bind_some, List.length_cons, List.length_nil, List.getD_cons_zero, List.getD_cons_succ, z0, z1]
    rw [May_eq w2 (by simp) (by simp), May_eq w3 (by simp) (by simp), m2, m3]
    simp
end Go.Rx.Try

/- RunsLaws: for every input the law answers true, and each argument reads afterwards as before. -/
import Derived.Test.YtmglpacjnppbfaaRows
import Derived.WalkKit
import Derived.ProofKit
import Derived.OpenShut
import Derived.Test.YtmglpacjnppbfaaLawsP
import Derived.Test.YtmglpacjnppbfaaOpen
import Derived.Test.YtmglpacjnppbfaaLawsT
namespace Go.Proofs.Ytmglpacjnppbfaa.runsLaws
open Go.ChangeShapes Go.WideShapes Go.ChangeAt Go.RowKit
set_option linter.unusedVariables false
theorem own : ownKnob Try.prog.godebug = none := by kernel_rfl
theorem kids : Kids Try.prog (· < Try.prog.types.size) := kids_rows (by kernel_rfl) (by kernel_rfl)
theorem full : ∀ t e, t < Try.prog.types.size → Try.prog.underlying t = some (.slice e) → 0 < Try.prog.cellsOf e := slices_full_of Try.prog (by kernel_rfl)
theorem sh26 : Go.Rx.ShOK Try.prog (.sl (.st (.pair (.int .u16) (.int .u16)))) 26 :=
  .sl Try.underlying26 (by kernel_rfl) (by decide) (.st Try.underlying25 (by kernel_rfl) (.more rfl (by kernel_rfl) (.int Try.underlying22) (.one rfl (by kernel_rfl) (.int Try.underlying22))))
abbrev E0 : Go.Rx.Env := ⟨fun _ => 0, fun _ => (none, 0, 0), fun _ => 0⟩
theorem wf26 {xs : List (Int × Int)} (h : Go.Rx.Wf (.sl (.st (.pair (.int .u16) (.int .u16)))) xs) : Go.Rx.Plain.wfR xs := by
  intro p hp
  obtain ⟨h1, h2⟩ := h.2 p hp
  have h1 : (Lit.int .u16 p.1).wf = true := h1
  have h2 : (Lit.int .u16 p.2).wf = true := h2
  have r1 : IntKind.min .u16 ≤ p.1 ∧ p.1 ≤ IntKind.max .u16 := by simpa [Lit.wf] using h1
  have r2 : IntKind.min .u16 ≤ p.2 ∧ p.2 ≤ IntKind.max .u16 := by simpa [Lit.wf] using h2
  have e1 : IntKind.min .u16 = 0 := rfl
  have e2 : IntKind.max .u16 = 65535 := rfl
  rw [e1, e2] at r1 r2
  omega
theorem walk (x0 x1 : List (Int × Int)) (a2 a3 a4 : Int) (f0 : Go.Rx.Plain.wfR x0) (f1 : Go.Rx.Plain.wfR x1) (w4 : (Lit.int .i64 a4).wf = true) (v0 v1 : Value) (w : World)
    (h0 : Go.Rx.RepV (fun _ => False) E0 (fun b => b < w.heap.size) w (.psl (.st (.pair (.int .u16) (.int .u16))) x0) v0) (h1 : Go.Rx.RepV (fun _ => False) E0 (fun b => b < w.heap.size) w (.psl (.st (.pair (.int .u16) (.int .u16))) x1) v1) :
    Calls Try.prog 4 #[v0, v1, .int .i64 a2, .int .i64 a3, .int .i64 a4] w fun e w' => e = .returned (.bool true) ∧ Grown w w' := by
  have r4 : IntKind.min .i64 ≤ a4 ∧ a4 ≤ IntKind.max .i64 := by simpa [Lit.wf] using w4
  have e1 : IntKind.min .i64 = -9223372036854775808 := rfl
  have e2 : IntKind.max .i64 = 9223372036854775807 := rfl
  rw [e1, e2] at r4
  exact Go.Rx.law_calls (Go.Rx.Try.ok_isinglasslaw06_RunsLaws 20000) (args := [.psl (.st (.pair (.int .u16) (.int .u16))) x0, .psl (.st (.pair (.int .u16) (.int .u16))) x1, .int .i64 a2, .int .i64 a3, .int .i64 a4]) (x := (x0, x1, a2, a3, a4)) rfl rfl (Go.Rx.Try.laws (lo := a2) (hi := a3) f0 f1 r4.1 r4.2) rfl
    (A0 := fun b => b < w.heap.size) (E0 := E0) (fun _ h => h) (fun g e xs h => nomatch h)
    (by
      simp only [Go.Rx.RepL]
      exact ⟨_, _, rfl, h0, _, _, rfl, h1, _, _, rfl, by simp [Go.Rx.RepV], _, _, rfl, by simp [Go.Rx.RepV], _, _, rfl, by simp [Go.Rx.RepV], rfl⟩)
set_option maxRecDepth 100000 in
theorem lifted (os : Os) (started : os.Started) (H : Type) (enc : TypeId × Value → H) :
    ReturnsInHanded {} Try.checked os 4 .any (Rows.runsLawsSpec.pre6 enc Try.prog Try.f4 Rows.runsLawsRow.domain false) (Rows.runsLawsSpec.post enc Try.prog Try.f4 false true false false) := by
  refine returnsInHanded_of_change (C := Try.checked) own started (by kernel_rfl) Try.func4
    (ChangeSpec.witness6 (enc := enc) (C := Try.checked) false ⟨#[], #[.slice none 0 0, .slice none 0 0, .int .i64 0, .int .i64 0, .int .i64 0], []⟩ 8 (by kernel_rfl) (by kernel_rfl) (by kernel_rfl) (by kernel_rfl)) ?_
  intro W base args ds gs before hval0 hW hcnd _
  have hval : ∀ (j : Nat) t v, Try.f4.params[j]? = some t → args[j]? = some v → Value.okWide Try.prog W .any base t v := hval0
  have hW' := hW
  obtain ⟨p, q, hA0, hV, rfl, hfz, hnd⟩ := hW
  have hA : DataW.TrodAll enc Try.prog W 0 (fun _ => true) true Try.f4.params.toList args.toList ds p := hA0
  have hAk := hA
  rw [Try.params4] at hA hval
  obtain ⟨v0, vs0, d0, ds0, p0, q0, hargs, rfl, rfl, h0, r0⟩ := trodAll_cons hA
  obtain ⟨v1, vs1, d1, ds1, p1, q1, rfl, rfl, rfl, h1, r1⟩ := trodAll_cons r0
  obtain ⟨v2, vs2, d2, ds2, p2, q2, rfl, rfl, rfl, h2, r2⟩ := trodAll_cons r1
  obtain ⟨v3, vs3, d3, ds3, p3, q3, rfl, rfl, rfl, h3, r3⟩ := trodAll_cons r2
  obtain ⟨v4, vs4, d4, ds4, p4, q4, rfl, rfl, rfl, h4, r4⟩ := trodAll_cons r3
  obtain ⟨rfl, rfl, rfl⟩ := trodAll_nil r4
  obtain rfl : args = #[v0, v1, v2, v3, v4] := by cases args; simp_all
  obtain ⟨rfl, rfl⟩ := trodVars_none hV
  obtain ⟨x0, b0, f0⟩ := Go.Rx.open_sl (A := fun b => b < W.heap.size) (D := fun _ => False) (E := E0) (fun _ h => h) sh26 (Value.okWide_any_base (hval 0 26 v0 rfl rfl)) h0
  obtain ⟨x1, b1, f1⟩ := Go.Rx.open_sl (A := fun b => b < W.heap.size) (D := fun _ => False) (E := E0) (fun _ h => h) sh26 (Value.okWide_any_base (hval 1 26 v1 rfl rfl)) h1
  obtain ⟨a2, rfl, rfl, rfl, w2⟩ := open_int Try.underlying3 (hval 2 3 v2 rfl rfl) h2
  obtain ⟨a3, rfl, rfl, rfl, w3⟩ := open_int Try.underlying3 (hval 3 3 v3 rfl rfl) h3
  obtain ⟨a4, rfl, rfl, rfl, w4⟩ := open_int Try.underlying3 (hval 4 3 v4 rfl rfl) h4
  clear hA0 hval0
  simp only [List.append_nil] at hW' hAk
  refine (walk x0 x1 a2 a3 a4 (wf26 f0) (wf26 f1) w4 v0 v1 W b0 b1).mono fun e W' ⟨he, hg⟩ => ?_
  subst he
  exact ⟨_, rfl, post_of_same (pv := []) hW' (fun _ _ _ => (trodAll_cons_mk (shut_bool Try.underlying4 _) trodAll_mk0)) (fun sp hsp => Go.Rx.args_again kids full hg (by rw [Try.params4]; decide) hAk sp hsp) (fun _ _ => rfl) (by simp)
    (hg.frame _) hg.2.1 (ok_one (by kernel_rfl) rfl (okWide_bool_mk Try.underlying4 _))⟩
theorem over : Rows.runsLawsRow.holds Try.pinned (OpenSpec.ofChange Rows.runsLawsSpec) :=
  OpenClaim.holds_of_wide 4 Try.f4 rfl rfl rfl rfl rfl rfl rfl ⟨rfl, rfl, rfl, rfl, rfl⟩ rfl rfl rfl rfl rfl (by kernel_rfl) Try.func4 (by kernel_rfl)
    (of_decide_eq_true (by kernel_rfl)) (by unfold Func.isWrapper; first | (rw [if_pos (by decide +kernel)]; kernel_rfl) | (rw [if_neg (by decide +kernel)]; exact ⟨rfl, rfl⟩))
    (fun os started H enc _ => lifted os started H enc)
theorem proved : Rows.RunsLawsSaid :=
  over
#print axioms proved
end Go.Proofs.Ytmglpacjnppbfaa.runsLaws

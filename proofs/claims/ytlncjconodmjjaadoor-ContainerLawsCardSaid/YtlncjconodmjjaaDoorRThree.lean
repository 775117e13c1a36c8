/- ContainerLaws: for every input the law answers true, and each argument reads afterwards as before; the table of the library that it reads stands as the program's text lays it. -/
import Derived.Test.YtlncjconodmjjaaDoorRows
import Derived.WalkKit
import Derived.ProofKit
import Derived.OpenShut
import Derived.LaidMore
import Derived.Stop.Joined
import Derived.SevenTiedAt
import Derived.Test.YtlncjconodmjjaaDoorCards
import Derived.Test.YtlncjconodmjjaaDoorTie
import Derived.Test.YtlncjconodmjjaaDoorCpP2
import Derived.Test.YtlncjconodmjjaaDoorOpen
import Derived.Test.YtlncjconodmjjaaDoorThreeT
import Derived.Test.YtlncjconodmjjaaDoorWfR
namespace Go.Proofs.YtlncjconodmjjaaDoor.containerLaws
open Go.ChangeShapes Go.WideShapes Go.ChangeAt Go.RowKit
set_option linter.unusedVariables false
theorem own : ownKnob Tryd.prog.godebug = none := by kernel_rfl
theorem kids : Kids Tryd.prog (· < Tryd.prog.types.size) := kids_rows (by kernel_rfl) (by kernel_rfl)
theorem full : ∀ t e, t < Tryd.prog.types.size → Tryd.prog.underlying t = some (.slice e) → 0 < Tryd.prog.cellsOf e := slices_full_of Tryd.prog (by kernel_rfl)
abbrev E0 : Go.Rx.Env := ⟨fun _ => 0, fun _ => (none, 0, 0), fun _ => 0⟩
theorem sh22 : Go.Rx.ShOK Tryd.prog (.sl (.int .u16)) 22 := .sl Tryd.underlying22 (by kernel_rfl) (by decide) (.int Tryd.underlying40)
theorem gTab : Tryd.prog.globalNamed "math/bits.deBruijn64tab" = some 0 := by kernel_rfl
theorem tTab : (Tryd.prog.globals[0]?).map (·.type) = some 100 := by kernel_rfl
theorem door_met (os : Os) (args : Array Value) : laidMetH Tryd.prog [("math/bits.deBruijn64tab", Rows.laid_math_bits_deBruijn64tab)] ((World.doorLaid Tryd.prog 400 os).forCall (fun _ _ => 0) ⟨#[], args, []⟩).memory :=
  laidMetH_of_parts3 (fuel := 8) (laidMet_of_run' 8 (by kernel_rfl) (by kernel_rfl)) (by kernel_rfl) (by kernel_rfl)
theorem gl_of {W : World} (hL : laidMetH Tryd.prog [("math/bits.deBruijn64tab", Rows.laid_math_bits_deBruijn64tab)] W) (hb : 0 < W.heap.size) : ∀ (g : Nat) (e : Go.Rx.Sh) (xs : List e.T), Go.Rx.Tryd.gl g = some ⟨e, xs⟩ → g < W.heap.size ∧ ∃ cells, Go.Rx.RowsL (fun x c => Go.Rx.PC (fun b => b < W.heap.size) W e x c) xs cells ∧ Go.Rx.At W ⟨g, 0, none⟩ cells := by
  intro g e xs h
  rw [MakeChecks.laidMetH_plain _ _ _ (by kernel_rfl)] at hL
  obtain ⟨ps, hl, _, _⟩ := hL
  unfold Go.Rx.Tryd.gl at h
  split at h
  · cases h
    refine ⟨hb, ?_⟩
    have hlen : Go.Rx.Tryd.deBruijn64.length = 64 := by rw [Go.Rx.Tryd.deBruijn_eq]; rfl
    exact Go.Rx.tab_of_laid (tab := Go.Rx.Tryd.deBruijn64) gTab tTab (by rw [hlen]; exact Tryd.underlying100) Tryd.underlying5 (by kernel_rfl) (by rw [hlen]; kernel_rfl) (by rw [Go.Rx.Tryd.deBruijn_eq]; rfl) hl
  · cases h
theorem walk (w : World) (x0 : List Int) (v0 : Value) (x1 : List Int) (v1 : Value) (x2 : List Int) (v2 : Value) (a3 : Int) (f0 : Go.Rx.Wf (.sl (.int .u16)) x0) (b0 : Go.Rx.RepV (fun _ => False) E0 (fun b => b < w.heap.size) w (.psl (.int .u16) x0) v0) (f1 : Go.Rx.Wf (.sl (.int .u16)) x1) (b1 : Go.Rx.RepV (fun _ => False) E0 (fun b => b < w.heap.size) w (.psl (.int .u16) x1) v1) (f2 : Go.Rx.Wf (.sl (.int .u16)) x2) (b2 : Go.Rx.RepV (fun _ => False) E0 (fun b => b < w.heap.size) w (.psl (.int .u16) x2) v2) (w3 : (Lit.int .u8 a3).wf = true) (hgl : ∀ (g : Nat) (e : Go.Rx.Sh) (xs : List e.T), Go.Rx.Tryd.gl g = some ⟨e, xs⟩ → g < w.heap.size ∧ ∃ cells, Go.Rx.RowsL (fun x c => Go.Rx.PC (fun b => b < w.heap.size) w e x c) xs cells ∧ Go.Rx.At w ⟨g, 0, none⟩ cells) :
    Calls Tryd.prog 5 #[v0, v1, v2, .int .u8 a3] w fun e w' => e = .returned (.bool true) ∧ Grown w w' := by
  exact Go.Rx.law_calls (Go.Rx.Tryd.ok_isinglasslaw07_ContainerLaws 400000) (args := [.psl (.int .u16) x0, .psl (.int .u16) x1, .psl (.int .u16) x2, .int .u8 a3]) (x := (x0, x1, x2, a3)) rfl rfl (Go.Rx.Tryd.three (kd := a3) (Go.Rx.wf_u16s f0) (Go.Rx.wf_u16s f1) (Go.Rx.wf_u16s f2) (Go.Rx.wf_u8 w3)) rfl
    (A0 := fun b => b < w.heap.size) (E0 := E0) (fun _ h => h) hgl
    (by
      simp only [Go.Rx.RepL]
      exact ⟨_, _, rfl, b0, ⟨_, _, rfl, b1, ⟨_, _, rfl, b2, ⟨_, _, rfl, (by simp [Go.Rx.RepV]), rfl⟩⟩⟩⟩)
set_option maxRecDepth 100000 in
theorem lifted (os : Os) (started : os.Started) (H : Type) (enc : TypeId × Value → H) :
    ReturnsInHanded {} Tryd.checked os 5 .any (fun w args => (Rows.containerLawsSpec.pre enc Tryd.prog Tryd.f5 [] false w args ∧ laidMetH Tryd.prog [("math/bits.deBruijn64tab", Rows.laid_math_bits_deBruijn64tab)] w) ∧ sizedMet enc Tryd.prog Tryd.f5 (OpenSpec.ofChange Rows.containerLawsSpec) false w args) (Rows.containerLawsSpec.post enc Tryd.prog Tryd.f5 false true false false) := by
  refine returnsInHanded_of_change_and (C := Tryd.checked) (X := fun w _ => laidMetH Tryd.prog [("math/bits.deBruijn64tab", Rows.laid_math_bits_deBruijn64tab)] w) (fun _ _ _ hh h => h.of_heap hh) own started (by kernel_rfl) Tryd.func5
    (ChangeSpec.witness_shaped (enc := enc) (C := Tryd.checked) (os := os) (X := fun w _ => laidMetH Tryd.prog [("math/bits.deBruijn64tab", Rows.laid_math_bits_deBruijn64tab)] w) false (World.doorLaid Tryd.prog 400 os) #[.slice none 0 0, .slice none 0 0, .slice none 0 0, .int .u8 0] 8 rfl (World.shaped_of_RefB (by kernel_rfl) (by kernel_rfl)) (by kernel_rfl) (by kernel_rfl) (by kernel_rfl) (door_met os _)) ?_
  intro W base args ds gs before hval0 hW _ _ hL _
  have hval : ∀ (j : Nat) t v, Tryd.f5.params[j]? = some t → args[j]? = some v → Value.okWide Tryd.prog W .any base t v := hval0
  have hW' := hW
  obtain ⟨p, q, hA0, hV, rfl, hfz, hnd⟩ := hW
  have hA : DataW.TrodAll enc Tryd.prog W 0 (fun _ => true) true Tryd.f5.params.toList args.toList ds p := hA0
  have hAk := hA
  rw [Tryd.params5] at hA hval
  obtain ⟨v0, vs0, d0, ds0, p0, q0, hargs, rfl, rfl, h0, r0⟩ := trodAll_cons hA
  obtain ⟨v1, vs1, d1, ds1, p1, q1, rfl, rfl, rfl, h1, r1⟩ := trodAll_cons r0
  obtain ⟨v2, vs2, d2, ds2, p2, q2, rfl, rfl, rfl, h2, r2⟩ := trodAll_cons r1
  obtain ⟨v3, vs3, d3, ds3, p3, q3, rfl, rfl, rfl, h3, r3⟩ := trodAll_cons r2
  obtain ⟨rfl, rfl, rfl⟩ := trodAll_nil r3
  obtain rfl : args = #[v0, v1, v2, v3] := by cases args; simp_all
  obtain ⟨rfl, rfl⟩ := trodVars_none hV
  obtain ⟨x0, b0, f0⟩ := Go.Rx.open_sl (A := fun b => b < W.heap.size) (D := fun _ => False) (E := E0) (fun _ h => h) sh22 (Value.okWide_any_base (hval 0 22 v0 rfl rfl)) h0
  obtain ⟨x1, b1, f1⟩ := Go.Rx.open_sl (A := fun b => b < W.heap.size) (D := fun _ => False) (E := E0) (fun _ h => h) sh22 (Value.okWide_any_base (hval 1 22 v1 rfl rfl)) h1
  obtain ⟨x2, b2, f2⟩ := Go.Rx.open_sl (A := fun b => b < W.heap.size) (D := fun _ => False) (E := E0) (fun _ h => h) sh22 (Value.okWide_any_base (hval 2 22 v2 rfl rfl)) h2
  obtain ⟨a3, rfl, rfl, rfl, w3⟩ := open_int Tryd.underlying5 (hval 3 5 v3 rfl rfl) h3
  clear hA0 hval0
  simp only [List.append_nil] at hW' hAk
  have hb : 0 < W.heap.size := by
    rw [MakeChecks.laidMetH_plain _ _ _ (by kernel_rfl)] at hL
    obtain ⟨ps, ⟨g0, t0, cs0, f0, p0, q0, hg0, ht0, hv0, hd0, _, _⟩, _, _⟩ := hL
    obtain rfl := Option.some.inj (gTab.symm.trans hg0)
    simp only [World.var?, gTab, Option.bind_some] at hv0
    split at hv0
    · rename_i c _ _ hh
      exact (Array.getElem?_eq_some_iff.1 hh).1
    · cases hv0
  refine (walk W x0 v0 x1 v1 x2 v2 a3 f0 b0 f1 b1 f2 b2 w3 (gl_of hL hb)).mono fun e W' ⟨he, hg⟩ => ?_
  subst he
  exact ⟨_, rfl, post_of_same (pv := []) hW' (fun _ _ _ => (trodAll_cons_mk (shut_bool Tryd.underlying4 _) trodAll_mk0)) (fun sp hsp => Go.Rx.args_again kids full hg (by rw [Tryd.params5]; decide) hAk sp hsp) (fun _ _ => rfl) (by simp)
    (hg.frame _) hg.2.1 (ok_one (by kernel_rfl) rfl (okWide_bool_mk Tryd.underlying4 _))⟩
theorem over : Rows.containerLawsRow.holds Tryd.pinned (OpenSpec.ofChange Rows.containerLawsSpec) :=
  OpenClaim.holds_of_wide 5 Tryd.f5 rfl rfl rfl rfl rfl rfl rfl ⟨rfl, rfl, rfl, rfl, rfl⟩ rfl rfl rfl rfl rfl (by kernel_rfl) Tryd.func5 (by kernel_rfl)
    (of_decide_eq_true (by kernel_rfl)) (by unfold Func.isWrapper; first | (rw [if_pos (by decide +kernel)]; kernel_rfl) | (rw [if_neg (by decide +kernel)]; exact ⟨rfl, rfl⟩))
    (fun os started H enc _ => lifted os started H enc)
theorem proved : Rows.ContainerLawsCardSaid :=
  Claim7.holds_tied_plain_at .later [] [.data] true (true, "391c9c8d66a4e7029af60441e6ce6f78fea9236eb72fa2a958a4f9816d073d4b") false
    over (fun _ h => by cases h) (by kernel_rfl) (fun _ h => by cases h) containerLaws_row_tie rfl ⟨rfl, rfl⟩ (by kernel_rfl) rfl
    (fun f fn hf hfn => by
      obtain rfl : f = 5 := Option.some.inj ((show Tryd.prog.funcNamed "isinglass/isinglasslaw07.ContainerLaws" = some 5 by kernel_rfl).symm.trans hf) |>.symm
      obtain rfl : fn = Tryd.f5 := (Option.some.inj (Tryd.func5.symm.trans hfn)).symm
      exact ⟨by kernel_rfl, fun j t ht => by
        rw [Tryd.params5] at ht
        have hm : t ∈ [22, 22, 22, 5] := by simpa using Array.mem_of_getElem? ht
        have hall : ([22, 22, 22, 5].all fun u => !Tryd.prog.wantsStandIn u) = true := by kernel_rfl
        exact (show Tryd.prog.wantsStandIn t = false by simpa using List.all_eq_true.1 hall t hm)⟩)
    (by kernel_rfl)
#print axioms proved
end Go.Proofs.YtlncjconodmjjaaDoor.containerLaws

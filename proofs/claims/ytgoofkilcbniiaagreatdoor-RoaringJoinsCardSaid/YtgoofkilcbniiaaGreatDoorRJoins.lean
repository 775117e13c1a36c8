/- RoaringJoins: for every input the law answers true, and each argument reads afterwards as before; the table of the library that it reads stands as the program's text lays it. -/
import Derived.Test.YtgoofkilcbniiaaGreatDoorRows
import Derived.WalkKit
import Derived.ProofKit
import Derived.OpenShut
import Derived.LaidMore
import Derived.Stop.Joined
import Derived.SevenTiedAt
import Derived.Test.YtgoofkilcbniiaaGreatDoorCards
import Derived.Test.YtgoofkilcbniiaaGreatDoorTie
import Derived.Test.YtgoofkilcbniiaaGreatDoorRjP2
import Derived.Test.YtgoofkilcbniiaaGreatDoorRxF
import Derived.Test.YtgoofkilcbniiaaGreatDoorLwF
import Derived.Test.YtgoofkilcbniiaaGreatDoorWfR
namespace Go.Proofs.YtgoofkilcbniiaaGreatDoor.roaringJoins
open Go.ChangeShapes Go.WideShapes Go.ChangeAt Go.RowKit
set_option linter.unusedVariables false
theorem own : ownKnob Tryz.prog.godebug = none := by kernel_rfl
theorem kids : Kids Tryz.prog (· < Tryz.prog.types.size) := kids_rows (by kernel_rfl) (by kernel_rfl)
theorem full : ∀ t e, t < Tryz.prog.types.size → Tryz.prog.underlying t = some (.slice e) → 0 < Tryz.prog.cellsOf e := slices_full_of Tryz.prog (by kernel_rfl)
abbrev E0 : Go.Rx.Env := ⟨fun _ => 0, fun _ => (none, 0, 0), fun _ => 0⟩
theorem sh52 : Go.Rx.ShOK Tryz.prog (.sl (.int .u16)) 52 := .sl Tryz.underlying52 (by kernel_rfl) (by decide) (.int Tryz.underlying72)
theorem sh60 : Go.Rx.ShOK Tryz.prog (.sl (.sl (.int .u16))) 60 := .sl Tryz.underlying60 (by kernel_rfl) (by decide) (.sl Tryz.underlying52 (by kernel_rfl) (by decide) (.int Tryz.underlying72))
theorem sh61 : Go.Rx.ShOK Tryz.prog (.sl (.int .u8)) 61 := .sl Tryz.underlying61 (by kernel_rfl) (by decide) (.int Tryz.underlying5)
theorem gTab : Tryz.prog.globalNamed "math/bits.deBruijn64tab" = some 0 := by kernel_rfl
theorem tTab : (Tryz.prog.globals[0]?).map (·.type) = some 197 := by kernel_rfl
theorem door_met (os : Os) (args : Array Value) : laidMetH Tryz.prog [("math/bits.deBruijn64tab", Rows.laid_math_bits_deBruijn64tab)] ((World.doorLaid Tryz.prog 400 os).forCall (fun _ _ => 0) ⟨#[], args, []⟩).memory :=
  laidMetH_of_parts3 (fuel := 8) (laidMet_of_run' 8 (by kernel_rfl) (by kernel_rfl)) (by kernel_rfl) (by kernel_rfl)
theorem gl_of {W : World} (hL : laidMetH Tryz.prog [("math/bits.deBruijn64tab", Rows.laid_math_bits_deBruijn64tab)] W) (hb : 0 < W.heap.size) : ∀ (g : Nat) (e : Go.Rx.Sh) (xs : List e.T), Go.Rx.Tryz.gl g = some ⟨e, xs⟩ → g < W.heap.size ∧ ∃ cells, Go.Rx.RowsL (fun x c => Go.Rx.PC (fun b => b < W.heap.size) W e x c) xs cells ∧ Go.Rx.At W ⟨g, 0, none⟩ cells := by
  intro g e xs h
  rw [MakeChecks.laidMetH_plain _ _ _ (by kernel_rfl)] at hL
  obtain ⟨ps, hl, _, _⟩ := hL
  unfold Go.Rx.Tryz.gl at h
  split at h
  · cases h
    refine ⟨hb, ?_⟩
    have hlen : Go.Rx.Tryz.deBruijn64.length = 64 := by rw [Go.Rx.Tryz.deBruijn_eq]; rfl
    exact Go.Rx.tab_of_laid (tab := Go.Rx.Tryz.deBruijn64) gTab tTab (by rw [hlen]; exact Tryz.underlying197) Tryz.underlying5 (by kernel_rfl) (by rw [hlen]; kernel_rfl) (by rw [Go.Rx.Tryz.deBruijn_eq]; rfl) hl
  · cases h
theorem walk (w : World) (x0 : List Int) (v0 : Value) (x1 : List (List Int)) (v1 : Value) (x2 : List Int) (v2 : Value) (f0 : Go.Rx.Wf (.sl (.int .u16)) x0) (b0 : Go.Rx.RepV (fun _ => False) E0 (fun b => b < w.heap.size) w (.psl (.int .u16) x0) v0) (f1 : Go.Rx.Wf (.sl (.sl (.int .u16))) x1) (b1 : Go.Rx.RepV (fun _ => False) E0 (fun b => b < w.heap.size) w (.psl (.sl (.int .u16)) x1) v1) (f2 : Go.Rx.Wf (.sl (.int .u8)) x2) (b2 : Go.Rx.RepV (fun _ => False) E0 (fun b => b < w.heap.size) w (.psl (.int .u8) x2) v2) (hgl : ∀ (g : Nat) (e : Go.Rx.Sh) (xs : List e.T), Go.Rx.Tryz.gl g = some ⟨e, xs⟩ → g < w.heap.size ∧ ∃ cells, Go.Rx.RowsL (fun x c => Go.Rx.PC (fun b => b < w.heap.size) w e x c) xs cells ∧ Go.Rx.At w ⟨g, 0, none⟩ cells) :
    Calls Tryz.prog 8 #[v0, v1, v2] w fun e w' => e = .returned (.bool true) ∧ Grown w w' := by
  exact Go.Rx.law_calls (Go.Rx.Tryz.ok_isinglasslaw08_RoaringJoins 21000000000) (args := [.psl (.int .u16) x0, .psl (.sl (.int .u16)) x1, .psl (.int .u8) x2]) (x := (x0, x1, x2)) rfl rfl (Go.Rx.Tryz.join8 (Go.Rx.wf_u16s f0) (fun a ha => Go.Rx.wf_u16s (f1.2 a ha)) (Nat.le_refl _)) rfl
    (A0 := fun b => b < w.heap.size) (E0 := E0) (fun _ h => h) hgl
    (by
      simp only [Go.Rx.RepL]
      exact ⟨_, _, rfl, b0, ⟨_, _, rfl, b1, ⟨_, _, rfl, b2, rfl⟩⟩⟩)
set_option maxRecDepth 100000 in
theorem lifted (os : Os) (started : os.Started) (H : Type) (enc : TypeId × Value → H) :
    ReturnsInHanded {} Tryz.checked os 8 .any (fun w args => (Rows.roaringJoinsSpec.pre enc Tryz.prog Tryz.f8 [] false w args ∧ laidMetH Tryz.prog [("math/bits.deBruijn64tab", Rows.laid_math_bits_deBruijn64tab)] w) ∧ sizedMet enc Tryz.prog Tryz.f8 (OpenSpec.ofChange Rows.roaringJoinsSpec) false w args) (Rows.roaringJoinsSpec.post enc Tryz.prog Tryz.f8 false true false false) := by
  refine returnsInHanded_of_change_and (C := Tryz.checked) (X := fun w _ => laidMetH Tryz.prog [("math/bits.deBruijn64tab", Rows.laid_math_bits_deBruijn64tab)] w) (fun _ _ _ hh h => h.of_heap hh) own started (by kernel_rfl) Tryz.func8
    (ChangeSpec.witness_shaped (enc := enc) (C := Tryz.checked) (os := os) (X := fun w _ => laidMetH Tryz.prog [("math/bits.deBruijn64tab", Rows.laid_math_bits_deBruijn64tab)] w) false (World.doorLaid Tryz.prog 400 os) #[.slice none 0 0, .slice none 0 0, .slice none 0 0] 8 rfl (World.shaped_of_RefB (by kernel_rfl) (by kernel_rfl)) (by kernel_rfl) (by kernel_rfl) (by kernel_rfl) (door_met os _)) ?_
  intro W base args ds gs before hval0 hW _ _ hL _
  have hval : ∀ (j : Nat) t v, Tryz.f8.params[j]? = some t → args[j]? = some v → Value.okWide Tryz.prog W .any base t v := hval0
  have hW' := hW
  obtain ⟨p, q, hA0, hV, rfl, hfz, hnd⟩ := hW
  have hA : DataW.TrodAll enc Tryz.prog W 0 (fun _ => true) true Tryz.f8.params.toList args.toList ds p := hA0
  have hAk := hA
  rw [Tryz.params8] at hA hval
  obtain ⟨v0, vs0, d0, ds0, p0, q0, hargs, rfl, rfl, h0, r0⟩ := trodAll_cons hA
  obtain ⟨v1, vs1, d1, ds1, p1, q1, rfl, rfl, rfl, h1, r1⟩ := trodAll_cons r0
  obtain ⟨v2, vs2, d2, ds2, p2, q2, rfl, rfl, rfl, h2, r2⟩ := trodAll_cons r1
  obtain ⟨rfl, rfl, rfl⟩ := trodAll_nil r2
  obtain rfl : args = #[v0, v1, v2] := by cases args; simp_all
  obtain ⟨rfl, rfl⟩ := trodVars_none hV
  obtain ⟨x0, b0, f0⟩ := Go.Rx.open_sl (A := fun b => b < W.heap.size) (D := fun _ => False) (E := E0) (fun _ h => h) sh52 (Value.okWide_any_base (hval 0 52 v0 rfl rfl)) h0
  obtain ⟨x1, b1, f1⟩ := Go.Rx.open_sl (A := fun b => b < W.heap.size) (D := fun _ => False) (E := E0) (fun _ h => h) sh60 (Value.okWide_any_base (hval 1 60 v1 rfl rfl)) h1
  obtain ⟨x2, b2, f2⟩ := Go.Rx.open_sl (A := fun b => b < W.heap.size) (D := fun _ => False) (E := E0) (fun _ h => h) sh61 (Value.okWide_any_base (hval 2 61 v2 rfl rfl)) h2
  clear hA0 hval0
  simp only [List.append_nil] at hW' hAk
  have hb : 0 < W.heap.size := by
    rw [MakeChecks.laidMetH_plain _ _ _ (by kernel_rfl)] at hL
    obtain ⟨ps, ⟨g0, t0, cs0, f0, p0, q0, hg0, ht0, hv0, hd0, _, _⟩, _, _⟩ := hL
    obtain rfl := Option.some.inj (gTab.symm.trans hg0)
    simp only [World.var?, gTab, Option.bind_some] at hv0
    split at hv0
    · rename_i c _ _ hh
      exact (Array.getElem?_eq_some_iff.1 hh).1
    · cases hv0
  refine (walk W x0 v0 x1 v1 x2 v2 f0 b0 f1 b1 f2 b2 (gl_of hL hb)).mono fun e W' ⟨he, hg⟩ => ?_
  subst he
  exact ⟨_, rfl, post_of_same (pv := []) hW' (fun _ _ _ => (trodAll_cons_mk (shut_bool Tryz.underlying4 _) trodAll_mk0)) (fun sp hsp => Go.Rx.args_again kids full hg (by rw [Tryz.params8]; decide) hAk sp hsp) (fun _ _ => rfl) (by simp)
    (hg.frame _) hg.2.1 (ok_one (by kernel_rfl) rfl (okWide_bool_mk Tryz.underlying4 _))⟩
theorem over : Rows.roaringJoinsRow.holds Tryz.pinned (OpenSpec.ofChange Rows.roaringJoinsSpec) :=
  OpenClaim.holds_of_wide 8 Tryz.f8 rfl rfl rfl rfl rfl rfl rfl ⟨rfl, rfl, rfl, rfl, rfl⟩ rfl rfl rfl rfl rfl (by kernel_rfl) Tryz.func8 (by kernel_rfl)
    (of_decide_eq_true (by kernel_rfl)) (by unfold Func.isWrapper; first | (rw [if_pos (by decide +kernel)]; kernel_rfl) | (rw [if_neg (by decide +kernel)]; exact ⟨rfl, rfl⟩))
    (fun os started H enc _ => lifted os started H enc)
theorem proved : Rows.RoaringJoinsCardSaid :=
  Claim7.holds_tied_plain_at .later [] [.data] true (true, "f05d0b1286024193624f9f426e94e4cc2e81ad9b3464dee9242ea372d8e2d98b") false
    over (fun _ h => by cases h) (by kernel_rfl) (fun _ h => by cases h) roaringJoins_row_tie rfl ⟨rfl, rfl⟩ (by kernel_rfl) rfl
    (fun f fn hf hfn => by
      obtain rfl : f = 8 := Option.some.inj ((show Tryz.prog.funcNamed "isinglass/isinglasslaw08.RoaringJoins" = some 8 by kernel_rfl).symm.trans hf) |>.symm
      obtain rfl : fn = Tryz.f8 := (Option.some.inj (Tryz.func8.symm.trans hfn)).symm
      exact ⟨by kernel_rfl, fun j t ht => by
        rw [Tryz.params8] at ht
        have hm : t ∈ [52, 60, 61] := by simpa using Array.mem_of_getElem? ht
        have hall : ([52, 60, 61].all fun u => !Tryz.prog.wantsStandIn u) = true := by kernel_rfl
        exact (show Tryz.prog.wantsStandIn t = false by simpa using List.all_eq_true.1 hall t hm)⟩)
    (by kernel_rfl)
#print axioms proved
end Go.Proofs.YtgoofkilcbniiaaGreatDoor.roaringJoins

/- RoaringTop: for every input the law answers true, and each argument reads afterwards as before; the table of the library that it reads stands as the program's text lays it. -/
import Derived.Test.YtgoofkilcbniiaaGreatDoorRows
import Derived.WalkKit
import Derived.ProofKit
import Derived.OpenShut
import Derived.LaidMore
import Derived.Stop.Joined
import Derived.SevenTiedAt
import Derived.Test.YtgoofkilcbniiaaGreatDoorCards
import Derived.Test.YtgoofkilcbniiaaGreatDoorTie
import Derived.Test.YtgoofkilcbniiaaGreatDoorRtP2
import Derived.Test.YtgoofkilcbniiaaGreatDoorRxF
import Derived.Test.YtgoofkilcbniiaaGreatDoorTopT
import Derived.Test.YtgoofkilcbniiaaGreatDoorWfR
namespace Go.Proofs.YtgoofkilcbniiaaGreatDoor.roaringTop
open Go.ChangeShapes Go.WideShapes Go.ChangeAt Go.RowKit
set_option linter.unusedVariables false
theorem own : ownKnob Tryz.prog.godebug = none := by kernel_rfl
theorem kids : Kids Tryz.prog (· < Tryz.prog.types.size) := kids_rows (by kernel_rfl) (by kernel_rfl)
theorem full : ∀ t e, t < Tryz.prog.types.size → Tryz.prog.underlying t = some (.slice e) → 0 < Tryz.prog.cellsOf e := slices_full_of Tryz.prog (by kernel_rfl)
abbrev E0 : Go.Rx.Env := ⟨fun _ => 0, fun _ => (none, 0, 0), fun _ => 0⟩
theorem gTab : Tryz.prog.globalNamed "math/bits.deBruijn64tab" = some 0 := by kernel_rfl
theorem tTab : (Tryz.prog.globals[0]?).map (·.type) = some 197 := by kernel_rfl
theorem door_met (os : Os) (args : Array Value) : laidMetH Tryz.prog [("math/bits.deBruijn64tab", Rows.laid_math_bits_deBruijn64tab)] ((World.doorLaid Tryz.prog 400 os).forCall (fun _ _ => 0) ⟨#[], args, []⟩).memory :=
  laidMetH_of_parts3 (fuel := 8) (laidMet_of_run' 8 (by kernel_rfl) (by kernel_rfl)) (by kernel_rfl) (by kernel_rfl)
theorem gl_of {W : World} (hL : laidMetH Tryz.prog [("math/bits.deBruijn64tab", Rows.laid_math_bits_deBruijn64tab)] W) (hb : 0 < W.heap.size) : ∀ (g : Nat) (e : Go.Rx.Sh) (xs : List e.T), Go.Rx.Tryz.gl g = some ⟨e, xs⟩ → g < W.heap.size ∧ ∃ cells, Go.Rx.RowsL (fun x c => Go.Rx.PC (fun b => b < W.heap.size) W e x c) xs cells ∧ Go.Rx.At W ⟨g, 0, none⟩ cells := by
  intro g e xs h
  rw [MakeChecks.laidMetH_plain _ _ _ (by kernel_rfl)] at hL
  obtain ⟨ps, hl, _, _⟩ := hL
  unfold Go.Rx.Tryz.gl at h
  split at h
  · cases h
    refine ⟨hb, ?_⟩
    have hlen : Go.Rx.Tryz.deBruijn64.length = 64 := by rw [Go.Rx.Tryz.deBruijn_eq]; rfl
    exact Go.Rx.tab_of_laid (tab := Go.Rx.Tryz.deBruijn64) gTab tTab (by rw [hlen]; exact Tryz.underlying197) Tryz.underlying5 (by kernel_rfl) (by rw [hlen]; kernel_rfl) (by rw [Go.Rx.Tryz.deBruijn_eq]; rfl) hl
  · cases h
theorem walk (w : World) (a0 : Int) (a1 : Int) (w0 : (Lit.int .u64 a0).wf = true) (w1 : (Lit.int .u64 a1).wf = true) (hgl : ∀ (g : Nat) (e : Go.Rx.Sh) (xs : List e.T), Go.Rx.Tryz.gl g = some ⟨e, xs⟩ → g < w.heap.size ∧ ∃ cells, Go.Rx.RowsL (fun x c => Go.Rx.PC (fun b => b < w.heap.size) w e x c) xs cells ∧ Go.Rx.At w ⟨g, 0, none⟩ cells) :
    Calls Tryz.prog 3 #[.int .u64 a0, .int .u64 a1] w fun e w' => e = .returned (.bool true) ∧ Grown w w' := by
  exact Go.Rx.law_calls (Go.Rx.Tryz.ok_isinglasslaw08_RoaringTop 600000) (args := [.int .u64 a0, .int .u64 a1]) (x := (a0, a1)) rfl rfl (Go.Rx.Tryz.top8 (Go.Rx.wf_u64 w0).1 (Go.Rx.wf_u64 w1).1) rfl
    (A0 := fun b => b < w.heap.size) (E0 := E0) (fun _ h => h) hgl
    (by
      simp only [Go.Rx.RepL]
      exact ⟨_, _, rfl, (by simp [Go.Rx.RepV]), ⟨_, _, rfl, (by simp [Go.Rx.RepV]), rfl⟩⟩)
set_option maxRecDepth 100000 in
theorem lifted (os : Os) (started : os.Started) (H : Type) (enc : TypeId × Value → H) :
    ReturnsInHanded {} Tryz.checked os 3 .any (fun w args => (Rows.roaringTopSpec.pre enc Tryz.prog Tryz.f3 [] false w args ∧ laidMetH Tryz.prog [("math/bits.deBruijn64tab", Rows.laid_math_bits_deBruijn64tab)] w) ∧ sizedMet enc Tryz.prog Tryz.f3 (OpenSpec.ofChange Rows.roaringTopSpec) false w args) (Rows.roaringTopSpec.post enc Tryz.prog Tryz.f3 false true false false) := by
  refine returnsInHanded_of_change_and (C := Tryz.checked) (X := fun w _ => laidMetH Tryz.prog [("math/bits.deBruijn64tab", Rows.laid_math_bits_deBruijn64tab)] w) (fun _ _ _ hh h => h.of_heap hh) own started (by kernel_rfl) Tryz.func3
    (ChangeSpec.witness_shaped (enc := enc) (C := Tryz.checked) (os := os) (X := fun w _ => laidMetH Tryz.prog [("math/bits.deBruijn64tab", Rows.laid_math_bits_deBruijn64tab)] w) false (World.doorLaid Tryz.prog 400 os) #[.int .u64 0, .int .u64 0] 8 rfl (World.shaped_of_RefB (by kernel_rfl) (by kernel_rfl)) (by kernel_rfl) (by kernel_rfl) (by kernel_rfl) (door_met os _)) ?_
  intro W base args ds gs before hval0 hW _ _ hL _
  have hval : ∀ (j : Nat) t v, Tryz.f3.params[j]? = some t → args[j]? = some v → Value.okWide Tryz.prog W .any base t v := hval0
  have hW' := hW
  obtain ⟨p, q, hA0, hV, rfl, hfz, hnd⟩ := hW
  have hA : DataW.TrodAll enc Tryz.prog W 0 (fun _ => true) true Tryz.f3.params.toList args.toList ds p := hA0
  have hAk := hA
  rw [Tryz.params3] at hA hval
  obtain ⟨v0, vs0, d0, ds0, p0, q0, hargs, rfl, rfl, h0, r0⟩ := trodAll_cons hA
  obtain ⟨v1, vs1, d1, ds1, p1, q1, rfl, rfl, rfl, h1, r1⟩ := trodAll_cons r0
  obtain ⟨rfl, rfl, rfl⟩ := trodAll_nil r1
  obtain rfl : args = #[v0, v1] := by cases args; simp_all
  obtain ⟨rfl, rfl⟩ := trodVars_none hV
  obtain ⟨a0, rfl, rfl, rfl, w0⟩ := open_int Tryz.underlying22 (hval 0 22 v0 rfl rfl) h0
  obtain ⟨a1, rfl, rfl, rfl, w1⟩ := open_int Tryz.underlying22 (hval 1 22 v1 rfl rfl) h1
  clear hA0 hval0
  simp only [List.append_nil] at hW' hAk
  have hb : 0 < W.heap.size := by
    rw [MakeChecks.laidMetH_plain _ _ _ (by kernel_rfl)] at hL
    obtain ⟨ps, ⟨g0, t0, cs0, f0, p0, q0, hg0, ht0, hv0, hd0, _, _⟩, _, _⟩ := hL
    obtain rfl := Option.some.inj (gTab.symm.trans hg0)
    simp only [World.var?, gTab, Option.bind_some] at hv0
    split at hv0
    · rename_i c _ _ hh
      exact (Array.getElem?_eq_some_iff.1 hh).1
    · cases hv0
  refine (walk W a0 a1 w0 w1 (gl_of hL hb)).mono fun e W' ⟨he, hg⟩ => ?_
  subst he
  exact ⟨_, rfl, post_of_same (pv := []) hW' (fun _ _ _ => (trodAll_cons_mk (shut_bool Tryz.underlying4 _) trodAll_mk0)) (fun sp hsp => Go.Rx.args_again kids full hg (by rw [Tryz.params3]; decide) hAk sp hsp) (fun _ _ => rfl) (by simp)
    (hg.frame _) hg.2.1 (ok_one (by kernel_rfl) rfl (okWide_bool_mk Tryz.underlying4 _))⟩
theorem over : Rows.roaringTopRow.holds Tryz.pinned (OpenSpec.ofChange Rows.roaringTopSpec) :=
  OpenClaim.holds_of_wide 3 Tryz.f3 rfl rfl rfl rfl rfl rfl rfl ⟨rfl, rfl, rfl, rfl, rfl⟩ rfl rfl rfl rfl rfl (by kernel_rfl) Tryz.func3 (by kernel_rfl)
    (of_decide_eq_true (by kernel_rfl)) (by unfold Func.isWrapper; first | (rw [if_pos (by decide +kernel)]; kernel_rfl) | (rw [if_neg (by decide +kernel)]; exact ⟨rfl, rfl⟩))
    (fun os started H enc _ => lifted os started H enc)
theorem proved : Rows.RoaringTopCardSaid :=
  Claim7.holds_tied_plain_at .later [] [.data] true (true, "f05d0b1286024193624f9f426e94e4cc2e81ad9b3464dee9242ea372d8e2d98b") false
    over (fun _ h => by cases h) (by kernel_rfl) (fun _ h => by cases h) roaringTop_row_tie rfl ⟨rfl, rfl⟩ (by kernel_rfl) rfl
    (fun f fn hf hfn => by
      obtain rfl : f = 3 := Option.some.inj ((show Tryz.prog.funcNamed "isinglass/isinglasslaw08.RoaringTop" = some 3 by kernel_rfl).symm.trans hf) |>.symm
      obtain rfl : fn = Tryz.f3 := (Option.some.inj (Tryz.func3.symm.trans hfn)).symm
      exact ⟨by kernel_rfl, fun j t ht => by
        rw [Tryz.params3] at ht
        have hm : t ∈ [22, 22] := by simpa using Array.mem_of_getElem? ht
        have hall : ([22, 22].all fun u => !Tryz.prog.wantsStandIn u) = true := by kernel_rfl
        exact (show Tryz.prog.wantsStandIn t = false by simpa using List.all_eq_true.1 hall t hm)⟩)
    (by kernel_rfl)
#print axioms proved
end Go.Proofs.YtgoofkilcbniiaaGreatDoor.roaringTop

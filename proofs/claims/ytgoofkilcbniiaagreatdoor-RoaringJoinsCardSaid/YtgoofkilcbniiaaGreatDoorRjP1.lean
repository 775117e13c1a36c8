/- Printed by gen.py: each function comes to its pure function. -/
import Derived.Test.YtgoofkilcbniiaaGreatDoorRjP
namespace Go.Rx.Tryz
open Go.Proofs
set_option linter.unusedVariables false
set_option maxRecDepth 100000
-- roaring_New
noncomputable def b0 := bodyOf Tryz.f11
noncomputable def s0 (k : Nat) : Sig := ⟨⟨[], []⟩, ⟨[(.tmp 0, .cells [.own 1, .own 2]), (.cell 0 0, .grow false (.int .u16) 72), (.cell 0 1, .grow false h0 65)], [(0, .ptr 0 0)]⟩, fun x => roaring_New k⟩
noncomputable def g0 (k : Nat) := mkG 0 3 [] []
theorem r0 (k : Nat) (x) : (s0 k).F x = rF Tryz.f11 (s0 k) (g0 k) b0 x := by kernel_rfl
theorem k0 (k : Nat) : FnOK Tryz.prog gl 11 (s0 k) := mkF (G := g0 k) (ps := (s0 k).ps) (rs := (s0 k).rs) (F := (s0 k).F) mix_ok Tryz.func11 (c := b0) (by kernel_rfl) (by kernel_rfl) ⟨rfl, by kernel_rfl, rfl⟩ (ty_ok _ rfl) (callsOK_tab (G := g0 k) (tab := []) all_nil) (by kernel_rfl) (by kernel_rfl) (fun C h => noLoops (by kernel_rfl)) (r0 k)
-- cmp_isNaN_uint16
noncomputable def b1 := bodyOf Tryz.f199
noncomputable def s1 (k : Nat) : Sig := ⟨⟨[], [(0, .d (.int .u16))]⟩, ⟨[], [(0, .d .bool)]⟩, fun x => cmp_isNaN_uint16 k x⟩
noncomputable def g1 (k : Nat) := mkG 0 6 [] []
theorem r1 (k : Nat) (x) : (s1 k).F x = rF Tryz.f199 (s1 k) (g1 k) b1 x := by kernel_rfl
theorem k1 (k : Nat) : FnOK Tryz.prog gl 199 (s1 k) := mkF (G := g1 k) (ps := (s1 k).ps) (rs := (s1 k).rs) (F := (s1 k).F) mix_ok Tryz.func199 (c := b1) (by kernel_rfl) (by kernel_rfl) ⟨rfl, by kernel_rfl, rfl⟩ (ty_ok _ rfl) (callsOK_tab (G := g1 k) (tab := []) all_nil) (by kernel_rfl) (by kernel_rfl) (fun C h => noLoops (by kernel_rfl)) (r1 k)
-- cmp_Less_uint16
noncomputable def b2 := bodyOf Tryz.f177
noncomputable def s2 (k : Nat) : Sig := ⟨⟨[], [(0, .d (.int .u16)), (1, .d (.int .u16))]⟩, ⟨[], [(0, .d .bool)]⟩, fun x => cmp_Less_uint16 k x.1 x.2⟩
noncomputable def g2 (k : Nat) := mkG 0 17 [(199, s1 k)] []
theorem r2 (k : Nat) (x) : (s2 k).F x = rF Tryz.f177 (s2 k) (g2 k) b2 x := by kernel_rfl
theorem c2 (k : Nat) : CallsOK Tryz.prog gl (g2 k) := callsOK_tab (G := g2 k) (tab := [(199, s1 k)]) (all_cons (k1 k) all_nil)
theorem k2 (k : Nat) : FnOK Tryz.prog gl 177 (s2 k) := mkF (G := g2 k) (ps := (s2 k).ps) (rs := (s2 k).rs) (F := (s2 k).F) mix_ok Tryz.func177 (c := b2) (by kernel_rfl) (by kernel_rfl) ⟨rfl, by kernel_rfl, rfl⟩ (ty_ok _ rfl) (c2 k) (by kernel_rfl) (by kernel_rfl) (fun C h => noLoops (by kernel_rfl)) (r2 k)
-- slices_isNaN_uint16
noncomputable def b3 := bodyOf Tryz.f178
noncomputable def s3 (k : Nat) : Sig := ⟨⟨[], [(0, .d (.int .u16))]⟩, ⟨[], [(0, .d .bool)]⟩, fun x => slices_isNaN_uint16 k x⟩
noncomputable def g3 (k : Nat) := mkG 0 6 [] []
theorem r3 (k : Nat) (x) : (s3 k).F x = rF Tryz.f178 (s3 k) (g3 k) b3 x := by kernel_rfl
theorem k3 (k : Nat) : FnOK Tryz.prog gl 178 (s3 k) := mkF (G := g3 k) (ps := (s3 k).ps) (rs := (s3 k).rs) (F := (s3 k).F) mix_ok Tryz.func178 (c := b3) (by kernel_rfl) (by kernel_rfl) ⟨rfl, by kernel_rfl, rfl⟩ (ty_ok _ rfl) (callsOK_tab (G := g3 k) (tab := []) all_nil) (by kernel_rfl) (by kernel_rfl) (fun C h => noLoops (by kernel_rfl)) (r3 k)
-- slices_BinarySearch_uint16_w
noncomputable def b4 := bodyOf Tryz.f128
noncomputable def l4_4 := subLoop b4 0
noncomputable def q4_4 (k : Nat) : LSig := ⟨⟨[(.pin 0, .grow true (.int .u16) 72)], [(0, .own 0), (1, .d (.int .u16)), (6, .d (.int .i64)), (7, .d (.int .i64)), (8, .d (.int .i64))]⟩, [(.exit 0, ⟨[(.pin 0, .grow true (.int .u16) 72)], [(0, .own 0), (1, .d (.int .u16)), (6, .d (.int .i64)), (7, .d (.int .i64))]⟩)], fun x => slices_BinarySearch_uint16_w_l0 k x.1 x.2.1 x.2.2.1 x.2.2.2.1 x.2.2.2.2⟩
noncomputable def s4 (k : Nat) : Sig := ⟨⟨[(.pin 0, .grow true (.int .u16) 72)], [(0, .own 0), (1, .d (.int .u16))]⟩, ⟨[(.pin 0, .grow true (.int .u16) 72)], [(0, .d (.int .i64)), (1, .d .bool)]⟩, fun x => slices_BinarySearch_uint16_w k x.1 x.2⟩
noncomputable def g4 (k : Nat) := mkG 1 54 [(177, s2 k), (178, s3 k)] [(4, q4_4 k)]
theorem r4_4 (k : Nat) (x) : (q4_4 (k + 1)).F x = rL 1 (q4_4 k) (g4 k) l4_4 x := by kernel_rfl
theorem r4 (k : Nat) (x) : (s4 k).F x = rF Tryz.f128 (s4 k) (g4 k) b4 x := by kernel_rfl
theorem c4 (k : Nat) : CallsOK Tryz.prog gl (g4 k) := callsOK_tab (G := g4 k) (tab := [(177, s2 k), (178, s3 k)]) (all_cons (k2 k) (all_cons (k3 k) all_nil))
theorem o4_4 (C : Ctx) (h : Is C Tryz.prog gl 1 Tryz.f128.ntmps) (k : Nat) : LoopOK C (g4 k) l4_4 := mkL h mix_ok (b := l4_4) (hd := (q4_4 0).hd) (ex := (q4_4 0).ex) (F := fun k => (q4_4 k).F) g4 (fun _ => ⟨rfl, by kernel_rfl, rfl⟩) (fun _ => ty_ok _ rfl) c4 (fun k => noLoops (by kernel_rfl)) (fun _ => rfl) r4_4 k (fun S => by kernel_rfl)
theorem k4 (k : Nat) : FnOK Tryz.prog gl 128 (s4 k) := mkF (G := g4 k) (ps := (s4 k).ps) (rs := (s4 k).rs) (F := (s4 k).F) mix_ok Tryz.func128 (c := b4) (by kernel_rfl) (by kernel_rfl) ⟨rfl, by kernel_rfl, rfl⟩ (ty_ok _ rfl) (c4 k) (by kernel_rfl) (by kernel_rfl) (fun C h => loops_all (n := 1) (by kernel_rfl) (lt_allS lt_all0 (o4_4 C h k))) (r4 k)
-- roaring_Set_find
noncomputable def b5 := bodyOf Tryz.f86
noncomputable def s5 (k : Nat) : Sig := ⟨⟨[(.pin 0, .cells [.own 1, .own 2]), (.pin 1, .grow true (.int .u16) 72), (.pin 2, .grow true h0 65)], [(0, .ptr 0 0), (1, .d (.int .u16))]⟩, ⟨[(.pin 0, .cells [.own 1, .own 2]), (.pin 1, .grow true (.int .u16) 72), (.pin 2, .grow true h0 65)], [(0, .d (.int .i64)), (1, .d .bool)]⟩, fun x => roaring_Set_find k x.1 x.2.1 x.2.2⟩
noncomputable def g5 (k : Nat) := mkG 3 16 [(128, s4 k)] []
theorem r5 (k : Nat) (x) : (s5 k).F x = rF Tryz.f86 (s5 k) (g5 k) b5 x := by kernel_rfl
theorem c5 (k : Nat) : CallsOK Tryz.prog gl (g5 k) := callsOK_tab (G := g5 k) (tab := [(128, s4 k)]) (all_cons (k4 k) all_nil)
theorem k5 (k : Nat) : FnOK Tryz.prog gl 86 (s5 k) := mkF (G := g5 k) (ps := (s5 k).ps) (rs := (s5 k).rs) (F := (s5 k).F) mix_ok Tryz.func86 (c := b5) (by kernel_rfl) (by kernel_rfl) ⟨rfl, by kernel_rfl, rfl⟩ (ty_ok _ rfl) (c5 k) (by kernel_rfl) (by kernel_rfl) (fun C h => noLoops (by kernel_rfl)) (r5 k)
-- roaring_Set_get
noncomputable def b6 := bodyOf Tryz.f47
noncomputable def s6 (k : Nat) : Sig := ⟨⟨[(.pin 0, .cells [.own 1, .own 2]), (.pin 1, .grow true (.int .u16) 72), (.pin 2, .grow true h0 65)], [(0, .ptr 0 0), (1, .d (.int .u16))]⟩, ⟨[(.pin 0, .cells [.own 1, .own 2]), (.pin 1, .grow true (.int .u16) 72), (.pin 2, .grow true h0 65)], [(0, .d h0)]⟩, fun x => roaring_Set_get k x.1 x.2.1 x.2.2⟩
noncomputable def g6 (k : Nat) := mkG 3 22 [(86, s5 k)] []
theorem r6 (k : Nat) (x) : (s6 k).F x = rF Tryz.f47 (s6 k) (g6 k) b6 x := by kernel_rfl
theorem c6 (k : Nat) : CallsOK Tryz.prog gl (g6 k) := callsOK_tab (G := g6 k) (tab := [(86, s5 k)]) (all_cons (k5 k) all_nil)
theorem k6 (k : Nat) : FnOK Tryz.prog gl 47 (s6 k) := mkF (G := g6 k) (ps := (s6 k).ps) (rs := (s6 k).rs) (F := (s6 k).F) mix_ok Tryz.func47 (c := b6) (by kernel_rfl) (by kernel_rfl) ⟨rfl, by kernel_rfl, rfl⟩ (ty_ok _ rfl) (c6 k) (by kernel_rfl) (by kernel_rfl) (fun C h => noLoops (by kernel_rfl)) (r6 k)
-- words_Flip
noncomputable def b7 := bodyOf Tryz.f93
noncomputable def l7_6 := subLoop b7 0
noncomputable def q7_6 (k : Nat) : LSig := ⟨⟨[(.tmp 7, .grow false (.int .u64) 22)], [(1, .d (.int .i64)), (2, .d (.int .i64)), (7, .own 0), (19, .d (.int .i64))]⟩, [(.exit 0, ⟨[(.tmp 7, .grow false (.int .u64) 22)], [(7, .own 0)]⟩)], fun x => words_Flip_l0 k x.1 x.2.1 x.2.2.1 x.2.2.2⟩
noncomputable def s7 (k : Nat) : Sig := ⟨⟨[], [(0, .d (.sl (.int .u64))), (1, .d (.int .i64)), (2, .d (.int .i64))]⟩, ⟨[], [(0, .d (.sl (.int .u64)))]⟩, fun x => words_Flip k x.1 x.2.1 x.2.2⟩
noncomputable def g7 (k : Nat) := mkG 0 52 [] [(6, q7_6 k)]
theorem r7_6 (k : Nat) (x) : (q7_6 (k + 1)).F x = rL 0 (q7_6 k) (g7 k) l7_6 x := by kernel_rfl
theorem r7 (k : Nat) (x) : (s7 k).F x = rF Tryz.f93 (s7 k) (g7 k) b7 x := by kernel_rfl
theorem o7_6 (C : Ctx) (h : Is C Tryz.prog gl 0 Tryz.f93.ntmps) (k : Nat) : LoopOK C (g7 k) l7_6 := mkL h mix_ok (b := l7_6) (hd := (q7_6 0).hd) (ex := (q7_6 0).ex) (F := fun k => (q7_6 k).F) g7 (fun _ => ⟨rfl, by kernel_rfl, rfl⟩) (fun _ => ty_ok _ rfl) (fun k => callsOK_tab (G := g7 k) (tab := []) all_nil) (fun k => noLoops (by kernel_rfl)) (fun _ => rfl) r7_6 k (fun S => by kernel_rfl)
theorem k7 (k : Nat) : FnOK Tryz.prog gl 93 (s7 k) := mkF (G := g7 k) (ps := (s7 k).ps) (rs := (s7 k).rs) (F := (s7 k).F) mix_ok Tryz.func93 (c := b7) (by kernel_rfl) (by kernel_rfl) ⟨rfl, by kernel_rfl, rfl⟩ (ty_ok _ rfl) (callsOK_tab (G := g7 k) (tab := []) all_nil) (by kernel_rfl) (by kernel_rfl) (fun C h => loops_all (n := 1) (by kernel_rfl) (lt_allS lt_all0 (o7_6 C h k))) (r7 k)
-- container_Container_Kind
noncomputable def b8 := bodyOf Tryz.f81
noncomputable def s8 (k : Nat) : Sig := ⟨⟨[], [(0, .d h0)]⟩, ⟨[], [(0, .d (.int .u8))]⟩, fun x => container_Container_Kind k x⟩
noncomputable def g8 (k : Nat) := mkG 0 6 [] []
theorem r8 (k : Nat) (x) : (s8 k).F x = rF Tryz.f81 (s8 k) (g8 k) b8 x := by kernel_rfl
theorem k8 (k : Nat) : FnOK Tryz.prog gl 81 (s8 k) := mkF (G := g8 k) (ps := (s8 k).ps) (rs := (s8 k).rs) (F := (s8 k).F) mix_ok Tryz.func81 (c := b8) (by kernel_rfl) (by kernel_rfl) ⟨rfl, by kernel_rfl, rfl⟩ (ty_ok _ rfl) (callsOK_tab (G := g8 k) (tab := []) all_nil) (by kernel_rfl) (by kernel_rfl) (fun C h => noLoops (by kernel_rfl)) (r8 k)
-- container_Container_arrayLen
noncomputable def b9 := bodyOf Tryz.f95
noncomputable def s9 (k : Nat) : Sig := ⟨⟨[], [(0, .d h0)]⟩, ⟨[], [(0, .d (.int .i64))]⟩, fun x => container_Container_arrayLen k x⟩
noncomputable def g9 (k : Nat) := mkG 0 6 [] []
theorem r9 (k : Nat) (x) : (s9 k).F x = rF Tryz.f95 (s9 k) (g9 k) b9 x := by kernel_rfl
theorem k9 (k : Nat) : FnOK Tryz.prog gl 95 (s9 k) := mkF (G := g9 k) (ps := (s9 k).ps) (rs := (s9 k).rs) (F := (s9 k).F) mix_ok Tryz.func95 (c := b9) (by kernel_rfl) (by kernel_rfl) ⟨rfl, by kernel_rfl, rfl⟩ (ty_ok _ rfl) (callsOK_tab (G := g9 k) (tab := []) all_nil) (by kernel_rfl) (by kernel_rfl) (fun C h => noLoops (by kernel_rfl)) (r9 k)
-- math_bits_OnesCount64
noncomputable def b10 := bodyOf Tryz.f181
noncomputable def s10 (k : Nat) : Sig := ⟨⟨[], [(0, .d (.int .u64))]⟩, ⟨[], [(0, .d (.int .i64))]⟩, fun x => math_bits_OnesCount64 k x⟩
noncomputable def g10 (k : Nat) := mkG 0 35 [] []
theorem r10 (k : Nat) (x) : (s10 k).F x = rF Tryz.f181 (s10 k) (g10 k) b10 x := by kernel_rfl
theorem k10 (k : Nat) : FnOK Tryz.prog gl 181 (s10 k) := mkF (G := g10 k) (ps := (s10 k).ps) (rs := (s10 k).rs) (F := (s10 k).F) mix_ok Tryz.func181 (c := b10) (by kernel_rfl) (by kernel_rfl) ⟨rfl, by kernel_rfl, rfl⟩ (ty_ok _ rfl) (callsOK_tab (G := g10 k) (tab := []) all_nil) (by kernel_rfl) (by kernel_rfl) (fun C h => noLoops (by kernel_rfl)) (r10 k)
-- words_Len
noncomputable def b11 := bodyOf Tryz.f141
noncomputable def l11_4 := subLoop b11 0
noncomputable def q11_4 (k : Nat) : LSig := ⟨⟨[], [(3, .d (.int .i64)), (6, .d (.sl (.int .u64))), (7, .d (.int .i64)), (8, .d (.int .i64))]⟩, [(.exit 0, ⟨[], [(3, .d (.int .i64))]⟩)], fun x => words_Len_l0 k x.1 x.2.1 x.2.2.1 x.2.2.2⟩
noncomputable def s11 (k : Nat) : Sig := ⟨⟨[], [(0, .d (.sl (.int .u64)))]⟩, ⟨[], [(0, .d (.int .i64))]⟩, fun x => words_Len k x⟩
noncomputable def g11 (k : Nat) := mkG 0 18 [(181, s10 k)] [(4, q11_4 k)]
theorem r11_4 (k : Nat) (x) : (q11_4 (k + 1)).F x = rL 0 (q11_4 k) (g11 k) l11_4 x := by kernel_rfl
theorem r11 (k : Nat) (x) : (s11 k).F x = rF Tryz.f141 (s11 k) (g11 k) b11 x := by kernel_rfl
theorem c11 (k : Nat) : CallsOK Tryz.prog gl (g11 k) := callsOK_tab (G := g11 k) (tab := [(181, s10 k)]) (all_cons (k10 k) all_nil)
theorem o11_4 (C : Ctx) (h : Is C Tryz.prog gl 0 Tryz.f141.ntmps) (k : Nat) : LoopOK C (g11 k) l11_4 := mkL h mix_ok (b := l11_4) (hd := (q11_4 0).hd) (ex := (q11_4 0).ex) (F := fun k => (q11_4 k).F) g11 (fun _ => ⟨rfl, by kernel_rfl, rfl⟩) (fun _ => ty_ok _ rfl) c11 (fun k => noLoops (by kernel_rfl)) (fun _ => rfl) r11_4 k (fun S => by kernel_rfl)
theorem k11 (k : Nat) : FnOK Tryz.prog gl 141 (s11 k) := mkF (G := g11 k) (ps := (s11 k).ps) (rs := (s11 k).rs) (F := (s11 k).F) mix_ok Tryz.func141 (c := b11) (by kernel_rfl) (by kernel_rfl) ⟨rfl, by kernel_rfl, rfl⟩ (ty_ok _ rfl) (c11 k) (by kernel_rfl) (by kernel_rfl) (fun C h => loops_all (n := 1) (by kernel_rfl) (lt_allS lt_all0 (o11_4 C h k))) (r11 k)
-- container_Container_wordsLen
noncomputable def b12 := bodyOf Tryz.f96
noncomputable def s12 (k : Nat) : Sig := ⟨⟨[], [(0, .d h0)]⟩, ⟨[], [(0, .d (.int .i64))]⟩, fun x => container_Container_wordsLen k x⟩
noncomputable def g12 (k : Nat) := mkG 0 6 [(141, s11 k)] []
theorem r12 (k : Nat) (x) : (s12 k).F x = rF Tryz.f96 (s12 k) (g12 k) b12 x := by kernel_rfl
theorem c12 (k : Nat) : CallsOK Tryz.prog gl (g12 k) := callsOK_tab (G := g12 k) (tab := [(141, s11 k)]) (all_cons (k11 k) all_nil)
theorem k12 (k : Nat) : FnOK Tryz.prog gl 96 (s12 k) := mkF (G := g12 k) (ps := (s12 k).ps) (rs := (s12 k).rs) (F := (s12 k).F) mix_ok Tryz.func96 (c := b12) (by kernel_rfl) (by kernel_rfl) ⟨rfl, by kernel_rfl, rfl⟩ (ty_ok _ rfl) (c12 k) (by kernel_rfl) (by kernel_rfl) (fun C h => noLoops (by kernel_rfl)) (r12 k)
-- runs_Len
noncomputable def b13 := bodyOf Tryz.f142
noncomputable def l13_4 := subLoop b13 0
noncomputable def q13_4 (k : Nat) : LSig := ⟨⟨[], [(3, .d (.int .i64)), (6, .d h1), (7, .d (.int .i64)), (8, .d (.int .i64))]⟩, [(.exit 0, ⟨[], [(3, .d (.int .i64))]⟩)], fun x => runs_Len_l0 k x.1 x.2.1 x.2.2.1 x.2.2.2⟩
noncomputable def s13 (k : Nat) : Sig := ⟨⟨[], [(0, .d h1)]⟩, ⟨[], [(0, .d (.int .i64))]⟩, fun x => runs_Len k x⟩
noncomputable def g13 (k : Nat) := mkG 0 20 [] [(4, q13_4 k)]
theorem r13_4 (k : Nat) (x) : (q13_4 (k + 1)).F x = rL 0 (q13_4 k) (g13 k) l13_4 x := by kernel_rfl
theorem r13 (k : Nat) (x) : (s13 k).F x = rF Tryz.f142 (s13 k) (g13 k) b13 x := by kernel_rfl
theorem o13_4 (C : Ctx) (h : Is C Tryz.prog gl 0 Tryz.f142.ntmps) (k : Nat) : LoopOK C (g13 k) l13_4 := mkL h mix_ok (b := l13_4) (hd := (q13_4 0).hd) (ex := (q13_4 0).ex) (F := fun k => (q13_4 k).F) g13 (fun _ => ⟨rfl, by kernel_rfl, rfl⟩) (fun _ => ty_ok _ rfl) (fun k => callsOK_tab (G := g13 k) (tab := []) all_nil) (fun k => noLoops (by kernel_rfl)) (fun _ => rfl) r13_4 k (fun S => by kernel_rfl)
theorem k13 (k : Nat) : FnOK Tryz.prog gl 142 (s13 k) := mkF (G := g13 k) (ps := (s13 k).ps) (rs := (s13 k).rs) (F := (s13 k).F) mix_ok Tryz.func142 (c := b13) (by kernel_rfl) (by kernel_rfl) ⟨rfl, by kernel_rfl, rfl⟩ (ty_ok _ rfl) (callsOK_tab (G := g13 k) (tab := []) all_nil) (by kernel_rfl) (by kernel_rfl) (fun C h => loops_all (n := 1) (by kernel_rfl) (lt_allS lt_all0 (o13_4 C h k))) (r13 k)
-- container_Container_runsLen
noncomputable def b14 := bodyOf Tryz.f97
noncomputable def s14 (k : Nat) : Sig := ⟨⟨[], [(0, .d h0)]⟩, ⟨[], [(0, .d (.int .i64))]⟩, fun x => container_Container_runsLen k x⟩
noncomputable def g14 (k : Nat) := mkG 0 6 [(142, s13 k)] []
theorem r14 (k : Nat) (x) : (s14 k).F x = rF Tryz.f97 (s14 k) (g14 k) b14 x := by kernel_rfl
theorem c14 (k : Nat) : CallsOK Tryz.prog gl (g14 k) := callsOK_tab (G := g14 k) (tab := [(142, s13 k)]) (all_cons (k13 k) all_nil)
theorem k14 (k : Nat) : FnOK Tryz.prog gl 97 (s14 k) := mkF (G := g14 k) (ps := (s14 k).ps) (rs := (s14 k).rs) (F := (s14 k).F) mix_ok Tryz.func97 (c := b14) (by kernel_rfl) (by kernel_rfl) ⟨rfl, by kernel_rfl, rfl⟩ (ty_ok _ rfl) (c14 k) (by kernel_rfl) (by kernel_rfl) (fun C h => noLoops (by kernel_rfl)) (r14 k)
-- container_Container_Len
noncomputable def b15 := bodyOf Tryz.f51
noncomputable def s15 (k : Nat) : Sig := ⟨⟨[], [(0, .d h0)]⟩, ⟨[], [(0, .d (.int .i64))]⟩, fun x => container_Container_Len k x⟩
noncomputable def g15 (k : Nat) := mkG 0 9 [(81, s8 k), (95, s9 k), (96, s12 k), (97, s14 k)] []
theorem r15 (k : Nat) (x) : (s15 k).F x = rF Tryz.f51 (s15 k) (g15 k) b15 x := by kernel_rfl
theorem c15 (k : Nat) : CallsOK Tryz.prog gl (g15 k) := callsOK_tab (G := g15 k) (tab := [(81, s8 k), (95, s9 k), (96, s12 k), (97, s14 k)]) (all_cons (k8 k) (all_cons (k9 k) (all_cons (k12 k) (all_cons (k14 k) all_nil))))
theorem k15 (k : Nat) : FnOK Tryz.prog gl 51 (s15 k) := mkF (G := g15 k) (ps := (s15 k).ps) (rs := (s15 k).rs) (F := (s15 k).F) mix_ok Tryz.func51 (c := b15) (by kernel_rfl) (by kernel_rfl) ⟨rfl, by kernel_rfl, rfl⟩ (ty_ok _ rfl) (c15 k) (by kernel_rfl) (by kernel_rfl) (fun C h => noLoops (by kernel_rfl)) (r15 k)
-- words_Runs
noncomputable def b16 := bodyOf Tryz.f175
noncomputable def l16_4 := subLoop b16 0
noncomputable def q16_4 (k : Nat) : LSig := ⟨⟨[], [(3, .d (.int .i64)), (4, .d (.int .u64)), (7, .d (.sl (.int .u64))), (8, .d (.int .i64)), (9, .d (.int .i64))]⟩, [(.exit 0, ⟨[], [(3, .d (.int .i64))]⟩)], fun x => words_Runs_l0 k x.1 x.2.1 x.2.2.1 x.2.2.2.1 x.2.2.2.2⟩
noncomputable def s16 (k : Nat) : Sig := ⟨⟨[], [(0, .d (.sl (.int .u64)))]⟩, ⟨[], [(0, .d (.int .i64))]⟩, fun x => words_Runs k x⟩
noncomputable def g16 (k : Nat) := mkG 0 26 [(181, s10 k)] [(4, q16_4 k)]
theorem r16_4 (k : Nat) (x) : (q16_4 (k + 1)).F x = rL 0 (q16_4 k) (g16 k) l16_4 x := by kernel_rfl
theorem r16 (k : Nat) (x) : (s16 k).F x = rF Tryz.f175 (s16 k) (g16 k) b16 x := by kernel_rfl
theorem c16 (k : Nat) : CallsOK Tryz.prog gl (g16 k) := callsOK_tab (G := g16 k) (tab := [(181, s10 k)]) (all_cons (k10 k) all_nil)
theorem o16_4 (C : Ctx) (h : Is C Tryz.prog gl 0 Tryz.f175.ntmps) (k : Nat) : LoopOK C (g16 k) l16_4 := mkL h mix_ok (b := l16_4) (hd := (q16_4 0).hd) (ex := (q16_4 0).ex) (F := fun k => (q16_4 k).F) g16 (fun _ => ⟨rfl, by kernel_rfl, rfl⟩) (fun _ => ty_ok _ rfl) c16 (fun k => noLoops (by kernel_rfl)) (fun _ => rfl) r16_4 k (fun S => by kernel_rfl)
theorem k16 (k : Nat) : FnOK Tryz.prog gl 175 (s16 k) := mkF (G := g16 k) (ps := (s16 k).ps) (rs := (s16 k).rs) (F := (s16 k).F) mix_ok Tryz.func175 (c := b16) (by kernel_rfl) (by kernel_rfl) ⟨rfl, by kernel_rfl, rfl⟩ (ty_ok _ rfl) (c16 k) (by kernel_rfl) (by kernel_rfl) (fun C h => loops_all (n := 1) (by kernel_rfl) (lt_allS lt_all0 (o16_4 C h k))) (r16 k)
-- arrays_Runs
noncomputable def b17 := bodyOf Tryz.f176
noncomputable def l17_4 := subLoop b17 0
noncomputable def q17_4 (k : Nat) : LSig := ⟨⟨[], [(0, .d (.sl (.int .u16))), (3, .d (.int .i64)), (6, .d (.sl (.int .u16))), (7, .d (.int .i64)), (8, .d (.int .i64))]⟩, [(.exit 0, ⟨[], [(3, .d (.int .i64))]⟩)], fun x => arrays_Runs_l0 k x.1 x.2.1 x.2.2.1 x.2.2.2.1 x.2.2.2.2⟩
noncomputable def s17 (k : Nat) : Sig := ⟨⟨[], [(0, .d (.sl (.int .u16)))]⟩, ⟨[], [(0, .d (.int .i64))]⟩, fun x => arrays_Runs k x⟩
noncomputable def g17 (k : Nat) := mkG 0 29 [] [(4, q17_4 k)]
theorem r17_4 (k : Nat) (x) : (q17_4 (k + 1)).F x = rL 0 (q17_4 k) (g17 k) l17_4 x := by kernel_rfl
theorem r17 (k : Nat) (x) : (s17 k).F x = rF Tryz.f176 (s17 k) (g17 k) b17 x := by kernel_rfl
theorem o17_4 (C : Ctx) (h : Is C Tryz.prog gl 0 Tryz.f176.ntmps) (k : Nat) : LoopOK C (g17 k) l17_4 := mkL h mix_ok (b := l17_4) (hd := (q17_4 0).hd) (ex := (q17_4 0).ex) (F := fun k => (q17_4 k).F) g17 (fun _ => ⟨rfl, by kernel_rfl, rfl⟩) (fun _ => ty_ok _ rfl) (fun k => callsOK_tab (G := g17 k) (tab := []) all_nil) (fun k => noLoops (by kernel_rfl)) (fun _ => rfl) r17_4 k (fun S => by kernel_rfl)
theorem k17 (k : Nat) : FnOK Tryz.prog gl 176 (s17 k) := mkF (G := g17 k) (ps := (s17 k).ps) (rs := (s17 k).rs) (F := (s17 k).F) mix_ok Tryz.func176 (c := b17) (by kernel_rfl) (by kernel_rfl) ⟨rfl, by kernel_rfl, rfl⟩ (ty_ok _ rfl) (callsOK_tab (G := g17 k) (tab := []) all_nil) (by kernel_rfl) (by kernel_rfl) (fun C h => loops_all (n := 1) (by kernel_rfl) (lt_allS lt_all0 (o17_4 C h k))) (r17 k)
-- container_Container_many
noncomputable def b18 := bodyOf Tryz.f126
noncomputable def s18 (k : Nat) : Sig := ⟨⟨[], [(0, .d h0)]⟩, ⟨[], [(0, .d (.int .i64))]⟩, fun x => container_Container_many k x⟩
noncomputable def g18 (k : Nat) := mkG 0 18 [(175, s16 k), (176, s17 k)] []
theorem r18 (k : Nat) (x) : (s18 k).F x = rF Tryz.f126 (s18 k) (g18 k) b18 x := by kernel_rfl
theorem c18 (k : Nat) : CallsOK Tryz.prog gl (g18 k) := callsOK_tab (G := g18 k) (tab := [(175, s16 k), (176, s17 k)]) (all_cons (k16 k) (all_cons (k17 k) all_nil))
theorem k18 (k : Nat) : FnOK Tryz.prog gl 126 (s18 k) := mkF (G := g18 k) (ps := (s18 k).ps) (rs := (s18 k).rs) (F := (s18 k).F) mix_ok Tryz.func126 (c := b18) (by kernel_rfl) (by kernel_rfl) ⟨rfl, by kernel_rfl, rfl⟩ (ty_ok _ rfl) (c18 k) (by kernel_rfl) (by kernel_rfl) (fun C h => noLoops (by kernel_rfl)) (r18 k)
-- slices_Clone_Run
noncomputable def b19 := bodyOf Tryz.f72
noncomputable def s19 (k : Nat) : Sig := ⟨⟨[], [(0, .d h1)]⟩, ⟨[], [(0, .d h1)]⟩, fun x => slices_Clone_Run k x⟩
noncomputable def g19 (k : Nat) := mkG 0 8 [] []
theorem r19_cons (k : Nat) (x l) : (s19 k).F (x :: l) = (ev (g19 k) b19 (head (s19 k).ps (ofTup (s19 k).ps.shs (x :: l)))).den (funEnd (g19 k) Tryz.f72.results.toList 0 (s19 k).rs) := by kernel_rfl
theorem r19_nil (k : Nat) : (ev (g19 k) (ambR0 b19) (head (s19 k).ps (ofTup (s19 k).ps.shs []))).den (ambMid (g19 k) (ambT b19) (ambR1 b19) (ambA b19) (ambB b19) (funEnd (g19 k) Tryz.f72.results.toList 0 (s19 k).rs)) = some [] := by kernel_rfl
theorem h19_shape : b19 = .seq (ambR0 b19) (.seq (.seq (ambR1 b19) (.cond (.tmp (ambT b19)) (ambA b19) .skip)) (ambB b19)) := by kernel_rfl
theorem k19 (k : Nat) : FnOK Tryz.prog gl 72 (s19 k) := clone_ok (G := g19 k) (e := (.st (.pair (.int .u16) (.int .u16)))) (F := slices_Clone_Run k) mix_ok Tryz.func72 (c := b19) (by kernel_rfl) (by kernel_rfl) (mkB (ps := (s19 k).ps) (rs := (s19 k).rs) ⟨rfl, by kernel_rfl, rfl⟩ (ty_ok _ rfl) (callsOK_tab (G := g19 k) (tab := []) all_nil) (by kernel_rfl) (by kernel_rfl) (fun C h => noLoops (by kernel_rfl))) h19_shape (by kernel_rfl) (by kernel_rfl) (by kernel_rfl) (by kernel_rfl) (r19_nil k) (r19_cons k) rfl
-- math_bits_TrailingZeros64
noncomputable def b20 := bodyOf Tryz.f166
noncomputable def s20 (k : Nat) : Sig := ⟨⟨[], [(0, .d (.int .u64))]⟩, ⟨[], [(0, .d (.int .i64))]⟩, fun x => math_bits_TrailingZeros64 k x⟩
noncomputable def g20 (k : Nat) := mkG 0 14 [] []
theorem r20 (k : Nat) (x) : (s20 k).F x = rF Tryz.f166 (s20 k) (g20 k) b20 x := by kernel_rfl
theorem k20 (k : Nat) : FnOK Tryz.prog gl 166 (s20 k) := mkF (G := g20 k) (ps := (s20 k).ps) (rs := (s20 k).rs) (F := (s20 k).F) mix_ok Tryz.func166 (c := b20) (by kernel_rfl) (by kernel_rfl) ⟨rfl, by kernel_rfl, rfl⟩ (ty_ok _ rfl) (callsOK_tab (G := g20 k) (tab := []) all_nil) (by kernel_rfl) (by kernel_rfl) (fun C h => noLoops (by kernel_rfl)) (r20 k)
-- words_List
noncomputable def b21 := bodyOf Tryz.f114
noncomputable def l21_4 := subLoop b21 0
noncomputable def l21_7 := subLoop l21_4 0
noncomputable def q21_7 (k : Nat) : LSig := ⟨⟨[(.tmp 3, .grow false (.int .u16) 72)], [(0, .d (.sl (.int .u64))), (3, .own 0), (4, .d (.int .i64)), (5, .d (.int .u64)), (8, .d (.int .i64)), (9, .d (.int .i64))]⟩, [(.exit 2, ⟨[(.tmp 3, .grow false (.int .u16) 72)], [(0, .d (.sl (.int .u64))), (3, .own 0), (8, .d (.int .i64)), (9, .d (.int .i64))]⟩)], fun x => words_List_l1 k x.1 x.2.1 x.2.2.1 x.2.2.2.1 x.2.2.2.2.1 x.2.2.2.2.2⟩
noncomputable def q21_4 (k : Nat) : LSig := ⟨⟨[(.tmp 3, .grow false (.int .u16) 72)], [(0, .d (.sl (.int .u64))), (3, .own 0), (8, .d (.int .i64)), (9, .d (.int .i64))]⟩, [(.exit 0, ⟨[(.tmp 3, .grow false (.int .u16) 72)], [(3, .own 0)]⟩)], fun x => words_List_l0 k x.1 x.2.1 x.2.2.1 x.2.2.2⟩
noncomputable def s21 (k : Nat) : Sig := ⟨⟨[], [(0, .d (.sl (.int .u64)))]⟩, ⟨[], [(0, .d (.sl (.int .u16)))]⟩, fun x => words_List k x⟩
noncomputable def g21 (k : Nat) := mkG 0 33 [(166, s20 k)] [(7, q21_7 k), (4, q21_4 k)]
theorem r21_7 (k : Nat) (x) : (q21_7 (k + 1)).F x = rL 0 (q21_7 k) (g21 k) l21_7 x := by kernel_rfl
theorem r21_4 (k : Nat) (x) : (q21_4 (k + 1)).F x = rL 0 (q21_4 k) (g21 k) l21_4 x := by kernel_rfl
theorem r21 (k : Nat) (x) : (s21 k).F x = rF Tryz.f114 (s21 k) (g21 k) b21 x := by kernel_rfl
theorem c21 (k : Nat) : CallsOK Tryz.prog gl (g21 k) := callsOK_tab (G := g21 k) (tab := [(166, s20 k)]) (all_cons (k20 k) all_nil)
theorem o21_7 (C : Ctx) (h : Is C Tryz.prog gl 0 Tryz.f114.ntmps) (k : Nat) : LoopOK C (g21 k) l21_7 := mkL h mix_ok (b := l21_7) (hd := (q21_7 0).hd) (ex := (q21_7 0).ex) (F := fun k => (q21_7 k).F) g21 (fun _ => ⟨rfl, by kernel_rfl, rfl⟩) (fun _ => ty_ok _ rfl) c21 (fun k => noLoops (by kernel_rfl)) (fun _ => rfl) r21_7 k (fun S => by kernel_rfl)
theorem o21_4 (C : Ctx) (h : Is C Tryz.prog gl 0 Tryz.f114.ntmps) (k : Nat) : LoopOK C (g21 k) l21_4 := mkL h mix_ok (b := l21_4) (hd := (q21_4 0).hd) (ex := (q21_4 0).ex) (F := fun k => (q21_4 k).F) g21 (fun _ => ⟨rfl, by kernel_rfl, rfl⟩) (fun _ => ty_ok _ rfl) c21 (fun k => loops_all (n := 1) (by kernel_rfl) (lt_allS lt_all0 (o21_7 C h k))) (fun _ => rfl) r21_4 k (fun S => by kernel_rfl)
theorem k21 (k : Nat) : FnOK Tryz.prog gl 114 (s21 k) := mkF (G := g21 k) (ps := (s21 k).ps) (rs := (s21 k).rs) (F := (s21 k).F) mix_ok Tryz.func114 (c := b21) (by kernel_rfl) (by kernel_rfl) ⟨rfl, by kernel_rfl, rfl⟩ (ty_ok _ rfl) (c21 k) (by kernel_rfl) (by kernel_rfl) (fun C h => loops_all (n := 1) (by kernel_rfl) (lt_allS lt_all0 (o21_4 C h k))) (r21 k)
-- runs_end
noncomputable def b22 := bodyOf Tryz.f125
noncomputable def s22 (k : Nat) : Sig := ⟨⟨[], [(0, .d (.st (.pair (.int .u16) (.int .u16))))]⟩, ⟨[], [(0, .d (.int .i64))]⟩, fun x => runs_end k x⟩
noncomputable def g22 (k : Nat) := mkG 0 11 [] []
theorem r22 (k : Nat) (x) : (s22 k).F x = rF Tryz.f125 (s22 k) (g22 k) b22 x := by kernel_rfl
theorem k22 (k : Nat) : FnOK Tryz.prog gl 125 (s22 k) := mkF (G := g22 k) (ps := (s22 k).ps) (rs := (s22 k).rs) (F := (s22 k).F) mix_ok Tryz.func125 (c := b22) (by kernel_rfl) (by kernel_rfl) ⟨rfl, by kernel_rfl, rfl⟩ (ty_ok _ rfl) (callsOK_tab (G := g22 k) (tab := []) all_nil) (by kernel_rfl) (by kernel_rfl) (fun C h => noLoops (by kernel_rfl)) (r22 k)
-- runs_List
noncomputable def b23 := bodyOf Tryz.f115
noncomputable def l23_4 := subLoop b23 0
noncomputable def l23_7 := subLoop l23_4 0
noncomputable def q23_7 (k : Nat) : LSig := ⟨⟨[(.tmp 3, .grow false (.int .u16) 72), (.tmp 5, .cells [.d (.int .u16), .d (.int .u16)])], [(3, .own 0), (5, .ptr 1 0), (6, .d (.int .i64)), (7, .d h1), (8, .d (.int .i64)), (9, .d (.int .i64))]⟩, [(.exit 2, ⟨[(.tmp 3, .grow false (.int .u16) 72)], [(3, .own 0), (7, .d h1), (8, .d (.int .i64)), (9, .d (.int .i64))]⟩)], fun x => runs_List_l1 k x.1 x.2.1 x.2.2.1 x.2.2.2.1 x.2.2.2.2.1 x.2.2.2.2.2.1 x.2.2.2.2.2.2⟩
noncomputable def q23_4 (k : Nat) : LSig := ⟨⟨[(.tmp 3, .grow false (.int .u16) 72)], [(3, .own 0), (7, .d h1), (8, .d (.int .i64)), (9, .d (.int .i64))]⟩, [(.exit 0, ⟨[(.tmp 3, .grow false (.int .u16) 72)], [(3, .own 0)]⟩)], fun x => runs_List_l0 k x.1 x.2.1 x.2.2.1 x.2.2.2⟩
noncomputable def s23 (k : Nat) : Sig := ⟨⟨[], [(0, .d h1)]⟩, ⟨[], [(0, .d (.sl (.int .u16)))]⟩, fun x => runs_List k x⟩
noncomputable def g23 (k : Nat) := mkG 0 30 [(125, s22 k)] [(7, q23_7 k), (4, q23_4 k)]
theorem r23_7 (k : Nat) (x) : (q23_7 (k + 1)).F x = rL 0 (q23_7 k) (g23 k) l23_7 x := by kernel_rfl
theorem r23_4 (k : Nat) (x) : (q23_4 (k + 1)).F x = rL 0 (q23_4 k) (g23 k) l23_4 x := by kernel_rfl
theorem r23 (k : Nat) (x) : (s23 k).F x = rF Tryz.f115 (s23 k) (g23 k) b23 x := by kernel_rfl
theorem c23 (k : Nat) : CallsOK Tryz.prog gl (g23 k) := callsOK_tab (G := g23 k) (tab := [(125, s22 k)]) (all_cons (k22 k) all_nil)
theorem o23_7 (C : Ctx) (h : Is C Tryz.prog gl 0 Tryz.f115.ntmps) (k : Nat) : LoopOK C (g23 k) l23_7 := mkL h mix_ok (b := l23_7) (hd := (q23_7 0).hd) (ex := (q23_7 0).ex) (F := fun k => (q23_7 k).F) g23 (fun _ => ⟨rfl, by kernel_rfl, rfl⟩) (fun _ => ty_ok _ rfl) c23 (fun k => noLoops (by kernel_rfl)) (fun _ => rfl) r23_7 k (fun S => by kernel_rfl)
theorem o23_4 (C : Ctx) (h : Is C Tryz.prog gl 0 Tryz.f115.ntmps) (k : Nat) : LoopOK C (g23 k) l23_4 := mkL h mix_ok (b := l23_4) (hd := (q23_4 0).hd) (ex := (q23_4 0).ex) (F := fun k => (q23_4 k).F) g23 (fun _ => ⟨rfl, by kernel_rfl, rfl⟩) (fun _ => ty_ok _ rfl) c23 (fun k => loops_all (n := 1) (by kernel_rfl) (lt_allS lt_all0 (o23_7 C h k))) (fun _ => rfl) r23_4 k (fun S => by kernel_rfl)
theorem k23 (k : Nat) : FnOK Tryz.prog gl 115 (s23 k) := mkF (G := g23 k) (ps := (s23 k).ps) (rs := (s23 k).rs) (F := (s23 k).F) mix_ok Tryz.func115 (c := b23) (by kernel_rfl) (by kernel_rfl) ⟨rfl, by kernel_rfl, rfl⟩ (ty_ok _ rfl) (c23 k) (by kernel_rfl) (by kernel_rfl) (fun C h => loops_all (n := 1) (by kernel_rfl) (lt_allS lt_all0 (o23_4 C h k))) (r23 k)
-- slices_Clone_uint16
noncomputable def b24 := bodyOf Tryz.f55
noncomputable def s24 (k : Nat) : Sig := ⟨⟨[], [(0, .d (.sl (.int .u16)))]⟩, ⟨[(.tmp 0, .grow false (.int .u16) 72)], [(0, .own 0)]⟩, fun x => slices_Clone_uint16 k x⟩
noncomputable def g24 (k : Nat) := mkG 0 8 [] []
theorem r24_cons (k : Nat) (x l) : (s24 k).F (x :: l) = (ev (g24 k) b24 (head (s24 k).ps (ofTup (s24 k).ps.shs (x :: l)))).den (funEnd (g24 k) Tryz.f55.results.toList 0 (s24 k).rs) := by kernel_rfl
theorem r24_nil (k : Nat) : (ev (g24 k) (ambR0 b24) (head (s24 k).ps (ofTup (s24 k).ps.shs []))).den (ambMid (g24 k) (ambT b24) (ambR1 b24) (ambA b24) (ambB b24) (funEnd (g24 k) Tryz.f55.results.toList 0 (s24 k).rs)) = some [] := by kernel_rfl
theorem h24_shape : b24 = .seq (ambR0 b24) (.seq (.seq (ambR1 b24) (.cond (.tmp (ambT b24)) (ambA b24) .skip)) (ambB b24)) := by kernel_rfl
theorem k24 (k : Nat) : FnOK Tryz.prog gl 55 (s24 k) := clone_own_ok (G := g24 k) (e := (.int .u16)) (F := slices_Clone_uint16 k) mix_ok Tryz.func55 (c := b24) (by kernel_rfl) (by kernel_rfl) (mkB (ps := (s24 k).ps) (rs := (s24 k).rs) ⟨rfl, by kernel_rfl, rfl⟩ (ty_ok _ rfl) (callsOK_tab (G := g24 k) (tab := []) all_nil) (by kernel_rfl) (by kernel_rfl) (fun C h => noLoops (by kernel_rfl))) h24_shape (by kernel_rfl) (by kernel_rfl) (by kernel_rfl) (by kernel_rfl) (r24_nil k) (r24_cons k) rfl
-- container_Container_Array
noncomputable def b25 := bodyOf Tryz.f64
noncomputable def s25 (k : Nat) : Sig := ⟨⟨[], [(0, .d h0)]⟩, ⟨[], [(0, .d (.sl (.int .u16)))]⟩, fun x => container_Container_Array k x⟩
noncomputable def g25 (k : Nat) := mkG 0 18 [(114, s21 k), (115, s23 k), (55, s24 k)] []
theorem r25 (k : Nat) (x) : (s25 k).F x = rF Tryz.f64 (s25 k) (g25 k) b25 x := by kernel_rfl
theorem c25 (k : Nat) : CallsOK Tryz.prog gl (g25 k) := callsOK_tab (G := g25 k) (tab := [(114, s21 k), (115, s23 k), (55, s24 k)]) (all_cons (k21 k) (all_cons (k23 k) (all_cons (k24 k) all_nil)))
theorem k25 (k : Nat) : FnOK Tryz.prog gl 64 (s25 k) := mkF (G := g25 k) (ps := (s25 k).ps) (rs := (s25 k).rs) (F := (s25 k).F) mix_ok Tryz.func64 (c := b25) (by kernel_rfl) (by kernel_rfl) ⟨rfl, by kernel_rfl, rfl⟩ (ty_ok _ rfl) (c25 k) (by kernel_rfl) (by kernel_rfl) (fun C h => noLoops (by kernel_rfl)) (r25 k)
-- runs_Of
noncomputable def b26 := bodyOf Tryz.f73
noncomputable def l26_4 := subLoop b26 0
noncomputable def q26_4 (k : Nat) : LSig := ⟨⟨[(.tmp 3, .grow false (.st (.pair (.int .u16) (.int .u16))) 96)], [(0, .d (.sl (.int .u16))), (3, .own 0), (6, .d (.sl (.int .u16))), (7, .d (.int .i64)), (8, .d (.int .i64))]⟩, [(.exit 0, ⟨[(.tmp 3, .grow false (.st (.pair (.int .u16) (.int .u16))) 96)], [(3, .own 0)]⟩)], fun x => runs_Of_l0 k x.1 x.2.1 x.2.2.1 x.2.2.2.1 x.2.2.2.2⟩
noncomputable def s26 (k : Nat) : Sig := ⟨⟨[], [(0, .d (.sl (.int .u16)))]⟩, ⟨[], [(0, .d h1)]⟩, fun x => runs_Of k x⟩
noncomputable def g26 (k : Nat) := mkG 0 42 [] [(4, q26_4 k)]
theorem r26_4 (k : Nat) (x) : (q26_4 (k + 1)).F x = rL 0 (q26_4 k) (g26 k) l26_4 x := by kernel_rfl
theorem r26 (k : Nat) (x) : (s26 k).F x = rF Tryz.f73 (s26 k) (g26 k) b26 x := by kernel_rfl
theorem o26_4 (C : Ctx) (h : Is C Tryz.prog gl 0 Tryz.f73.ntmps) (k : Nat) : LoopOK C (g26 k) l26_4 := mkL h mix_ok (b := l26_4) (hd := (q26_4 0).hd) (ex := (q26_4 0).ex) (F := fun k => (q26_4 k).F) g26 (fun _ => ⟨rfl, by kernel_rfl, rfl⟩) (fun _ => ty_ok _ rfl) (fun k => callsOK_tab (G := g26 k) (tab := []) all_nil) (fun k => noLoops (by kernel_rfl)) (fun _ => rfl) r26_4 k (fun S => by kernel_rfl)
theorem k26 (k : Nat) : FnOK Tryz.prog gl 73 (s26 k) := mkF (G := g26 k) (ps := (s26 k).ps) (rs := (s26 k).rs) (F := (s26 k).F) mix_ok Tryz.func73 (c := b26) (by kernel_rfl) (by kernel_rfl) ⟨rfl, by kernel_rfl, rfl⟩ (ty_ok _ rfl) (callsOK_tab (G := g26 k) (tab := []) all_nil) (by kernel_rfl) (by kernel_rfl) (fun C h => loops_all (n := 1) (by kernel_rfl) (lt_allS lt_all0 (o26_4 C h k))) (r26 k)
-- container_Container_Runs
noncomputable def b27 := bodyOf Tryz.f36
noncomputable def s27 (k : Nat) : Sig := ⟨⟨[], [(0, .d h0)]⟩, ⟨[], [(0, .d h1)]⟩, fun x => container_Container_Runs k x⟩
noncomputable def g27 (k : Nat) := mkG 0 12 [(72, s19 k), (64, s25 k), (73, s26 k)] []
theorem r27 (k : Nat) (x) : (s27 k).F x = rF Tryz.f36 (s27 k) (g27 k) b27 x := by kernel_rfl
theorem c27 (k : Nat) : CallsOK Tryz.prog gl (g27 k) := callsOK_tab (G := g27 k) (tab := [(72, s19 k), (64, s25 k), (73, s26 k)]) (all_cons (k19 k) (all_cons (k25 k) (all_cons (k26 k) all_nil)))
theorem k27 (k : Nat) : FnOK Tryz.prog gl 36 (s27 k) := mkF (G := g27 k) (ps := (s27 k).ps) (rs := (s27 k).rs) (F := (s27 k).F) mix_ok Tryz.func36 (c := b27) (by kernel_rfl) (by kernel_rfl) ⟨rfl, by kernel_rfl, rfl⟩ (ty_ok _ rfl) (c27 k) (by kernel_rfl) (by kernel_rfl) (fun C h => noLoops (by kernel_rfl)) (r27 k)
-- slices_Clone_uint64
noncomputable def b28 := bodyOf Tryz.f69
noncomputable def s28 (k : Nat) : Sig := ⟨⟨[], [(0, .d (.sl (.int .u64)))]⟩, ⟨[], [(0, .d (.sl (.int .u64)))]⟩, fun x => slices_Clone_uint64 k x⟩
noncomputable def g28 (k : Nat) := mkG 0 8 [] []
theorem r28_cons (k : Nat) (x l) : (s28 k).F (x :: l) = (ev (g28 k) b28 (head (s28 k).ps (ofTup (s28 k).ps.shs (x :: l)))).den (funEnd (g28 k) Tryz.f69.results.toList 0 (s28 k).rs) := by kernel_rfl
theorem r28_nil (k : Nat) : (ev (g28 k) (ambR0 b28) (head (s28 k).ps (ofTup (s28 k).ps.shs []))).den (ambMid (g28 k) (ambT b28) (ambR1 b28) (ambA b28) (ambB b28) (funEnd (g28 k) Tryz.f69.results.toList 0 (s28 k).rs)) = some [] := by kernel_rfl
theorem h28_shape : b28 = .seq (ambR0 b28) (.seq (.seq (ambR1 b28) (.cond (.tmp (ambT b28)) (ambA b28) .skip)) (ambB b28)) := by kernel_rfl
theorem k28 (k : Nat) : FnOK Tryz.prog gl 69 (s28 k) := clone_ok (G := g28 k) (e := (.int .u64)) (F := slices_Clone_uint64 k) mix_ok Tryz.func69 (c := b28) (by kernel_rfl) (by kernel_rfl) (mkB (ps := (s28 k).ps) (rs := (s28 k).rs) ⟨rfl, by kernel_rfl, rfl⟩ (ty_ok _ rfl) (callsOK_tab (G := g28 k) (tab := []) all_nil) (by kernel_rfl) (by kernel_rfl) (fun C h => noLoops (by kernel_rfl))) h28_shape (by kernel_rfl) (by kernel_rfl) (by kernel_rfl) (by kernel_rfl) (r28_nil k) (r28_cons k) rfl
-- words_Of
noncomputable def b29 := bodyOf Tryz.f70
noncomputable def l29_4 := subLoop b29 0
noncomputable def q29_4 (k : Nat) : LSig := ⟨⟨[(.tmp 3, .grow false (.int .u64) 22)], [(3, .own 0), (7, .d (.sl (.int .u16))), (8, .d (.int .i64)), (9, .d (.int .i64))]⟩, [(.exit 0, ⟨[(.tmp 3, .grow false (.int .u64) 22)], [(3, .own 0)]⟩)], fun x => words_Of_l0 k x.1 x.2.1 x.2.2.1 x.2.2.2⟩
noncomputable def s29 (k : Nat) : Sig := ⟨⟨[], [(0, .d (.sl (.int .u16)))]⟩, ⟨[(.tmp 0, .grow false (.int .u64) 22)], [(0, .own 0)]⟩, fun x => words_Of k x⟩
noncomputable def g29 (k : Nat) := mkG 0 25 [] [(4, q29_4 k)]
theorem r29_4 (k : Nat) (x) : (q29_4 (k + 1)).F x = rL 0 (q29_4 k) (g29 k) l29_4 x := by kernel_rfl
theorem r29 (k : Nat) (x) : (s29 k).F x = rF Tryz.f70 (s29 k) (g29 k) b29 x := by kernel_rfl
theorem o29_4 (C : Ctx) (h : Is C Tryz.prog gl 0 Tryz.f70.ntmps) (k : Nat) : LoopOK C (g29 k) l29_4 := mkL h mix_ok (b := l29_4) (hd := (q29_4 0).hd) (ex := (q29_4 0).ex) (F := fun k => (q29_4 k).F) g29 (fun _ => ⟨rfl, by kernel_rfl, rfl⟩) (fun _ => ty_ok _ rfl) (fun k => callsOK_tab (G := g29 k) (tab := []) all_nil) (fun k => noLoops (by kernel_rfl)) (fun _ => rfl) r29_4 k (fun S => by kernel_rfl)
theorem k29 (k : Nat) : FnOK Tryz.prog gl 70 (s29 k) := mkF (G := g29 k) (ps := (s29 k).ps) (rs := (s29 k).rs) (F := (s29 k).F) mix_ok Tryz.func70 (c := b29) (by kernel_rfl) (by kernel_rfl) ⟨rfl, by kernel_rfl, rfl⟩ (ty_ok _ rfl) (callsOK_tab (G := g29 k) (tab := []) all_nil) (by kernel_rfl) (by kernel_rfl) (fun C h => loops_all (n := 1) (by kernel_rfl) (lt_allS lt_all0 (o29_4 C h k))) (r29 k)
-- container_Container_Words
noncomputable def b30 := bodyOf Tryz.f34
noncomputable def l30_8 := subLoop b30 0
noncomputable def l30_11 := subLoop l30_8 0
noncomputable def q30_11 (k : Nat) : LSig := ⟨⟨[(.tmp 3, .grow false (.int .u64) 22), (.tmp 5, .cells [.d (.int .u16), .d (.int .u16)])], [(3, .own 0), (5, .ptr 1 0), (6, .d (.int .i64)), (18, .d h1), (19, .d (.int .i64)), (20, .d (.int .i64))]⟩, [(.exit 3, ⟨[(.tmp 3, .grow false (.int .u64) 22)], [(3, .own 0), (18, .d h1), (19, .d (.int .i64)), (20, .d (.int .i64))]⟩)], fun x => container_Container_Words_l1 k x.1 x.2.1 x.2.2.1 x.2.2.2.1 x.2.2.2.2.1 x.2.2.2.2.2.1 x.2.2.2.2.2.2⟩
noncomputable def q30_8 (k : Nat) : LSig := ⟨⟨[(.tmp 3, .grow false (.int .u64) 22)], [(3, .own 0), (18, .d h1), (19, .d (.int .i64)), (20, .d (.int .i64))]⟩, [(.exit 1, ⟨[(.tmp 3, .grow false (.int .u64) 22)], [(3, .own 0)]⟩)], fun x => container_Container_Words_l0 k x.1 x.2.1 x.2.2.1 x.2.2.2⟩
noncomputable def s30 (k : Nat) : Sig := ⟨⟨[], [(0, .d h0)]⟩, ⟨[], [(0, .d (.sl (.int .u64)))]⟩, fun x => container_Container_Words k x⟩
noncomputable def g30 (k : Nat) := mkG 0 53 [(69, s28 k), (70, s29 k)] [(11, q30_11 k), (8, q30_8 k)]
theorem r30_11 (k : Nat) (x) : (q30_11 (k + 1)).F x = rL 0 (q30_11 k) (g30 k) l30_11 x := by kernel_rfl
theorem r30_8 (k : Nat) (x) : (q30_8 (k + 1)).F x = rL 0 (q30_8 k) (g30 k) l30_8 x := by kernel_rfl
theorem r30 (k : Nat) (x) : (s30 k).F x = rF Tryz.f34 (s30 k) (g30 k) b30 x := by kernel_rfl
theorem c30 (k : Nat) : CallsOK Tryz.prog gl (g30 k) := callsOK_tab (G := g30 k) (tab := [(69, s28 k), (70, s29 k)]) (all_cons (k28 k) (all_cons (k29 k) all_nil))
theorem o30_11 (C : Ctx) (h : Is C Tryz.prog gl 0 Tryz.f34.ntmps) (k : Nat) : LoopOK C (g30 k) l30_11 := mkL h mix_ok (b := l30_11) (hd := (q30_11 0).hd) (ex := (q30_11 0).ex) (F := fun k => (q30_11 k).F) g30 (fun _ => ⟨rfl, by kernel_rfl, rfl⟩) (fun _ => ty_ok _ rfl) c30 (fun k => noLoops (by kernel_rfl)) (fun _ => rfl) r30_11 k (fun S => by kernel_rfl)
theorem o30_8 (C : Ctx) (h : Is C Tryz.prog gl 0 Tryz.f34.ntmps) (k : Nat) : LoopOK C (g30 k) l30_8 := mkL h mix_ok (b := l30_8) (hd := (q30_8 0).hd) (ex := (q30_8 0).ex) (F := fun k => (q30_8 k).F) g30 (fun _ => ⟨rfl, by kernel_rfl, rfl⟩) (fun _ => ty_ok _ rfl) c30 (fun k => loops_all (n := 1) (by kernel_rfl) (lt_allS lt_all0 (o30_11 C h k))) (fun _ => rfl) r30_8 k (fun S => by kernel_rfl)
theorem k30 (k : Nat) : FnOK Tryz.prog gl 34 (s30 k) := mkF (G := g30 k) (ps := (s30 k).ps) (rs := (s30 k).rs) (F := (s30 k).F) mix_ok Tryz.func34 (c := b30) (by kernel_rfl) (by kernel_rfl) ⟨rfl, by kernel_rfl, rfl⟩ (ty_ok _ rfl) (c30 k) (by kernel_rfl) (by kernel_rfl) (fun C h => loops_all (n := 1) (by kernel_rfl) (lt_allS lt_all0 (o30_8 C h k))) (r30 k)
-- container_Container_Canonical
noncomputable def b31 := bodyOf Tryz.f74
noncomputable def s31 (k : Nat) : Sig := ⟨⟨[], [(0, .d h0)]⟩, ⟨[], [(0, .d h0)]⟩, fun x => container_Container_Canonical k x⟩
noncomputable def g31 (k : Nat) := mkG 0 46 [(51, s15 k), (126, s18 k), (81, s8 k), (36, s27 k), (64, s25 k), (34, s30 k)] []
theorem r31 (k : Nat) (x) : (s31 k).F x = rF Tryz.f74 (s31 k) (g31 k) b31 x := by kernel_rfl
theorem c31 (k : Nat) : CallsOK Tryz.prog gl (g31 k) := callsOK_tab (G := g31 k) (tab := [(51, s15 k), (126, s18 k), (81, s8 k), (36, s27 k), (64, s25 k), (34, s30 k)]) (all_cons (k15 k) (all_cons (k18 k) (all_cons (k8 k) (all_cons (k27 k) (all_cons (k25 k) (all_cons (k30 k) all_nil))))))
theorem k31 (k : Nat) : FnOK Tryz.prog gl 74 (s31 k) := mkF (G := g31 k) (ps := (s31 k).ps) (rs := (s31 k).rs) (F := (s31 k).F) mix_ok Tryz.func74 (c := b31) (by kernel_rfl) (by kernel_rfl) ⟨rfl, by kernel_rfl, rfl⟩ (ty_ok _ rfl) (c31 k) (by kernel_rfl) (by kernel_rfl) (fun C h => noLoops (by kernel_rfl)) (r31 k)
-- runs_row
noncomputable def b32 := bodyOf Tryz.f138
noncomputable def l32_4 := subLoop b32 0
noncomputable def q32_4 (k : Nat) : LSig := ⟨⟨[(.tmp 3, .grow false (.int .i64) 3)], [(3, .own 0), (6, .d h1), (7, .d (.int .i64)), (8, .d (.int .i64))]⟩, [(.exit 0, ⟨[(.tmp 3, .grow false (.int .i64) 3)], [(3, .own 0)]⟩)], fun x => runs_row_l0 k x.1 x.2.1 x.2.2.1 x.2.2.2⟩
noncomputable def s32 (k : Nat) : Sig := ⟨⟨[], [(0, .d h1)]⟩, ⟨[], [(0, .d (.sl (.int .i64)))]⟩, fun x => runs_row k x⟩
noncomputable def g32 (k : Nat) := mkG 0 22 [(125, s22 k)] [(4, q32_4 k)]
theorem r32_4 (k : Nat) (x) : (q32_4 (k + 1)).F x = rL 0 (q32_4 k) (g32 k) l32_4 x := by kernel_rfl
theorem r32 (k : Nat) (x) : (s32 k).F x = rF Tryz.f138 (s32 k) (g32 k) b32 x := by kernel_rfl
theorem c32 (k : Nat) : CallsOK Tryz.prog gl (g32 k) := callsOK_tab (G := g32 k) (tab := [(125, s22 k)]) (all_cons (k22 k) all_nil)
theorem o32_4 (C : Ctx) (h : Is C Tryz.prog gl 0 Tryz.f138.ntmps) (k : Nat) : LoopOK C (g32 k) l32_4 := mkL h mix_ok (b := l32_4) (hd := (q32_4 0).hd) (ex := (q32_4 0).ex) (F := fun k => (q32_4 k).F) g32 (fun _ => ⟨rfl, by kernel_rfl, rfl⟩) (fun _ => ty_ok _ rfl) c32 (fun k => noLoops (by kernel_rfl)) (fun _ => rfl) r32_4 k (fun S => by kernel_rfl)
theorem k32 (k : Nat) : FnOK Tryz.prog gl 138 (s32 k) := mkF (G := g32 k) (ps := (s32 k).ps) (rs := (s32 k).rs) (F := (s32 k).F) mix_ok Tryz.func138 (c := b32) (by kernel_rfl) (by kernel_rfl) ⟨rfl, by kernel_rfl, rfl⟩ (ty_ok _ rfl) (c32 k) (by kernel_rfl) (by kernel_rfl) (fun C h => loops_all (n := 1) (by kernel_rfl) (lt_allS lt_all0 (o32_4 C h k))) (r32 k)
-- runs_Flip_1
noncomputable def b33 := bodyOf Tryz.f140
noncomputable def s33 (k : Nat) : Sig := ⟨⟨[], [(0, .d .bool), (1, .d .bool)]⟩, ⟨[], [(0, .d .bool)]⟩, fun x => runs_Flip_1 k x.1 x.2⟩
noncomputable def g33 (k : Nat) := mkG 0 8 [] []
theorem r33 (k : Nat) (x) : (s33 k).F x = rF Tryz.f140 (s33 k) (g33 k) b33 x := by kernel_rfl
theorem k33 (k : Nat) : FnOK Tryz.prog gl 140 (s33 k) := mkF (G := g33 k) (ps := (s33 k).ps) (rs := (s33 k).rs) (F := (s33 k).F) mix_ok Tryz.func140 (c := b33) (by kernel_rfl) (by kernel_rfl) ⟨rfl, by kernel_rfl, rfl⟩ (ty_ok _ rfl) (callsOK_tab (G := g33 k) (tab := []) all_nil) (by kernel_rfl) (by kernel_rfl) (fun C h => noLoops (by kernel_rfl)) (r33 k)
-- runs_edges_Flip_1
noncomputable def b34 := bodyOf Tryz.f137
noncomputable def l34_5 := subLoop b34 0
noncomputable def l34_11 := subLoop l34_5 0
noncomputable def l34_13 := subLoop l34_5 1
noncomputable def q34_11 (k : Nat) : LSig := ⟨⟨[(.tmp 7, .grow false (.st (.pair (.int .u16) (.int .u16))) 96)], [(0, .d (.sl (.int .i64))), (1, .d (.sl (.int .i64))), (2, .fn 140 [] []), (7, .own 0), (8, .d .bool), (9, .d (.int .i64)), (10, .d (.int .i64)), (11, .d (.int .i64)), (12, .d (.int .i64))]⟩, [(.exit 2, ⟨[(.tmp 7, .grow false (.st (.pair (.int .u16) (.int .u16))) 96)], [(0, .d (.sl (.int .i64))), (1, .d (.sl (.int .i64))), (2, .fn 140 [] []), (7, .own 0), (8, .d .bool), (9, .d (.int .i64)), (10, .d (.int .i64)), (11, .d (.int .i64)), (12, .d (.int .i64))]⟩)], fun x => runs_edges_Flip_1_l1 k x.1 x.2.1 x.2.2.1 x.2.2.2.1 x.2.2.2.2.1 x.2.2.2.2.2.1 x.2.2.2.2.2.2.1 x.2.2.2.2.2.2.2⟩
noncomputable def q34_13 (k : Nat) : LSig := ⟨⟨[(.tmp 7, .grow false (.st (.pair (.int .u16) (.int .u16))) 96)], [(0, .d (.sl (.int .i64))), (1, .d (.sl (.int .i64))), (2, .fn 140 [] []), (7, .own 0), (8, .d .bool), (9, .d (.int .i64)), (10, .d (.int .i64)), (11, .d (.int .i64)), (12, .d (.int .i64))]⟩, [(.exit 4, ⟨[(.tmp 7, .grow false (.st (.pair (.int .u16) (.int .u16))) 96)], [(0, .d (.sl (.int .i64))), (1, .d (.sl (.int .i64))), (2, .fn 140 [] []), (7, .own 0), (8, .d .bool), (9, .d (.int .i64)), (10, .d (.int .i64)), (11, .d (.int .i64)), (12, .d (.int .i64))]⟩)], fun x => runs_edges_Flip_1_l2 k x.1 x.2.1 x.2.2.1 x.2.2.2.1 x.2.2.2.2.1 x.2.2.2.2.2.1 x.2.2.2.2.2.2.1 x.2.2.2.2.2.2.2⟩
noncomputable def q34_5 (k : Nat) : LSig := ⟨⟨[(.tmp 7, .grow false (.st (.pair (.int .u16) (.int .u16))) 96)], [(0, .d (.sl (.int .i64))), (1, .d (.sl (.int .i64))), (2, .fn 140 [] []), (7, .own 0), (8, .d .bool), (9, .d (.int .i64)), (10, .d (.int .i64)), (11, .d (.int .i64))]⟩, [(.exit 0, ⟨[(.tmp 7, .grow false (.st (.pair (.int .u16) (.int .u16))) 96)], [(7, .own 0)]⟩)], fun x => runs_edges_Flip_1_l0 k x.1 x.2.1 x.2.2.1 x.2.2.2.1 x.2.2.2.2.1 x.2.2.2.2.2.1 x.2.2.2.2.2.2⟩
noncomputable def s34 (k : Nat) : Sig := ⟨⟨[], [(0, .d (.sl (.int .i64))), (1, .d (.sl (.int .i64))), (2, .fn 140 [] [])]⟩, ⟨[], [(0, .d h1)]⟩, fun x => runs_edges_Flip_1 k x.1 x.2⟩
noncomputable def g34 (k : Nat) := mkG 0 96 [(140, s33 k)] [(11, q34_11 k), (13, q34_13 k), (5, q34_5 k)]
theorem r34_11 (k : Nat) (x) : (q34_11 (k + 1)).F x = rL 0 (q34_11 k) (g34 k) l34_11 x := by kernel_rfl
theorem r34_13 (k : Nat) (x) : (q34_13 (k + 1)).F x = rL 0 (q34_13 k) (g34 k) l34_13 x := by kernel_rfl
theorem r34_5 (k : Nat) (x) : (q34_5 (k + 1)).F x = rL 0 (q34_5 k) (g34 k) l34_5 x := by kernel_rfl
theorem r34 (k : Nat) (x) : (s34 k).F x = rF Tryz.f137 (s34 k) (g34 k) b34 x := by kernel_rfl
theorem c34 (k : Nat) : CallsOK Tryz.prog gl (g34 k) := callsOK_tab (G := g34 k) (tab := [(140, s33 k)]) (all_cons (k33 k) all_nil)
theorem o34_11 (C : Ctx) (h : Is C Tryz.prog gl 0 Tryz.f137.ntmps) (k : Nat) : LoopOK C (g34 k) l34_11 := mkL h mix_ok (b := l34_11) (hd := (q34_11 0).hd) (ex := (q34_11 0).ex) (F := fun k => (q34_11 k).F) g34 (fun _ => ⟨rfl, by kernel_rfl, rfl⟩) (fun _ => ty_ok _ rfl) c34 (fun k => noLoops (by kernel_rfl)) (fun _ => rfl) r34_11 k (fun S => by kernel_rfl)
theorem o34_13 (C : Ctx) (h : Is C Tryz.prog gl 0 Tryz.f137.ntmps) (k : Nat) : LoopOK C (g34 k) l34_13 := mkL h mix_ok (b := l34_13) (hd := (q34_13 0).hd) (ex := (q34_13 0).ex) (F := fun k => (q34_13 k).F) g34 (fun _ => ⟨rfl, by kernel_rfl, rfl⟩) (fun _ => ty_ok _ rfl) c34 (fun k => noLoops (by kernel_rfl)) (fun _ => rfl) r34_13 k (fun S => by kernel_rfl)
theorem o34_5 (C : Ctx) (h : Is C Tryz.prog gl 0 Tryz.f137.ntmps) (k : Nat) : LoopOK C (g34 k) l34_5 := mkL h mix_ok (b := l34_5) (hd := (q34_5 0).hd) (ex := (q34_5 0).ex) (F := fun k => (q34_5 k).F) g34 (fun _ => ⟨rfl, by kernel_rfl, rfl⟩) (fun _ => ty_ok _ rfl) c34 (fun k => loops_all (n := 2) (by kernel_rfl) (lt_allS (lt_allS lt_all0 (o34_11 C h k)) (o34_13 C h k))) (fun _ => rfl) r34_5 k (fun S => by kernel_rfl)
theorem k34 (k : Nat) : FnOK Tryz.prog gl 137 (s34 k) := mkF (G := g34 k) (ps := (s34 k).ps) (rs := (s34 k).rs) (F := (s34 k).F) mix_ok Tryz.func137 (c := b34) (by kernel_rfl) (by kernel_rfl) ⟨rfl, by kernel_rfl, rfl⟩ (ty_ok _ rfl) (c34 k) (by kernel_rfl) (by kernel_rfl) (fun C h => loops_all (n := 1) (by kernel_rfl) (lt_allS lt_all0 (o34_5 C h k))) (r34 k)
-- runs_Flip
noncomputable def b35 := bodyOf Tryz.f94
noncomputable def s35 (k : Nat) : Sig := ⟨⟨[], [(0, .d h1), (1, .d (.int .i64)), (2, .d (.int .i64))]⟩, ⟨[], [(0, .d h1)]⟩, fun x => runs_Flip k x.1 x.2.1 x.2.2⟩
noncomputable def g35 (k : Nat) := mkG 0 22 [(72, s19 k), (138, s32 k), (137, s34 k)] []
theorem r35 (k : Nat) (x) : (s35 k).F x = rF Tryz.f94 (s35 k) (g35 k) b35 x := by kernel_rfl
theorem c35 (k : Nat) : CallsOK Tryz.prog gl (g35 k) := callsOK_tab (G := g35 k) (tab := [(72, s19 k), (138, s32 k), (137, s34 k)]) (all_cons (k19 k) (all_cons (k32 k) (all_cons (k34 k) all_nil)))
theorem k35 (k : Nat) : FnOK Tryz.prog gl 94 (s35 k) := mkF (G := g35 k) (ps := (s35 k).ps) (rs := (s35 k).rs) (F := (s35 k).F) mix_ok Tryz.func94 (c := b35) (by kernel_rfl) (by kernel_rfl) ⟨rfl, by kernel_rfl, rfl⟩ (ty_ok _ rfl) (c35 k) (by kernel_rfl) (by kernel_rfl) (fun C h => noLoops (by kernel_rfl)) (r35 k)
-- container_Container_Flip
noncomputable def b36 := bodyOf Tryz.f49
noncomputable def s36 (k : Nat) : Sig := ⟨⟨[], [(0, .d h0), (1, .d (.int .i64)), (2, .d (.int .i64))]⟩, ⟨[], [(0, .d h0)]⟩, fun x => container_Container_Flip k x.1 x.2.1 x.2.2⟩
noncomputable def g36 (k : Nat) := mkG 0 24 [(93, s7 k), (74, s31 k), (36, s27 k), (94, s35 k)] []
theorem r36 (k : Nat) (x) : (s36 k).F x = rF Tryz.f49 (s36 k) (g36 k) b36 x := by kernel_rfl
theorem c36 (k : Nat) : CallsOK Tryz.prog gl (g36 k) := callsOK_tab (G := g36 k) (tab := [(93, s7 k), (74, s31 k), (36, s27 k), (94, s35 k)]) (all_cons (k7 k) (all_cons (k31 k) (all_cons (k27 k) (all_cons (k35 k) all_nil))))
theorem k36 (k : Nat) : FnOK Tryz.prog gl 49 (s36 k) := mkF (G := g36 k) (ps := (s36 k).ps) (rs := (s36 k).rs) (F := (s36 k).F) mix_ok Tryz.func49 (c := b36) (by kernel_rfl) (by kernel_rfl) ⟨rfl, by kernel_rfl, rfl⟩ (ty_ok _ rfl) (c36 k) (by kernel_rfl) (by kernel_rfl) (fun C h => noLoops (by kernel_rfl)) (r36 k)
-- arrays_Or_1
noncomputable def b37 := bodyOf Tryz.f134
noncomputable def s37 (k : Nat) : Sig := ⟨⟨[], [(0, .d .bool), (1, .d .bool)]⟩, ⟨[], [(0, .d .bool)]⟩, fun x => arrays_Or_1 k x.1 x.2⟩
noncomputable def g37 (k : Nat) := mkG 0 5 [] []
theorem r37 (k : Nat) (x) : (s37 k).F x = rF Tryz.f134 (s37 k) (g37 k) b37 x := by kernel_rfl
theorem k37 (k : Nat) : FnOK Tryz.prog gl 134 (s37 k) := mkF (G := g37 k) (ps := (s37 k).ps) (rs := (s37 k).rs) (F := (s37 k).F) mix_ok Tryz.func134 (c := b37) (by kernel_rfl) (by kernel_rfl) ⟨rfl, by kernel_rfl, rfl⟩ (ty_ok _ rfl) (callsOK_tab (G := g37 k) (tab := []) all_nil) (by kernel_rfl) (by kernel_rfl) (fun C h => noLoops (by kernel_rfl)) (r37 k)
-- arrays_merge_Or_1
noncomputable def b38 := bodyOf Tryz.f133
noncomputable def l38_3 := subLoop b38 0
noncomputable def q38_3 (k : Nat) : LSig := ⟨⟨[(.tmp 7, .grow false (.int .u16) 72)], [(0, .d (.sl (.int .u16))), (1, .d (.sl (.int .u16))), (2, .fn 134 [] []), (7, .own 0)]⟩, [(.exit 0, ⟨[(.tmp 7, .grow false (.int .u16) 72)], [(7, .own 0)]⟩)], fun x => arrays_merge_Or_1_l0 k x.1 x.2.1 x.2.2⟩
noncomputable def s38 (k : Nat) : Sig := ⟨⟨[], [(0, .d (.sl (.int .u16))), (1, .d (.sl (.int .u16))), (2, .fn 134 [] [])]⟩, ⟨[], [(0, .d (.sl (.int .u16)))]⟩, fun x => arrays_merge_Or_1 k x.1 x.2⟩
noncomputable def g38 (k : Nat) := mkG 0 74 [(134, s37 k)] [(3, q38_3 k)]
theorem r38_3 (k : Nat) (x) : (q38_3 (k + 1)).F x = rL 0 (q38_3 k) (g38 k) l38_3 x := by kernel_rfl
theorem r38 (k : Nat) (x) : (s38 k).F x = rF Tryz.f133 (s38 k) (g38 k) b38 x := by kernel_rfl
theorem c38 (k : Nat) : CallsOK Tryz.prog gl (g38 k) := callsOK_tab (G := g38 k) (tab := [(134, s37 k)]) (all_cons (k37 k) all_nil)
theorem o38_3 (C : Ctx) (h : Is C Tryz.prog gl 0 Tryz.f133.ntmps) (k : Nat) : LoopOK C (g38 k) l38_3 := mkL h mix_ok (b := l38_3) (hd := (q38_3 0).hd) (ex := (q38_3 0).ex) (F := fun k => (q38_3 k).F) g38 (fun _ => ⟨rfl, by kernel_rfl, rfl⟩) (fun _ => ty_ok _ rfl) c38 (fun k => noLoops (by kernel_rfl)) (fun _ => rfl) r38_3 k (fun S => by kernel_rfl)
theorem k38 (k : Nat) : FnOK Tryz.prog gl 133 (s38 k) := mkF (G := g38 k) (ps := (s38 k).ps) (rs := (s38 k).rs) (F := (s38 k).F) mix_ok Tryz.func133 (c := b38) (by kernel_rfl) (by kernel_rfl) ⟨rfl, by kernel_rfl, rfl⟩ (ty_ok _ rfl) (c38 k) (by kernel_rfl) (by kernel_rfl) (fun C h => loops_all (n := 1) (by kernel_rfl) (lt_allS lt_all0 (o38_3 C h k))) (r38 k)
-- arrays_Or
noncomputable def b39 := bodyOf Tryz.f89
noncomputable def s39 (k : Nat) : Sig := ⟨⟨[], [(0, .d (.sl (.int .u16))), (1, .d (.sl (.int .u16)))]⟩, ⟨[], [(0, .d (.sl (.int .u16)))]⟩, fun x => arrays_Or k x.1 x.2⟩
noncomputable def g39 (k : Nat) := mkG 0 8 [(133, s38 k)] []
theorem r39 (k : Nat) (x) : (s39 k).F x = rF Tryz.f89 (s39 k) (g39 k) b39 x := by kernel_rfl
theorem c39 (k : Nat) : CallsOK Tryz.prog gl (g39 k) := callsOK_tab (G := g39 k) (tab := [(133, s38 k)]) (all_cons (k38 k) all_nil)
theorem k39 (k : Nat) : FnOK Tryz.prog gl 89 (s39 k) := mkF (G := g39 k) (ps := (s39 k).ps) (rs := (s39 k).rs) (F := (s39 k).F) mix_ok Tryz.func89 (c := b39) (by kernel_rfl) (by kernel_rfl) ⟨rfl, by kernel_rfl, rfl⟩ (ty_ok _ rfl) (c39 k) (by kernel_rfl) (by kernel_rfl) (fun C h => noLoops (by kernel_rfl)) (r39 k)
-- runs_Or_1
noncomputable def b40 := bodyOf Tryz.f139
noncomputable def s40 (k : Nat) : Sig := ⟨⟨[], [(0, .d .bool), (1, .d .bool)]⟩, ⟨[], [(0, .d .bool)]⟩, fun x => runs_Or_1 k x.1 x.2⟩
noncomputable def g40 (k : Nat) := mkG 0 9 [] []
theorem r40 (k : Nat) (x) : (s40 k).F x = rF Tryz.f139 (s40 k) (g40 k) b40 x := by kernel_rfl
theorem k40 (k : Nat) : FnOK Tryz.prog gl 139 (s40 k) := mkF (G := g40 k) (ps := (s40 k).ps) (rs := (s40 k).rs) (F := (s40 k).F) mix_ok Tryz.func139 (c := b40) (by kernel_rfl) (by kernel_rfl) ⟨rfl, by kernel_rfl, rfl⟩ (ty_ok _ rfl) (callsOK_tab (G := g40 k) (tab := []) all_nil) (by kernel_rfl) (by kernel_rfl) (fun C h => noLoops (by kernel_rfl)) (r40 k)
-- runs_edges_Or_1
noncomputable def b41 := bodyOf Tryz.f137
noncomputable def l41_5 := subLoop b41 0
noncomputable def l41_11 := subLoop l41_5 0
noncomputable def l41_13 := subLoop l41_5 1
noncomputable def q41_11 (k : Nat) : LSig := ⟨⟨[(.tmp 7, .grow false (.st (.pair (.int .u16) (.int .u16))) 96)], [(0, .d (.sl (.int .i64))), (1, .d (.sl (.int .i64))), (2, .fn 139 [] []), (7, .own 0), (8, .d .bool), (9, .d (.int .i64)), (10, .d (.int .i64)), (11, .d (.int .i64)), (12, .d (.int .i64))]⟩, [(.exit 2, ⟨[(.tmp 7, .grow false (.st (.pair (.int .u16) (.int .u16))) 96)], [(0, .d (.sl (.int .i64))), (1, .d (.sl (.int .i64))), (2, .fn 139 [] []), (7, .own 0), (8, .d .bool), (9, .d (.int .i64)), (10, .d (.int .i64)), (11, .d (.int .i64)), (12, .d (.int .i64))]⟩)], fun x => runs_edges_Or_1_l1 k x.1 x.2.1 x.2.2.1 x.2.2.2.1 x.2.2.2.2.1 x.2.2.2.2.2.1 x.2.2.2.2.2.2.1 x.2.2.2.2.2.2.2⟩
noncomputable def q41_13 (k : Nat) : LSig := ⟨⟨[(.tmp 7, .grow false (.st (.pair (.int .u16) (.int .u16))) 96)], [(0, .d (.sl (.int .i64))), (1, .d (.sl (.int .i64))), (2, .fn 139 [] []), (7, .own 0), (8, .d .bool), (9, .d (.int .i64)), (10, .d (.int .i64)), (11, .d (.int .i64)), (12, .d (.int .i64))]⟩, [(.exit 4, ⟨[(.tmp 7, .grow false (.st (.pair (.int .u16) (.int .u16))) 96)], [(0, .d (.sl (.int .i64))), (1, .d (.sl (.int .i64))), (2, .fn 139 [] []), (7, .own 0), (8, .d .bool), (9, .d (.int .i64)), (10, .d (.int .i64)), (11, .d (.int .i64)), (12, .d (.int .i64))]⟩)], fun x => runs_edges_Or_1_l2 k x.1 x.2.1 x.2.2.1 x.2.2.2.1 x.2.2.2.2.1 x.2.2.2.2.2.1 x.2.2.2.2.2.2.1 x.2.2.2.2.2.2.2⟩
noncomputable def q41_5 (k : Nat) : LSig := ⟨⟨[(.tmp 7, .grow false (.st (.pair (.int .u16) (.int .u16))) 96)], [(0, .d (.sl (.int .i64))), (1, .d (.sl (.int .i64))), (2, .fn 139 [] []), (7, .own 0), (8, .d .bool), (9, .d (.int .i64)), (10, .d (.int .i64)), (11, .d (.int .i64))]⟩, [(.exit 0, ⟨[(.tmp 7, .grow false (.st (.pair (.int .u16) (.int .u16))) 96)], [(7, .own 0)]⟩)], fun x => runs_edges_Or_1_l0 k x.1 x.2.1 x.2.2.1 x.2.2.2.1 x.2.2.2.2.1 x.2.2.2.2.2.1 x.2.2.2.2.2.2⟩
noncomputable def s41 (k : Nat) : Sig := ⟨⟨[], [(0, .d (.sl (.int .i64))), (1, .d (.sl (.int .i64))), (2, .fn 139 [] [])]⟩, ⟨[], [(0, .d h1)]⟩, fun x => runs_edges_Or_1 k x.1 x.2⟩
noncomputable def g41 (k : Nat) := mkG 0 96 [(139, s40 k)] [(11, q41_11 k), (13, q41_13 k), (5, q41_5 k)]
theorem r41_11 (k : Nat) (x) : (q41_11 (k + 1)).F x = rL 0 (q41_11 k) (g41 k) l41_11 x := by kernel_rfl
theorem r41_13 (k : Nat) (x) : (q41_13 (k + 1)).F x = rL 0 (q41_13 k) (g41 k) l41_13 x := by kernel_rfl
theorem r41_5 (k : Nat) (x) : (q41_5 (k + 1)).F x = rL 0 (q41_5 k) (g41 k) l41_5 x := by kernel_rfl
theorem r41 (k : Nat) (x) : (s41 k).F x = rF Tryz.f137 (s41 k) (g41 k) b41 x := by kernel_rfl
theorem c41 (k : Nat) : CallsOK Tryz.prog gl (g41 k) := callsOK_tab (G := g41 k) (tab := [(139, s40 k)]) (all_cons (k40 k) all_nil)
theorem o41_11 (C : Ctx) (h : Is C Tryz.prog gl 0 Tryz.f137.ntmps) (k : Nat) : LoopOK C (g41 k) l41_11 := mkL h mix_ok (b := l41_11) (hd := (q41_11 0).hd) (ex := (q41_11 0).ex) (F := fun k => (q41_11 k).F) g41 (fun _ => ⟨rfl, by kernel_rfl, rfl⟩) (fun _ => ty_ok _ rfl) c41 (fun k => noLoops (by kernel_rfl)) (fun _ => rfl) r41_11 k (fun S => by kernel_rfl)
theorem o41_13 (C : Ctx) (h : Is C Tryz.prog gl 0 Tryz.f137.ntmps) (k : Nat) : LoopOK C (g41 k) l41_13 := mkL h mix_ok (b := l41_13) (hd := (q41_13 0).hd) (ex := (q41_13 0).ex) (F := fun k => (q41_13 k).F) g41 (fun _ => ⟨rfl, by kernel_rfl, rfl⟩) (fun _ => ty_ok _ rfl) c41 (fun k => noLoops (by kernel_rfl)) (fun _ => rfl) r41_13 k (fun S => by kernel_rfl)
theorem o41_5 (C : Ctx) (h : Is C Tryz.prog gl 0 Tryz.f137.ntmps) (k : Nat) : LoopOK C (g41 k) l41_5 := mkL h mix_ok (b := l41_5) (hd := (q41_5 0).hd) (ex := (q41_5 0).ex) (F := fun k => (q41_5 k).F) g41 (fun _ => ⟨rfl, by kernel_rfl, rfl⟩) (fun _ => ty_ok _ rfl) c41 (fun k => loops_all (n := 2) (by kernel_rfl) (lt_allS (lt_allS lt_all0 (o41_11 C h k)) (o41_13 C h k))) (fun _ => rfl) r41_5 k (fun S => by kernel_rfl)
theorem k41 (k : Nat) : FnOK Tryz.prog gl 137 (s41 k) := mkF (G := g41 k) (ps := (s41 k).ps) (rs := (s41 k).rs) (F := (s41 k).F) mix_ok Tryz.func137 (c := b41) (by kernel_rfl) (by kernel_rfl) ⟨rfl, by kernel_rfl, rfl⟩ (ty_ok _ rfl) (c41 k) (by kernel_rfl) (by kernel_rfl) (fun C h => loops_all (n := 1) (by kernel_rfl) (lt_allS lt_all0 (o41_5 C h k))) (r41 k)
-- runs_Or
noncomputable def b42 := bodyOf Tryz.f91
noncomputable def s42 (k : Nat) : Sig := ⟨⟨[], [(0, .d h1), (1, .d h1)]⟩, ⟨[], [(0, .d h1)]⟩, fun x => runs_Or k x.1 x.2⟩
noncomputable def g42 (k : Nat) := mkG 0 10 [(138, s32 k), (137, s41 k)] []
theorem r42 (k : Nat) (x) : (s42 k).F x = rF Tryz.f91 (s42 k) (g42 k) b42 x := by kernel_rfl
theorem c42 (k : Nat) : CallsOK Tryz.prog gl (g42 k) := callsOK_tab (G := g42 k) (tab := [(138, s32 k), (137, s41 k)]) (all_cons (k32 k) (all_cons (k41 k) all_nil))
theorem k42 (k : Nat) : FnOK Tryz.prog gl 91 (s42 k) := mkF (G := g42 k) (ps := (s42 k).ps) (rs := (s42 k).rs) (F := (s42 k).F) mix_ok Tryz.func91 (c := b42) (by kernel_rfl) (by kernel_rfl) ⟨rfl, by kernel_rfl, rfl⟩ (ty_ok _ rfl) (c42 k) (by kernel_rfl) (by kernel_rfl) (fun C h => noLoops (by kernel_rfl)) (r42 k)
-- words_Or_1
noncomputable def b43 := bodyOf Tryz.f136
noncomputable def s43 (k : Nat) : Sig := ⟨⟨[], [(0, .d (.int .u64)), (1, .d (.int .u64))]⟩, ⟨[], [(0, .d (.int .u64))]⟩, fun x => words_Or_1 k x.1 x.2⟩
noncomputable def g43 (k : Nat) := mkG 0 8 [] []
theorem r43 (k : Nat) (x) : (s43 k).F x = rF Tryz.f136 (s43 k) (g43 k) b43 x := by kernel_rfl
theorem k43 (k : Nat) : FnOK Tryz.prog gl 136 (s43 k) := mkF (G := g43 k) (ps := (s43 k).ps) (rs := (s43 k).rs) (F := (s43 k).F) mix_ok Tryz.func136 (c := b43) (by kernel_rfl) (by kernel_rfl) ⟨rfl, by kernel_rfl, rfl⟩ (ty_ok _ rfl) (callsOK_tab (G := g43 k) (tab := []) all_nil) (by kernel_rfl) (by kernel_rfl) (fun C h => noLoops (by kernel_rfl)) (r43 k)
-- words_each_Or_1
noncomputable def b44 := bodyOf Tryz.f135
noncomputable def l44_4 := subLoop b44 0
noncomputable def q44_4 (k : Nat) : LSig := ⟨⟨[(.tmp 7, .grow false (.int .u64) 22)], [(0, .d (.sl (.int .u64))), (1, .d (.sl (.int .u64))), (2, .fn 136 [] []), (7, .own 0), (14, .d (.int .i64)), (15, .d (.int .i64))]⟩, [(.exit 0, ⟨[(.tmp 7, .grow false (.int .u64) 22)], [(7, .own 0)]⟩)], fun x => words_each_Or_1_l0 k x.1 x.2.1 x.2.2.1 x.2.2.2.1 x.2.2.2.2⟩
noncomputable def s44 (k : Nat) : Sig := ⟨⟨[], [(0, .d (.sl (.int .u64))), (1, .d (.sl (.int .u64))), (2, .fn 136 [] [])]⟩, ⟨[], [(0, .d (.sl (.int .u64)))]⟩, fun x => words_each_Or_1 k x.1 x.2⟩
noncomputable def g44 (k : Nat) := mkG 0 33 [(136, s43 k)] [(4, q44_4 k)]
theorem r44_4 (k : Nat) (x) : (q44_4 (k + 1)).F x = rL 0 (q44_4 k) (g44 k) l44_4 x := by kernel_rfl
theorem r44 (k : Nat) (x) : (s44 k).F x = rF Tryz.f135 (s44 k) (g44 k) b44 x := by kernel_rfl
theorem c44 (k : Nat) : CallsOK Tryz.prog gl (g44 k) := callsOK_tab (G := g44 k) (tab := [(136, s43 k)]) (all_cons (k43 k) all_nil)
theorem o44_4 (C : Ctx) (h : Is C Tryz.prog gl 0 Tryz.f135.ntmps) (k : Nat) : LoopOK C (g44 k) l44_4 := mkL h mix_ok (b := l44_4) (hd := (q44_4 0).hd) (ex := (q44_4 0).ex) (F := fun k => (q44_4 k).F) g44 (fun _ => ⟨rfl, by kernel_rfl, rfl⟩) (fun _ => ty_ok _ rfl) c44 (fun k => noLoops (by kernel_rfl)) (fun _ => rfl) r44_4 k (fun S => by kernel_rfl)
theorem k44 (k : Nat) : FnOK Tryz.prog gl 135 (s44 k) := mkF (G := g44 k) (ps := (s44 k).ps) (rs := (s44 k).rs) (F := (s44 k).F) mix_ok Tryz.func135 (c := b44) (by kernel_rfl) (by kernel_rfl) ⟨rfl, by kernel_rfl, rfl⟩ (ty_ok _ rfl) (c44 k) (by kernel_rfl) (by kernel_rfl) (fun C h => loops_all (n := 1) (by kernel_rfl) (lt_allS lt_all0 (o44_4 C h k))) (r44 k)
-- words_Or
noncomputable def b45 := bodyOf Tryz.f90
noncomputable def s45 (k : Nat) : Sig := ⟨⟨[], [(0, .d (.sl (.int .u64))), (1, .d (.sl (.int .u64)))]⟩, ⟨[], [(0, .d (.sl (.int .u64)))]⟩, fun x => words_Or k x.1 x.2⟩
noncomputable def g45 (k : Nat) := mkG 0 8 [(135, s44 k)] []
theorem r45 (k : Nat) (x) : (s45 k).F x = rF Tryz.f90 (s45 k) (g45 k) b45 x := by kernel_rfl
theorem c45 (k : Nat) : CallsOK Tryz.prog gl (g45 k) := callsOK_tab (G := g45 k) (tab := [(135, s44 k)]) (all_cons (k44 k) all_nil)
theorem k45 (k : Nat) : FnOK Tryz.prog gl 90 (s45 k) := mkF (G := g45 k) (ps := (s45 k).ps) (rs := (s45 k).rs) (F := (s45 k).F) mix_ok Tryz.func90 (c := b45) (by kernel_rfl) (by kernel_rfl) ⟨rfl, by kernel_rfl, rfl⟩ (ty_ok _ rfl) (c45 k) (by kernel_rfl) (by kernel_rfl) (fun C h => noLoops (by kernel_rfl)) (r45 k)
-- container_pair_do
noncomputable def b46 := bodyOf Tryz.f92
noncomputable def s46 (k : Nat) : Sig := ⟨⟨[], [(0, .agg [.fn 89 [] [], .fn 90 [] [], .fn 91 [] []]), (1, .d h0), (2, .d h0)]⟩, ⟨[], [(0, .d h0)]⟩, fun x => container_pair_do k x.1 x.2⟩
noncomputable def g46 (k : Nat) := mkG 0 52 [(81, s8 k), (89, s39 k), (74, s31 k), (91, s42 k), (34, s30 k), (90, s45 k)] []
theorem r46 (k : Nat) (x) : (s46 k).F x = rF Tryz.f92 (s46 k) (g46 k) b46 x := by kernel_rfl
theorem c46 (k : Nat) : CallsOK Tryz.prog gl (g46 k) := callsOK_tab (G := g46 k) (tab := [(81, s8 k), (89, s39 k), (74, s31 k), (91, s42 k), (34, s30 k), (90, s45 k)]) (all_cons (k8 k) (all_cons (k39 k) (all_cons (k31 k) (all_cons (k42 k) (all_cons (k30 k) (all_cons (k45 k) all_nil))))))
theorem k46 (k : Nat) : FnOK Tryz.prog gl 92 (s46 k) := mkF (G := g46 k) (ps := (s46 k).ps) (rs := (s46 k).rs) (F := (s46 k).F) mix_ok Tryz.func92 (c := b46) (by kernel_rfl) (by kernel_rfl) ⟨rfl, by kernel_rfl, rfl⟩ (ty_ok _ rfl) (c46 k) (by kernel_rfl) (by kernel_rfl) (fun C h => noLoops (by kernel_rfl)) (r46 k)
-- container_Container_Or
noncomputable def b47 := bodyOf Tryz.f48
noncomputable def s47 (k : Nat) : Sig := ⟨⟨[], [(0, .d h0), (1, .d h0)]⟩, ⟨[], [(0, .d h0)]⟩, fun x => container_Container_Or k x.1 x.2⟩
noncomputable def g47 (k : Nat) := mkG 0 9 [(92, s46 k)] []
theorem r47 (k : Nat) (x) : (s47 k).F x = rF Tryz.f48 (s47 k) (g47 k) b47 x := by kernel_rfl
theorem c47 (k : Nat) : CallsOK Tryz.prog gl (g47 k) := callsOK_tab (G := g47 k) (tab := [(92, s46 k)]) (all_cons (k46 k) all_nil)
theorem k47 (k : Nat) : FnOK Tryz.prog gl 48 (s47 k) := mkF (G := g47 k) (ps := (s47 k).ps) (rs := (s47 k).rs) (F := (s47 k).F) mix_ok Tryz.func48 (c := b47) (by kernel_rfl) (by kernel_rfl) ⟨rfl, by kernel_rfl, rfl⟩ (ty_ok _ rfl) (c47 k) (by kernel_rfl) (by kernel_rfl) (fun C h => noLoops (by kernel_rfl)) (r47 k)
-- slices_Insert_uint16
noncomputable def b48 := bodyOf Tryz.f87
noncomputable def s48 (k : Nat) : Sig := ⟨⟨[(.pin 0, .grow true (.int .u16) 72)], [(0, .own 0), (1, .d (.int .i64)), (2, .d (.sl (.int .u16)))]⟩, ⟨[(.pin 0, .gone), (.tmp 0, .grow true (.int .u16) 72)], [(0, .own 1)]⟩, fun x => slices_Insert_uint16 k x.1 x.2.1 x.2.2⟩
noncomputable def g48 (k : Nat) := mkG 1 95 [] []
theorem r48 (k : Nat) (x) : (s48 k).F x = rF Tryz.f87 (s48 k) (g48 k) b48 x := by kernel_rfl
theorem k48 (k : Nat) : FnOK Tryz.prog gl 87 (s48 k) := mkF (G := g48 k) (ps := (s48 k).ps) (rs := (s48 k).rs) (F := (s48 k).F) mix_ok Tryz.func87 (c := b48) (by kernel_rfl) (by kernel_rfl) ⟨rfl, by kernel_rfl, rfl⟩ (ty_ok _ rfl) (callsOK_tab (G := g48 k) (tab := []) all_nil) (by kernel_rfl) (by kernel_rfl) (fun C h => noLoops (by kernel_rfl)) (r48 k)
-- slices_Insert_Container
noncomputable def b49 := bodyOf Tryz.f88
noncomputable def s49 (k : Nat) : Sig := ⟨⟨[(.pin 0, .grow true h0 65)], [(0, .own 0), (1, .d (.int .i64)), (2, .d h2)]⟩, ⟨[(.pin 0, .gone), (.tmp 0, .grow true h0 65)], [(0, .own 1)]⟩, fun x => slices_Insert_Container k x.1 x.2.1 x.2.2⟩
noncomputable def g49 (k : Nat) := mkG 1 95 [] []
theorem r49 (k : Nat) (x) : (s49 k).F x = rF Tryz.f88 (s49 k) (g49 k) b49 x := by kernel_rfl
theorem k49 (k : Nat) : FnOK Tryz.prog gl 88 (s49 k) := mkF (G := g49 k) (ps := (s49 k).ps) (rs := (s49 k).rs) (F := (s49 k).F) mix_ok Tryz.func88 (c := b49) (by kernel_rfl) (by kernel_rfl) ⟨rfl, by kernel_rfl, rfl⟩ (ty_ok _ rfl) (callsOK_tab (G := g49 k) (tab := []) all_nil) (by kernel_rfl) (by kernel_rfl) (fun C h => noLoops (by kernel_rfl)) (r49 k)
-- roaring_Set_put
noncomputable def b50 := bodyOf Tryz.f46
noncomputable def s50 (k : Nat) : Sig := ⟨⟨[(.pin 0, .cells [.own 1, .own 2]), (.pin 1, .grow true (.int .u16) 72), (.pin 2, .grow true h0 65)], [(0, .ptr 0 0), (1, .d (.int .u16)), (2, .d h0)]⟩, ⟨[(.pin 0, .cells [.own 3, .own 4]), (.pin 1, .gone), (.pin 2, .gone), (.cell 0 0, .grow true (.int .u16) 72), (.cell 0 1, .grow true h0 65)], []⟩, fun x => roaring_Set_put k x.1 x.2.1 x.2.2.1 x.2.2.2⟩
noncomputable def g50 (k : Nat) := mkG 3 44 [(86, s5 k), (87, s48 k), (88, s49 k)] []
theorem r50 (k : Nat) (x) : (s50 k).F x = rF Tryz.f46 (s50 k) (g50 k) b50 x := by kernel_rfl
theorem c50 (k : Nat) : CallsOK Tryz.prog gl (g50 k) := callsOK_tab (G := g50 k) (tab := [(86, s5 k), (87, s48 k), (88, s49 k)]) (all_cons (k5 k) (all_cons (k48 k) (all_cons (k49 k) all_nil)))
theorem k50 (k : Nat) : FnOK Tryz.prog gl 46 (s50 k) := mkF (G := g50 k) (ps := (s50 k).ps) (rs := (s50 k).rs) (F := (s50 k).F) mix_ok Tryz.func46 (c := b50) (by kernel_rfl) (by kernel_rfl) ⟨rfl, by kernel_rfl, rfl⟩ (ty_ok _ rfl) (c50 k) (by kernel_rfl) (by kernel_rfl) (fun C h => noLoops (by kernel_rfl)) (r50 k)
-- roaring_Set_AddRange
noncomputable def b51 := bodyOf Tryz.f12
noncomputable def l51_2 := subLoop b51 0
noncomputable def q51_2 (k : Nat) : LSig := ⟨⟨[(.pin 0, .cells [.own 3, .own 4]), (.pin 1, .gone), (.pin 2, .gone), (.cell 0 0, .grow true (.int .u16) 72), (.cell 0 1, .grow true h0 65)], [(0, .ptr 0 0), (1, .d (.int .u64)), (2, .d (.int .u64))]⟩, [(.exit 0, ⟨[(.pin 0, .cells [.own 3, .own 4]), (.pin 1, .gone), (.pin 2, .gone), (.cell 0 0, .grow true (.int .u16) 72), (.cell 0 1, .grow true h0 65)], []⟩)], fun x => roaring_Set_AddRange_l0 k x.1 x.2.1 x.2.2.1 x.2.2.2⟩
noncomputable def s51 (k : Nat) : Sig := ⟨⟨[(.pin 0, .cells [.own 1, .own 2]), (.pin 1, .grow true (.int .u16) 72), (.pin 2, .grow true h0 65)], [(0, .ptr 0 0), (1, .d (.int .u64)), (2, .d (.int .u64))]⟩, ⟨[(.pin 0, .cells [.own 3, .own 4]), (.pin 1, .gone), (.pin 2, .gone), (.cell 0 0, .grow true (.int .u16) 72), (.cell 0 1, .grow true h0 65)], []⟩, fun x => roaring_Set_AddRange k x.1 x.2.1 x.2.2.1 x.2.2.2⟩
noncomputable def g51 (k : Nat) := mkG 3 49 [(47, s6 k), (49, s36 k), (48, s47 k), (46, s50 k)] [(2, q51_2 k)]
theorem r51_2 (k : Nat) (x) : (q51_2 (k + 1)).F x = rL 3 (q51_2 k) (g51 k) l51_2 x := by kernel_rfl
theorem r51 (k : Nat) (x) : (s51 k).F x = rF Tryz.f12 (s51 k) (g51 k) b51 x := by kernel_rfl
theorem c51 (k : Nat) : CallsOK Tryz.prog gl (g51 k) := callsOK_tab (G := g51 k) (tab := [(47, s6 k), (49, s36 k), (48, s47 k), (46, s50 k)]) (all_cons (k6 k) (all_cons (k36 k) (all_cons (k47 k) (all_cons (k50 k) all_nil))))
theorem o51_2 (C : Ctx) (h : Is C Tryz.prog gl 3 Tryz.f12.ntmps) (k : Nat) : LoopOK C (g51 k) l51_2 := mkL h mix_ok (b := l51_2) (hd := (q51_2 0).hd) (ex := (q51_2 0).ex) (F := fun k => (q51_2 k).F) g51 (fun _ => ⟨rfl, by kernel_rfl, rfl⟩) (fun _ => ty_ok _ rfl) c51 (fun k => noLoops (by kernel_rfl)) (fun _ => rfl) r51_2 k (fun S => by kernel_rfl)
theorem k51 (k : Nat) : FnOK Tryz.prog gl 12 (s51 k) := mkF (G := g51 k) (ps := (s51 k).ps) (rs := (s51 k).rs) (F := (s51 k).F) mix_ok Tryz.func12 (c := b51) (by kernel_rfl) (by kernel_rfl) ⟨rfl, by kernel_rfl, rfl⟩ (ty_ok _ rfl) (c51 k) (by kernel_rfl) (by kernel_rfl) (fun C h => loops_all (n := 1) (by kernel_rfl) (lt_allS lt_all0 (o51_2 C h k))) (r51 k)
-- slices_Clone_uint16_w
noncomputable def b52 := bodyOf Tryz.f55
noncomputable def s52 (k : Nat) : Sig := ⟨⟨[(.pin 0, .grow true (.int .u16) 72)], [(0, .own 0)]⟩, ⟨[(.pin 0, .grow true (.int .u16) 72), (.tmp 0, .grow false (.int .u16) 72)], [(0, .own 1)]⟩, fun x => slices_Clone_uint16_w k x⟩
noncomputable def g52 (k : Nat) := mkG 1 8 [] []
theorem r52 (k : Nat) (x) : (s52 k).F x = rF Tryz.f55 (s52 k) (g52 k) b52 x := by kernel_rfl
theorem k52 (k : Nat) : FnOK Tryz.prog gl 55 (s52 k) := mkF (G := g52 k) (ps := (s52 k).ps) (rs := (s52 k).rs) (F := (s52 k).F) mix_ok Tryz.func55 (c := b52) (by kernel_rfl) (by kernel_rfl) ⟨rfl, by kernel_rfl, rfl⟩ (ty_ok _ rfl) (callsOK_tab (G := g52 k) (tab := []) all_nil) (by kernel_rfl) (by kernel_rfl) (fun C h => noLoops (by kernel_rfl)) (r52 k)
-- roaring_Set_Keys
noncomputable def b53 := bodyOf Tryz.f40
noncomputable def s53 (k : Nat) : Sig := ⟨⟨[(.pin 0, .cells [.own 1, .own 2]), (.pin 1, .grow true (.int .u16) 72), (.pin 2, .grow true h0 65)], [(0, .ptr 0 0)]⟩, ⟨[(.pin 0, .cells [.own 1, .own 2]), (.pin 1, .grow true (.int .u16) 72), (.pin 2, .grow true h0 65)], [(0, .d (.sl (.int .u16)))]⟩, fun x => roaring_Set_Keys k x.1 x.2⟩
noncomputable def g53 (k : Nat) := mkG 3 10 [(55, s52 k)] []
theorem r53 (k : Nat) (x) : (s53 k).F x = rF Tryz.f40 (s53 k) (g53 k) b53 x := by kernel_rfl
theorem c53 (k : Nat) : CallsOK Tryz.prog gl (g53 k) := callsOK_tab (G := g53 k) (tab := [(55, s52 k)]) (all_cons (k52 k) all_nil)
theorem k53 (k : Nat) : FnOK Tryz.prog gl 40 (s53 k) := mkF (G := g53 k) (ps := (s53 k).ps) (rs := (s53 k).rs) (F := (s53 k).F) mix_ok Tryz.func40 (c := b53) (by kernel_rfl) (by kernel_rfl) ⟨rfl, by kernel_rfl, rfl⟩ (ty_ok _ rfl) (c53 k) (by kernel_rfl) (by kernel_rfl) (fun C h => noLoops (by kernel_rfl)) (r53 k)
-- slices_Clone_uint32
noncomputable def b54 := bodyOf Tryz.f60
noncomputable def s54 (k : Nat) : Sig := ⟨⟨[], [(0, .d (.sl (.int .u32)))]⟩, ⟨[(.tmp 0, .grow false (.int .u32) 39)], [(0, .own 0)]⟩, fun x => slices_Clone_uint32 k x⟩
noncomputable def g54 (k : Nat) := mkG 0 8 [] []
theorem r54_cons (k : Nat) (x l) : (s54 k).F (x :: l) = (ev (g54 k) b54 (head (s54 k).ps (ofTup (s54 k).ps.shs (x :: l)))).den (funEnd (g54 k) Tryz.f60.results.toList 0 (s54 k).rs) := by kernel_rfl
theorem r54_nil (k : Nat) : (ev (g54 k) (ambR0 b54) (head (s54 k).ps (ofTup (s54 k).ps.shs []))).den (ambMid (g54 k) (ambT b54) (ambR1 b54) (ambA b54) (ambB b54) (funEnd (g54 k) Tryz.f60.results.toList 0 (s54 k).rs)) = some [] := by kernel_rfl
theorem h54_shape : b54 = .seq (ambR0 b54) (.seq (.seq (ambR1 b54) (.cond (.tmp (ambT b54)) (ambA b54) .skip)) (ambB b54)) := by kernel_rfl
theorem k54 (k : Nat) : FnOK Tryz.prog gl 60 (s54 k) := clone_own_ok (G := g54 k) (e := (.int .u32)) (F := slices_Clone_uint32 k) mix_ok Tryz.func60 (c := b54) (by kernel_rfl) (by kernel_rfl) (mkB (ps := (s54 k).ps) (rs := (s54 k).rs) ⟨rfl, by kernel_rfl, rfl⟩ (ty_ok _ rfl) (callsOK_tab (G := g54 k) (tab := []) all_nil) (by kernel_rfl) (by kernel_rfl) (fun C h => noLoops (by kernel_rfl))) h54_shape (by kernel_rfl) (by kernel_rfl) (by kernel_rfl) (by kernel_rfl) (r54_nil k) (r54_cons k) rfl
-- math_bits_Len64
noncomputable def b55 := bodyOf Tryz.f165
noncomputable def s55 (k : Nat) : Sig := ⟨⟨[], [(0, .d (.int .u64))]⟩, ⟨[], [(0, .d (.int .i64))]⟩, fun x => math_bits_Len64 k x⟩
noncomputable def g55 (k : Nat) := mkG 0 25 [] []
theorem r55 (k : Nat) (x) : (s55 k).F x = rF Tryz.f165 (s55 k) (g55 k) b55 x := by kernel_rfl
theorem k55 (k : Nat) : FnOK Tryz.prog gl 165 (s55 k) := mkF (G := g55 k) (ps := (s55 k).ps) (rs := (s55 k).rs) (F := (s55 k).F) mix_ok Tryz.func165 (c := b55) (by kernel_rfl) (by kernel_rfl) ⟨rfl, by kernel_rfl, rfl⟩ (ty_ok _ rfl) (callsOK_tab (G := g55 k) (tab := []) all_nil) (by kernel_rfl) (by kernel_rfl) (fun C h => noLoops (by kernel_rfl)) (r55 k)
-- math_bits_Len
noncomputable def b56 := bodyOf Tryz.f113
noncomputable def s56 (k : Nat) : Sig := ⟨⟨[], [(0, .d (.int .u64))]⟩, ⟨[], [(0, .d (.int .i64))]⟩, fun x => math_bits_Len k x⟩
noncomputable def g56 (k : Nat) := mkG 0 8 [(165, s55 k)] []
theorem r56 (k : Nat) (x) : (s56 k).F x = rF Tryz.f113 (s56 k) (g56 k) b56 x := by kernel_rfl
theorem c56 (k : Nat) : CallsOK Tryz.prog gl (g56 k) := callsOK_tab (G := g56 k) (tab := [(165, s55 k)]) (all_cons (k55 k) all_nil)
theorem k56 (k : Nat) : FnOK Tryz.prog gl 113 (s56 k) := mkF (G := g56 k) (ps := (s56 k).ps) (rs := (s56 k).rs) (F := (s56 k).F) mix_ok Tryz.func113 (c := b56) (by kernel_rfl) (by kernel_rfl) ⟨rfl, by kernel_rfl, rfl⟩ (ty_ok _ rfl) (c56 k) (by kernel_rfl) (by kernel_rfl) (fun C h => noLoops (by kernel_rfl)) (r56 k)
-- cmp_isNaN_uint32
noncomputable def b57 := bodyOf Tryz.f198
noncomputable def s57 (k : Nat) : Sig := ⟨⟨[], [(0, .d (.int .u32))]⟩, ⟨[], [(0, .d .bool)]⟩, fun x => cmp_isNaN_uint32 k x⟩
noncomputable def g57 (k : Nat) := mkG 0 6 [] []
theorem r57 (k : Nat) (x) : (s57 k).F x = rF Tryz.f198 (s57 k) (g57 k) b57 x := by kernel_rfl
theorem k57 (k : Nat) : FnOK Tryz.prog gl 198 (s57 k) := mkF (G := g57 k) (ps := (s57 k).ps) (rs := (s57 k).rs) (F := (s57 k).F) mix_ok Tryz.func198 (c := b57) (by kernel_rfl) (by kernel_rfl) ⟨rfl, by kernel_rfl, rfl⟩ (ty_ok _ rfl) (callsOK_tab (G := g57 k) (tab := []) all_nil) (by kernel_rfl) (by kernel_rfl) (fun C h => noLoops (by kernel_rfl)) (r57 k)
-- cmp_Less_uint32
noncomputable def b58 := bodyOf Tryz.f161
noncomputable def s58 (k : Nat) : Sig := ⟨⟨[], [(0, .d (.int .u32)), (1, .d (.int .u32))]⟩, ⟨[], [(0, .d .bool)]⟩, fun x => cmp_Less_uint32 k x.1 x.2⟩
noncomputable def g58 (k : Nat) := mkG 0 17 [(198, s57 k)] []
theorem r58 (k : Nat) (x) : (s58 k).F x = rF Tryz.f161 (s58 k) (g58 k) b58 x := by kernel_rfl
theorem c58 (k : Nat) : CallsOK Tryz.prog gl (g58 k) := callsOK_tab (G := g58 k) (tab := [(198, s57 k)]) (all_cons (k57 k) all_nil)
theorem k58 (k : Nat) : FnOK Tryz.prog gl 161 (s58 k) := mkF (G := g58 k) (ps := (s58 k).ps) (rs := (s58 k).rs) (F := (s58 k).F) mix_ok Tryz.func161 (c := b58) (by kernel_rfl) (by kernel_rfl) ⟨rfl, by kernel_rfl, rfl⟩ (ty_ok _ rfl) (c58 k) (by kernel_rfl) (by kernel_rfl) (fun C h => noLoops (by kernel_rfl)) (r58 k)
-- slices_insertionSortOrdered_uint32
noncomputable def b59 := bodyOf Tryz.f155
noncomputable def l59_2 := subLoop b59 0
noncomputable def l59_5 := subLoop l59_2 0
noncomputable def q59_5 (k : Nat) : LSig := ⟨⟨[(.pin 0, .grow true (.int .u32) 39)], [(0, .own 0), (1, .d (.int .i64)), (2, .d (.int .i64)), (6, .d (.int .i64)), (7, .d (.int .i64))]⟩, [(.exit 2, ⟨[(.pin 0, .grow true (.int .u32) 39)], [(0, .own 0), (1, .d (.int .i64)), (2, .d (.int .i64)), (6, .d (.int .i64))]⟩)], fun x => slices_insertionSortOrdered_uint32_l1 k x.1 x.2.1 x.2.2.1 x.2.2.2.1 x.2.2.2.2⟩
noncomputable def q59_2 (k : Nat) : LSig := ⟨⟨[(.pin 0, .grow true (.int .u32) 39)], [(0, .own 0), (1, .d (.int .i64)), (2, .d (.int .i64)), (6, .d (.int .i64))]⟩, [(.exit 0, ⟨[(.pin 0, .grow true (.int .u32) 39)], []⟩)], fun x => slices_insertionSortOrdered_uint32_l0 k x.1 x.2.1 x.2.2.1 x.2.2.2⟩
noncomputable def s59 (k : Nat) : Sig := ⟨⟨[(.pin 0, .grow true (.int .u32) 39)], [(0, .own 0), (1, .d (.int .i64)), (2, .d (.int .i64))]⟩, ⟨[(.pin 0, .grow true (.int .u32) 39)], []⟩, fun x => slices_insertionSortOrdered_uint32 k x.1 x.2.1 x.2.2⟩
noncomputable def g59 (k : Nat) := mkG 1 49 [(161, s58 k)] [(5, q59_5 k), (2, q59_2 k)]
theorem r59_5 (k : Nat) (x) : (q59_5 (k + 1)).F x = rL 1 (q59_5 k) (g59 k) l59_5 x := by kernel_rfl
theorem r59_2 (k : Nat) (x) : (q59_2 (k + 1)).F x = rL 1 (q59_2 k) (g59 k) l59_2 x := by kernel_rfl
theorem r59 (k : Nat) (x) : (s59 k).F x = rF Tryz.f155 (s59 k) (g59 k) b59 x := by kernel_rfl
theorem c59 (k : Nat) : CallsOK Tryz.prog gl (g59 k) := callsOK_tab (G := g59 k) (tab := [(161, s58 k)]) (all_cons (k58 k) all_nil)
theorem o59_5 (C : Ctx) (h : Is C Tryz.prog gl 1 Tryz.f155.ntmps) (k : Nat) : LoopOK C (g59 k) l59_5 := mkL h mix_ok (b := l59_5) (hd := (q59_5 0).hd) (ex := (q59_5 0).ex) (F := fun k => (q59_5 k).F) g59 (fun _ => ⟨rfl, by kernel_rfl, rfl⟩) (fun _ => ty_ok _ rfl) c59 (fun k => noLoops (by kernel_rfl)) (fun _ => rfl) r59_5 k (fun S => by kernel_rfl)
theorem o59_2 (C : Ctx) (h : Is C Tryz.prog gl 1 Tryz.f155.ntmps) (k : Nat) : LoopOK C (g59 k) l59_2 := mkL h mix_ok (b := l59_2) (hd := (q59_2 0).hd) (ex := (q59_2 0).ex) (F := fun k => (q59_2 k).F) g59 (fun _ => ⟨rfl, by kernel_rfl, rfl⟩) (fun _ => ty_ok _ rfl) c59 (fun k => loops_all (n := 1) (by kernel_rfl) (lt_allS lt_all0 (o59_5 C h k))) (fun _ => rfl) r59_2 k (fun S => by kernel_rfl)
theorem k59 (k : Nat) : FnOK Tryz.prog gl 155 (s59 k) := mkF (G := g59 k) (ps := (s59 k).ps) (rs := (s59 k).rs) (F := (s59 k).F) mix_ok Tryz.func155 (c := b59) (by kernel_rfl) (by kernel_rfl) ⟨rfl, by kernel_rfl, rfl⟩ (ty_ok _ rfl) (c59 k) (by kernel_rfl) (by kernel_rfl) (fun C h => loops_all (n := 1) (by kernel_rfl) (lt_allS lt_all0 (o59_2 C h k))) (r59 k)
-- slices_pdqsortOrdered_uint32
noncomputable def b60 := bodyOf Tryz.f112
noncomputable def l60_3 := subLoop b60 0
noncomputable def q60_3 (k : Nat) : LSig := ⟨⟨[(.pin 0, .grow true (.int .u32) 39)], [(0, .own 0), (1, .d (.int .i64)), (2, .d (.int .i64)), (3, .d (.int .i64)), (8, .d .bool), (9, .d .bool)]⟩, [(.ret, ⟨[(.pin 0, .grow true (.int .u32) 39)], []⟩)], fun x => slices_pdqsortOrdered_uint32_l0 k x.1 x.2.1 x.2.2.1 x.2.2.2.1 x.2.2.2.2.1 x.2.2.2.2.2⟩
noncomputable def s60 (k : Nat) : Sig := ⟨⟨[(.pin 0, .grow true (.int .u32) 39)], [(0, .own 0), (1, .d (.int .i64)), (2, .d (.int .i64)), (3, .d (.int .i64))]⟩, ⟨[(.pin 0, .grow true (.int .u32) 39)], []⟩, fun x => slices_pdqsortOrdered_uint32 k x.1 x.2.1 x.2.2.1 x.2.2.2⟩
noncomputable def g60 (k : Nat) := mkG 1 134 [(155, s59 k)] [(3, q60_3 k)]
theorem r60_3 (k : Nat) (x) : (q60_3 (k + 1)).F x = rL 1 (q60_3 k) (g60 k) l60_3 x := by kernel_rfl
theorem r60 (k : Nat) (x) : (s60 k).F x = rF Tryz.f112 (s60 k) (g60 k) b60 x := by kernel_rfl
theorem c60 (k : Nat) : CallsOK Tryz.prog gl (g60 k) := callsOK_tab (G := g60 k) (tab := [(155, s59 k)]) (all_cons (k59 k) all_nil)
theorem o60_3 (C : Ctx) (h : Is C Tryz.prog gl 1 Tryz.f112.ntmps) (k : Nat) : LoopOK C (g60 k) l60_3 := mkL h mix_ok (b := l60_3) (hd := (q60_3 0).hd) (ex := (q60_3 0).ex) (F := fun k => (q60_3 k).F) g60 (fun _ => ⟨rfl, by kernel_rfl, rfl⟩) (fun _ => ty_ok _ rfl) c60 (fun k => noLoops (by kernel_rfl)) (fun _ => rfl) r60_3 k (fun S => by kernel_rfl)
theorem k60 (k : Nat) : FnOK Tryz.prog gl 112 (s60 k) := mkF (G := g60 k) (ps := (s60 k).ps) (rs := (s60 k).rs) (F := (s60 k).F) mix_ok Tryz.func112 (c := b60) (by kernel_rfl) (by kernel_rfl) ⟨rfl, by kernel_rfl, rfl⟩ (ty_ok _ rfl) (c60 k) (by kernel_rfl) (by kernel_rfl) (fun C h => loops_all (n := 1) (by kernel_rfl) (lt_allS lt_all0 (o60_3 C h k))) (r60 k)
-- slices_Sort_uint32
noncomputable def b61 := bodyOf Tryz.f61
noncomputable def s61 (k : Nat) : Sig := ⟨⟨[(.pin 0, .grow true (.int .u32) 39)], [(0, .own 0)]⟩, ⟨[(.pin 0, .grow true (.int .u32) 39)], []⟩, fun x => slices_Sort_uint32 k x⟩
noncomputable def g61 (k : Nat) := mkG 1 11 [(113, s56 k), (112, s60 k)] []
theorem r61 (k : Nat) (x) : (s61 k).F x = rF Tryz.f61 (s61 k) (g61 k) b61 x := by kernel_rfl
theorem c61 (k : Nat) : CallsOK Tryz.prog gl (g61 k) := callsOK_tab (G := g61 k) (tab := [(113, s56 k), (112, s60 k)]) (all_cons (k56 k) (all_cons (k60 k) all_nil))
theorem k61 (k : Nat) : FnOK Tryz.prog gl 61 (s61 k) := mkF (G := g61 k) (ps := (s61 k).ps) (rs := (s61 k).rs) (F := (s61 k).F) mix_ok Tryz.func61 (c := b61) (by kernel_rfl) (by kernel_rfl) ⟨rfl, by kernel_rfl, rfl⟩ (ty_ok _ rfl) (c61 k) (by kernel_rfl) (by kernel_rfl) (fun C h => noLoops (by kernel_rfl)) (r61 k)
-- arrays_May
noncomputable def b62 := bodyOf Tryz.f68
noncomputable def l62_3 := subLoop b62 0
noncomputable def q62_3 (k : Nat) : LSig := ⟨⟨[], [(0, .d (.sl (.int .u16))), (3, .d (.int .i64))]⟩, [(.ret, ⟨[], [(2, .d .bool)]⟩), (.exit 0, ⟨[], []⟩)], fun x => arrays_May_l0 k x.1 x.2⟩
noncomputable def s62 (k : Nat) : Sig := ⟨⟨[], [(0, .d (.sl (.int .u16)))]⟩, ⟨[], [(0, .d .bool)]⟩, fun x => arrays_May k x⟩
noncomputable def g62 (k : Nat) := mkG 0 20 [] [(3, q62_3 k)]
theorem r62_3 (k : Nat) (x) : (q62_3 (k + 1)).F x = rL 0 (q62_3 k) (g62 k) l62_3 x := by kernel_rfl
theorem r62 (k : Nat) (x) : (s62 k).F x = rF Tryz.f68 (s62 k) (g62 k) b62 x := by kernel_rfl
theorem o62_3 (C : Ctx) (h : Is C Tryz.prog gl 0 Tryz.f68.ntmps) (k : Nat) : LoopOK C (g62 k) l62_3 := mkL h mix_ok (b := l62_3) (hd := (q62_3 0).hd) (ex := (q62_3 0).ex) (F := fun k => (q62_3 k).F) g62 (fun _ => ⟨rfl, by kernel_rfl, rfl⟩) (fun _ => ty_ok _ rfl) (fun k => callsOK_tab (G := g62 k) (tab := []) all_nil) (fun k => noLoops (by kernel_rfl)) (fun _ => rfl) r62_3 k (fun S => by kernel_rfl)
theorem k62 (k : Nat) : FnOK Tryz.prog gl 68 (s62 k) := mkF (G := g62 k) (ps := (s62 k).ps) (rs := (s62 k).rs) (F := (s62 k).F) mix_ok Tryz.func68 (c := b62) (by kernel_rfl) (by kernel_rfl) ⟨rfl, by kernel_rfl, rfl⟩ (ty_ok _ rfl) (callsOK_tab (G := g62 k) (tab := []) all_nil) (by kernel_rfl) (by kernel_rfl) (fun C h => loops_all (n := 1) (by kernel_rfl) (lt_allS lt_all0 (o62_3 C h k))) (r62 k)
-- container_OfArray
noncomputable def b63 := bodyOf Tryz.f32
noncomputable def s63 (k : Nat) : Sig := ⟨⟨[], [(0, .d (.sl (.int .u16)))]⟩, ⟨[], [(0, .d h0), (1, .d .bool)]⟩, fun x => container_OfArray k x⟩
noncomputable def g63 (k : Nat) := mkG 0 11 [(68, s62 k), (55, s24 k)] []
theorem r63 (k : Nat) (x) : (s63 k).F x = rF Tryz.f32 (s63 k) (g63 k) b63 x := by kernel_rfl
theorem c63 (k : Nat) : CallsOK Tryz.prog gl (g63 k) := callsOK_tab (G := g63 k) (tab := [(68, s62 k), (55, s24 k)]) (all_cons (k62 k) (all_cons (k24 k) all_nil))
theorem k63 (k : Nat) : FnOK Tryz.prog gl 32 (s63 k) := mkF (G := g63 k) (ps := (s63 k).ps) (rs := (s63 k).rs) (F := (s63 k).F) mix_ok Tryz.func32 (c := b63) (by kernel_rfl) (by kernel_rfl) ⟨rfl, by kernel_rfl, rfl⟩ (ty_ok _ rfl) (c63 k) (by kernel_rfl) (by kernel_rfl) (fun C h => noLoops (by kernel_rfl)) (r63 k)
-- roaring_Set_push
noncomputable def b64 := bodyOf Tryz.f62
noncomputable def s64 (k : Nat) : Sig := ⟨⟨[(.pin 0, .cells [.own 1, .own 2]), (.pin 1, .grow true (.int .u16) 72), (.pin 2, .grow true h0 65)], [(0, .ptr 0 0), (1, .d (.int .u16)), (2, .d (.sl (.int .u16)))]⟩, ⟨[(.pin 0, .cells [.own 3, .own 4]), (.pin 1, .gone), (.pin 2, .gone), (.cell 0 0, .grow true (.int .u16) 72), (.cell 0 1, .grow true h0 65)], []⟩, fun x => roaring_Set_push k x.1 x.2.1 x.2.2.1 x.2.2.2⟩
noncomputable def g64 (k : Nat) := mkG 3 34 [(32, s63 k), (74, s31 k)] []
theorem r64 (k : Nat) (x) : (s64 k).F x = rF Tryz.f62 (s64 k) (g64 k) b64 x := by kernel_rfl
theorem c64 (k : Nat) : CallsOK Tryz.prog gl (g64 k) := callsOK_tab (G := g64 k) (tab := [(32, s63 k), (74, s31 k)]) (all_cons (k63 k) (all_cons (k31 k) all_nil))
theorem k64 (k : Nat) : FnOK Tryz.prog gl 62 (s64 k) := mkF (G := g64 k) (ps := (s64 k).ps) (rs := (s64 k).rs) (F := (s64 k).F) mix_ok Tryz.func62 (c := b64) (by kernel_rfl) (by kernel_rfl) ⟨rfl, by kernel_rfl, rfl⟩ (ty_ok _ rfl) (c64 k) (by kernel_rfl) (by kernel_rfl) (fun C h => noLoops (by kernel_rfl)) (r64 k)
-- roaring_Of
noncomputable def b65 := bodyOf Tryz.f25
noncomputable def l65_7 := subLoop b65 0
noncomputable def q65_7 (k : Nat) : LSig := ⟨⟨[(.tmp 0, .grow false (.int .u32) 39), (.tmp 3, .cells [.own 2, .own 3]), (.cell 1 0, .grow false (.int .u16) 72), (.cell 1 1, .grow false h0 65), (.tmp 4, .grow false (.int .u16) 72)], [(0, .own 0), (3, .ptr 1 0), (4, .own 4), (12, .own 0), (13, .d (.int .i64)), (14, .d (.int .i64))]⟩, [(.exit 0, ⟨[(.tmp 0, .grow false (.int .u32) 39), (.tmp 3, .cells [.own 2, .own 3]), (.cell 1 0, .grow false (.int .u16) 72), (.cell 1 1, .grow false h0 65), (.tmp 4, .grow false (.int .u16) 72)], [(0, .own 0), (3, .ptr 1 0), (4, .own 4)]⟩)], fun x => roaring_Of_l0 k x.1 x.2.1 x.2.2.1 x.2.2.2.1 x.2.2.2.2.1 x.2.2.2.2.2⟩
noncomputable def s65 (k : Nat) : Sig := ⟨⟨[], [(0, .d (.sl (.int .u32)))]⟩, ⟨[(.tmp 0, .cells [.own 1, .own 2]), (.cell 0 0, .grow false (.int .u16) 72), (.cell 0 1, .grow false h0 65)], [(0, .ptr 0 0)]⟩, fun x => roaring_Of k x⟩
noncomputable def g65 (k : Nat) := mkG 0 75 [(60, s54 k), (61, s61 k), (11, s0 k), (62, s64 k)] [(7, q65_7 k)]
theorem r65_7 (k : Nat) (x) : (q65_7 (k + 1)).F x = rL 0 (q65_7 k) (g65 k) l65_7 x := by kernel_rfl
theorem r65 (k : Nat) (x) : (s65 k).F x = rF Tryz.f25 (s65 k) (g65 k) b65 x := by kernel_rfl
theorem c65 (k : Nat) : CallsOK Tryz.prog gl (g65 k) := callsOK_tab (G := g65 k) (tab := [(60, s54 k), (61, s61 k), (11, s0 k), (62, s64 k)]) (all_cons (k54 k) (all_cons (k61 k) (all_cons (k0 k) (all_cons (k64 k) all_nil))))
theorem o65_7 (C : Ctx) (h : Is C Tryz.prog gl 0 Tryz.f25.ntmps) (k : Nat) : LoopOK C (g65 k) l65_7 := mkL h mix_ok (b := l65_7) (hd := (q65_7 0).hd) (ex := (q65_7 0).ex) (F := fun k => (q65_7 k).F) g65 (fun _ => ⟨rfl, by kernel_rfl, rfl⟩) (fun _ => ty_ok _ rfl) c65 (fun k => noLoops (by kernel_rfl)) (fun _ => rfl) r65_7 k (fun S => by kernel_rfl)
theorem k65 (k : Nat) : FnOK Tryz.prog gl 25 (s65 k) := mkF (G := g65 k) (ps := (s65 k).ps) (rs := (s65 k).rs) (F := (s65 k).F) mix_ok Tryz.func25 (c := b65) (by kernel_rfl) (by kernel_rfl) ⟨rfl, by kernel_rfl, rfl⟩ (ty_ok _ rfl) (c65 k) (by kernel_rfl) (by kernel_rfl) (fun C h => loops_all (n := 1) (by kernel_rfl) (lt_allS lt_all0 (o65_7 C h k))) (r65 k)
-- roaring_Spans
noncomputable def b66 := bodyOf Tryz.f14
noncomputable def l66_4 := subLoop b66 0
noncomputable def q66_4 (k : Nat) : LSig := ⟨⟨[(.tmp 3, .cells [.own 1, .own 2]), (.cell 0 0, .grow false (.int .u16) 72), (.cell 0 1, .grow false h0 65)], [(3, .ptr 0 0), (7, .d h3), (8, .d (.int .i64)), (9, .d (.int .i64))]⟩, [(.exit 0, ⟨[(.tmp 3, .cells [.own 1, .own 2]), (.cell 0 0, .grow false (.int .u16) 72), (.cell 0 1, .grow false h0 65)], [(3, .ptr 0 0)]⟩)], fun x => roaring_Spans_l0 k x.1 x.2.1 x.2.2.1 x.2.2.2.1 x.2.2.2.2⟩
noncomputable def s66 (k : Nat) : Sig := ⟨⟨[], [(0, .d h3)]⟩, ⟨[(.tmp 0, .cells [.own 1, .own 2]), (.cell 0 0, .grow false (.int .u16) 72), (.cell 0 1, .grow false h0 65)], [(0, .ptr 0 0)]⟩, fun x => roaring_Spans k x⟩
noncomputable def g66 (k : Nat) := mkG 0 21 [(11, s0 k), (12, s51 k)] [(4, q66_4 k)]
theorem r66_4 (k : Nat) (x) : (q66_4 (k + 1)).F x = rL 0 (q66_4 k) (g66 k) l66_4 x := by kernel_rfl
theorem r66 (k : Nat) (x) : (s66 k).F x = rF Tryz.f14 (s66 k) (g66 k) b66 x := by kernel_rfl
theorem c66 (k : Nat) : CallsOK Tryz.prog gl (g66 k) := callsOK_tab (G := g66 k) (tab := [(11, s0 k), (12, s51 k)]) (all_cons (k0 k) (all_cons (k51 k) all_nil))
theorem o66_4 (C : Ctx) (h : Is C Tryz.prog gl 0 Tryz.f14.ntmps) (k : Nat) : LoopOK C (g66 k) l66_4 := mkL h mix_ok (b := l66_4) (hd := (q66_4 0).hd) (ex := (q66_4 0).ex) (F := fun k => (q66_4 k).F) g66 (fun _ => ⟨rfl, by kernel_rfl, rfl⟩) (fun _ => ty_ok _ rfl) c66 (fun k => noLoops (by kernel_rfl)) (fun _ => rfl) r66_4 k (fun S => by kernel_rfl)
theorem k66 (k : Nat) : FnOK Tryz.prog gl 14 (s66 k) := mkF (G := g66 k) (ps := (s66 k).ps) (rs := (s66 k).rs) (F := (s66 k).F) mix_ok Tryz.func14 (c := b66) (by kernel_rfl) (by kernel_rfl) ⟨rfl, by kernel_rfl, rfl⟩ (ty_ok _ rfl) (c66 k) (by kernel_rfl) (by kernel_rfl) (fun C h => loops_all (n := 1) (by kernel_rfl) (lt_allS lt_all0 (o66_4 C h k))) (r66 k)
-- slices_Grow_uint16
noncomputable def b67 := bodyOf Tryz.f148
noncomputable def s67 (k : Nat) : Sig := ⟨⟨[], [(0, .nl), (1, .d (.int .i64))]⟩, ⟨[(.tmp 0, .grow false (.int .u16) 72)], [(0, .own 0)]⟩, fun x => slices_Grow_uint16 k x⟩
noncomputable def g67 (k : Nat) := mkG 0 27 [] []
theorem r67 (k : Nat) (x) : (s67 k).F x = rF Tryz.f148 (s67 k) (g67 k) b67 x := by kernel_rfl
theorem k67 (k : Nat) : FnOK Tryz.prog gl 148 (s67 k) := mkF (G := g67 k) (ps := (s67 k).ps) (rs := (s67 k).rs) (F := (s67 k).F) mix_ok Tryz.func148 (c := b67) (by kernel_rfl) (by kernel_rfl) ⟨rfl, by kernel_rfl, rfl⟩ (ty_ok _ rfl) (callsOK_tab (G := g67 k) (tab := []) all_nil) (by kernel_rfl) (by kernel_rfl) (fun C h => noLoops (by kernel_rfl)) (r67 k)
-- slices_Concat_uint16
noncomputable def b68 := bodyOf Tryz.f104
noncomputable def l68_4 := subLoop b68 0
noncomputable def l68_12 := subLoop b68 1
noncomputable def q68_4 (k : Nat) : LSig := ⟨⟨[], [(0, .d (.sl (.sl (.int .u16)))), (3, .d (.int .i64)), (9, .d (.sl (.sl (.int .u16)))), (10, .d (.int .i64)), (11, .d (.int .i64))]⟩, [(.exit 0, ⟨[], [(0, .d (.sl (.sl (.int .u16)))), (3, .d (.int .i64))]⟩)], fun x => slices_Concat_uint16_l0 k x.1 x.2.1 x.2.2.1 x.2.2.2.1 x.2.2.2.2⟩
noncomputable def q68_12 (k : Nat) : LSig := ⟨⟨[(.tmp 6, .grow false (.int .u16) 72)], [(6, .own 0), (25, .d (.sl (.sl (.int .u16)))), (26, .d (.int .i64)), (27, .d (.int .i64))]⟩, [(.exit 2, ⟨[(.tmp 6, .grow false (.int .u16) 72)], [(6, .own 0)]⟩)], fun x => slices_Concat_uint16_l1 k x.1 x.2.1 x.2.2.1 x.2.2.2⟩
noncomputable def s68 (k : Nat) : Sig := ⟨⟨[], [(0, .d (.sl (.sl (.int .u16))))]⟩, ⟨[(.tmp 0, .grow false (.int .u16) 72)], [(0, .own 0)]⟩, fun x => slices_Concat_uint16 k x⟩
noncomputable def g68 (k : Nat) := mkG 0 36 [(148, s67 k)] [(4, q68_4 k), (12, q68_12 k)]
theorem r68_4 (k : Nat) (x) : (q68_4 (k + 1)).F x = rL 0 (q68_4 k) (g68 k) l68_4 x := by kernel_rfl
theorem r68_12 (k : Nat) (x) : (q68_12 (k + 1)).F x = rL 0 (q68_12 k) (g68 k) l68_12 x := by kernel_rfl
theorem r68 (k : Nat) (x) : (s68 k).F x = rF Tryz.f104 (s68 k) (g68 k) b68 x := by kernel_rfl
theorem c68 (k : Nat) : CallsOK Tryz.prog gl (g68 k) := callsOK_tab (G := g68 k) (tab := [(148, s67 k)]) (all_cons (k67 k) all_nil)
theorem o68_4 (C : Ctx) (h : Is C Tryz.prog gl 0 Tryz.f104.ntmps) (k : Nat) : LoopOK C (g68 k) l68_4 := mkL h mix_ok (b := l68_4) (hd := (q68_4 0).hd) (ex := (q68_4 0).ex) (F := fun k => (q68_4 k).F) g68 (fun _ => ⟨rfl, by kernel_rfl, rfl⟩) (fun _ => ty_ok _ rfl) c68 (fun k => noLoops (by kernel_rfl)) (fun _ => rfl) r68_4 k (fun S => by kernel_rfl)
theorem o68_12 (C : Ctx) (h : Is C Tryz.prog gl 0 Tryz.f104.ntmps) (k : Nat) : LoopOK C (g68 k) l68_12 := mkL h mix_ok (b := l68_12) (hd := (q68_12 0).hd) (ex := (q68_12 0).ex) (F := fun k => (q68_12 k).F) g68 (fun _ => ⟨rfl, by kernel_rfl, rfl⟩) (fun _ => ty_ok _ rfl) c68 (fun k => noLoops (by kernel_rfl)) (fun _ => rfl) r68_12 k (fun S => by kernel_rfl)
theorem k68 (k : Nat) : FnOK Tryz.prog gl 104 (s68 k) := mkF (G := g68 k) (ps := (s68 k).ps) (rs := (s68 k).rs) (F := (s68 k).F) mix_ok Tryz.func104 (c := b68) (by kernel_rfl) (by kernel_rfl) ⟨rfl, by kernel_rfl, rfl⟩ (ty_ok _ rfl) (c68 k) (by kernel_rfl) (by kernel_rfl) (fun C h => loops_all (n := 2) (by kernel_rfl) (lt_allS (lt_allS lt_all0 (o68_4 C h k)) (o68_12 C h k))) (r68 k)
-- slices_insertionSortOrdered_uint16
noncomputable def b69 := bodyOf Tryz.f184
noncomputable def l69_2 := subLoop b69 0
noncomputable def l69_5 := subLoop l69_2 0
noncomputable def q69_5 (k : Nat) : LSig := ⟨⟨[(.pin 0, .grow true (.int .u16) 72)], [(0, .own 0), (1, .d (.int .i64)), (2, .d (.int .i64)), (6, .d (.int .i64)), (7, .d (.int .i64))]⟩, [(.exit 2, ⟨[(.pin 0, .grow true (.int .u16) 72)], [(0, .own 0), (1, .d (.int .i64)), (2, .d (.int .i64)), (6, .d (.int .i64))]⟩)], fun x => slices_insertionSortOrdered_uint16_l1 k x.1 x.2.1 x.2.2.1 x.2.2.2.1 x.2.2.2.2⟩
noncomputable def q69_2 (k : Nat) : LSig := ⟨⟨[(.pin 0, .grow true (.int .u16) 72)], [(0, .own 0), (1, .d (.int .i64)), (2, .d (.int .i64)), (6, .d (.int .i64))]⟩, [(.exit 0, ⟨[(.pin 0, .grow true (.int .u16) 72)], []⟩)], fun x => slices_insertionSortOrdered_uint16_l0 k x.1 x.2.1 x.2.2.1 x.2.2.2⟩
noncomputable def s69 (k : Nat) : Sig := ⟨⟨[(.pin 0, .grow true (.int .u16) 72)], [(0, .own 0), (1, .d (.int .i64)), (2, .d (.int .i64))]⟩, ⟨[(.pin 0, .grow true (.int .u16) 72)], []⟩, fun x => slices_insertionSortOrdered_uint16 k x.1 x.2.1 x.2.2⟩
noncomputable def g69 (k : Nat) := mkG 1 49 [(177, s2 k)] [(5, q69_5 k), (2, q69_2 k)]
theorem r69_5 (k : Nat) (x) : (q69_5 (k + 1)).F x = rL 1 (q69_5 k) (g69 k) l69_5 x := by kernel_rfl
theorem r69_2 (k : Nat) (x) : (q69_2 (k + 1)).F x = rL 1 (q69_2 k) (g69 k) l69_2 x := by kernel_rfl
theorem r69 (k : Nat) (x) : (s69 k).F x = rF Tryz.f184 (s69 k) (g69 k) b69 x := by kernel_rfl
theorem c69 (k : Nat) : CallsOK Tryz.prog gl (g69 k) := callsOK_tab (G := g69 k) (tab := [(177, s2 k)]) (all_cons (k2 k) all_nil)
theorem o69_5 (C : Ctx) (h : Is C Tryz.prog gl 1 Tryz.f184.ntmps) (k : Nat) : LoopOK C (g69 k) l69_5 := mkL h mix_ok (b := l69_5) (hd := (q69_5 0).hd) (ex := (q69_5 0).ex) (F := fun k => (q69_5 k).F) g69 (fun _ => ⟨rfl, by kernel_rfl, rfl⟩) (fun _ => ty_ok _ rfl) c69 (fun k => noLoops (by kernel_rfl)) (fun _ => rfl) r69_5 k (fun S => by kernel_rfl)
theorem o69_2 (C : Ctx) (h : Is C Tryz.prog gl 1 Tryz.f184.ntmps) (k : Nat) : LoopOK C (g69 k) l69_2 := mkL h mix_ok (b := l69_2) (hd := (q69_2 0).hd) (ex := (q69_2 0).ex) (F := fun k => (q69_2 k).F) g69 (fun _ => ⟨rfl, by kernel_rfl, rfl⟩) (fun _ => ty_ok _ rfl) c69 (fun k => loops_all (n := 1) (by kernel_rfl) (lt_allS lt_all0 (o69_5 C h k))) (fun _ => rfl) r69_2 k (fun S => by kernel_rfl)
theorem k69 (k : Nat) : FnOK Tryz.prog gl 184 (s69 k) := mkF (G := g69 k) (ps := (s69 k).ps) (rs := (s69 k).rs) (F := (s69 k).F) mix_ok Tryz.func184 (c := b69) (by kernel_rfl) (by kernel_rfl) ⟨rfl, by kernel_rfl, rfl⟩ (ty_ok _ rfl) (c69 k) (by kernel_rfl) (by kernel_rfl) (fun C h => loops_all (n := 1) (by kernel_rfl) (lt_allS lt_all0 (o69_2 C h k))) (r69 k)
-- slices_pdqsortOrdered_uint16
noncomputable def b70 := bodyOf Tryz.f149
noncomputable def l70_3 := subLoop b70 0
noncomputable def q70_3 (k : Nat) : LSig := ⟨⟨[(.pin 0, .grow true (.int .u16) 72)], [(0, .own 0), (1, .d (.int .i64)), (2, .d (.int .i64)), (3, .d (.int .i64)), (8, .d .bool), (9, .d .bool)]⟩, [(.ret, ⟨[(.pin 0, .grow true (.int .u16) 72)], []⟩)], fun x => slices_pdqsortOrdered_uint16_l0 k x.1 x.2.1 x.2.2.1 x.2.2.2.1 x.2.2.2.2.1 x.2.2.2.2.2⟩
noncomputable def s70 (k : Nat) : Sig := ⟨⟨[(.pin 0, .grow true (.int .u16) 72)], [(0, .own 0), (1, .d (.int .i64)), (2, .d (.int .i64)), (3, .d (.int .i64))]⟩, ⟨[(.pin 0, .grow true (.int .u16) 72)], []⟩, fun x => slices_pdqsortOrdered_uint16 k x.1 x.2.1 x.2.2.1 x.2.2.2⟩
noncomputable def g70 (k : Nat) := mkG 1 134 [(184, s69 k)] [(3, q70_3 k)]
theorem r70_3 (k : Nat) (x) : (q70_3 (k + 1)).F x = rL 1 (q70_3 k) (g70 k) l70_3 x := by kernel_rfl
theorem r70 (k : Nat) (x) : (s70 k).F x = rF Tryz.f149 (s70 k) (g70 k) b70 x := by kernel_rfl
theorem c70 (k : Nat) : CallsOK Tryz.prog gl (g70 k) := callsOK_tab (G := g70 k) (tab := [(184, s69 k)]) (all_cons (k69 k) all_nil)
theorem o70_3 (C : Ctx) (h : Is C Tryz.prog gl 1 Tryz.f149.ntmps) (k : Nat) : LoopOK C (g70 k) l70_3 := mkL h mix_ok (b := l70_3) (hd := (q70_3 0).hd) (ex := (q70_3 0).ex) (F := fun k => (q70_3 k).F) g70 (fun _ => ⟨rfl, by kernel_rfl, rfl⟩) (fun _ => ty_ok _ rfl) c70 (fun k => noLoops (by kernel_rfl)) (fun _ => rfl) r70_3 k (fun S => by kernel_rfl)
theorem k70 (k : Nat) : FnOK Tryz.prog gl 149 (s70 k) := mkF (G := g70 k) (ps := (s70 k).ps) (rs := (s70 k).rs) (F := (s70 k).F) mix_ok Tryz.func149 (c := b70) (by kernel_rfl) (by kernel_rfl) ⟨rfl, by kernel_rfl, rfl⟩ (ty_ok _ rfl) (c70 k) (by kernel_rfl) (by kernel_rfl) (fun C h => loops_all (n := 1) (by kernel_rfl) (lt_allS lt_all0 (o70_3 C h k))) (r70 k)
-- slices_Sort_uint16
noncomputable def b71 := bodyOf Tryz.f105
noncomputable def s71 (k : Nat) : Sig := ⟨⟨[(.pin 0, .grow true (.int .u16) 72)], [(0, .own 0)]⟩, ⟨[(.pin 0, .grow true (.int .u16) 72)], []⟩, fun x => slices_Sort_uint16 k x⟩
noncomputable def g71 (k : Nat) := mkG 1 11 [(113, s56 k), (149, s70 k)] []
theorem r71 (k : Nat) (x) : (s71 k).F x = rF Tryz.f105 (s71 k) (g71 k) b71 x := by kernel_rfl
theorem c71 (k : Nat) : CallsOK Tryz.prog gl (g71 k) := callsOK_tab (G := g71 k) (tab := [(113, s56 k), (149, s70 k)]) (all_cons (k56 k) (all_cons (k70 k) all_nil))
theorem k71 (k : Nat) : FnOK Tryz.prog gl 105 (s71 k) := mkF (G := g71 k) (ps := (s71 k).ps) (rs := (s71 k).rs) (F := (s71 k).F) mix_ok Tryz.func105 (c := b71) (by kernel_rfl) (by kernel_rfl) ⟨rfl, by kernel_rfl, rfl⟩ (ty_ok _ rfl) (c71 k) (by kernel_rfl) (by kernel_rfl) (fun C h => noLoops (by kernel_rfl)) (r71 k)
-- slices_Compact_uint16
noncomputable def b72 := bodyOf Tryz.f106
noncomputable def l72_5 := subLoop b72 0
noncomputable def l72_10 := subLoop l72_5 0
noncomputable def q72_10 (k : Nat) : LSig := ⟨⟨[(.pin 0, .grow true (.int .u16) 72)], [(0, .own 0), (3, .d (.int .i64)), (4, .tl 0 1), (5, .d (.int .i64))]⟩, [(.exit 2, ⟨[(.pin 0, .grow true (.int .u16) 72)], [(0, .own 0), (3, .d (.int .i64))]⟩)], fun x => slices_Compact_uint16_l1 k x.1 x.2.1 x.2.2.1 x.2.2.2⟩
noncomputable def q72_5 (k : Nat) : LSig := ⟨⟨[(.pin 0, .grow true (.int .u16) 72)], [(0, .own 0), (3, .d (.int .i64))]⟩, [(.ret, ⟨[(.pin 0, .gone), (.tmp 2, .grow true (.int .u16) 72)], [(2, .own 1)]⟩), (.exit 0, ⟨[(.pin 0, .grow true (.int .u16) 72)], [(0, .own 0)]⟩)], fun x => slices_Compact_uint16_l0 k x.1 x.2⟩
noncomputable def s72 (k : Nat) : Sig := ⟨⟨[(.pin 0, .grow true (.int .u16) 72)], [(0, .own 0)]⟩, ⟨[(.pin 0, .gone), (.tmp 0, .grow true (.int .u16) 72)], [(0, .own 1)]⟩, fun x => slices_Compact_uint16 k x⟩
noncomputable def g72 (k : Nat) := mkG 1 61 [] [(10, q72_10 k), (5, q72_5 k)]
theorem r72_10 (k : Nat) (x) : (q72_10 (k + 1)).F x = rL 1 (q72_10 k) (g72 k) l72_10 x := by kernel_rfl
theorem r72_5 (k : Nat) (x) : (q72_5 (k + 1)).F x = rL 1 (q72_5 k) (g72 k) l72_5 x := by kernel_rfl
theorem r72 (k : Nat) (x) : (s72 k).F x = rF Tryz.f106 (s72 k) (g72 k) b72 x := by kernel_rfl
theorem o72_10 (C : Ctx) (h : Is C Tryz.prog gl 1 Tryz.f106.ntmps) (k : Nat) : LoopOK C (g72 k) l72_10 := mkL h mix_ok (b := l72_10) (hd := (q72_10 0).hd) (ex := (q72_10 0).ex) (F := fun k => (q72_10 k).F) g72 (fun _ => ⟨rfl, by kernel_rfl, rfl⟩) (fun _ => ty_ok _ rfl) (fun k => callsOK_tab (G := g72 k) (tab := []) all_nil) (fun k => noLoops (by kernel_rfl)) (fun _ => rfl) r72_10 k (fun S => by kernel_rfl)
theorem o72_5 (C : Ctx) (h : Is C Tryz.prog gl 1 Tryz.f106.ntmps) (k : Nat) : LoopOK C (g72 k) l72_5 := mkL h mix_ok (b := l72_5) (hd := (q72_5 0).hd) (ex := (q72_5 0).ex) (F := fun k => (q72_5 k).F) g72 (fun _ => ⟨rfl, by kernel_rfl, rfl⟩) (fun _ => ty_ok _ rfl) (fun k => callsOK_tab (G := g72 k) (tab := []) all_nil) (fun k => loops_all (n := 1) (by kernel_rfl) (lt_allS lt_all0 (o72_10 C h k))) (fun _ => rfl) r72_5 k (fun S => by kernel_rfl)
theorem k72 (k : Nat) : FnOK Tryz.prog gl 106 (s72 k) := mkF (G := g72 k) (ps := (s72 k).ps) (rs := (s72 k).rs) (F := (s72 k).F) mix_ok Tryz.func106 (c := b72) (by kernel_rfl) (by kernel_rfl) ⟨rfl, by kernel_rfl, rfl⟩ (ty_ok _ rfl) (callsOK_tab (G := g72 k) (tab := []) all_nil) (by kernel_rfl) (by kernel_rfl) (fun C h => loops_all (n := 1) (by kernel_rfl) (lt_allS lt_all0 (o72_5 C h k))) (r72 k)
-- slices_BinarySearch_uint16
noncomputable def b73 := bodyOf Tryz.f128
noncomputable def l73_4 := subLoop b73 0
noncomputable def q73_4 (k : Nat) : LSig := ⟨⟨[], [(0, .d (.sl (.int .u16))), (1, .d (.int .u16)), (6, .d (.int .i64)), (7, .d (.int .i64)), (8, .d (.int .i64))]⟩, [(.exit 0, ⟨[], [(0, .d (.sl (.int .u16))), (1, .d (.int .u16)), (6, .d (.int .i64)), (7, .d (.int .i64))]⟩)], fun x => slices_BinarySearch_uint16_l0 k x.1 x.2.1 x.2.2.1 x.2.2.2.1 x.2.2.2.2⟩
noncomputable def s73 (k : Nat) : Sig := ⟨⟨[], [(0, .d (.sl (.int .u16))), (1, .d (.int .u16))]⟩, ⟨[], [(0, .d (.int .i64)), (1, .d .bool)]⟩, fun x => slices_BinarySearch_uint16 k x.1 x.2⟩
noncomputable def g73 (k : Nat) := mkG 0 54 [(177, s2 k), (178, s3 k)] [(4, q73_4 k)]
theorem r73_4 (k : Nat) (x) : (q73_4 (k + 1)).F x = rL 0 (q73_4 k) (g73 k) l73_4 x := by kernel_rfl
theorem r73 (k : Nat) (x) : (s73 k).F x = rF Tryz.f128 (s73 k) (g73 k) b73 x := by kernel_rfl
theorem c73 (k : Nat) : CallsOK Tryz.prog gl (g73 k) := callsOK_tab (G := g73 k) (tab := [(177, s2 k), (178, s3 k)]) (all_cons (k2 k) (all_cons (k3 k) all_nil))
theorem o73_4 (C : Ctx) (h : Is C Tryz.prog gl 0 Tryz.f128.ntmps) (k : Nat) : LoopOK C (g73 k) l73_4 := mkL h mix_ok (b := l73_4) (hd := (q73_4 0).hd) (ex := (q73_4 0).ex) (F := fun k => (q73_4 k).F) g73 (fun _ => ⟨rfl, by kernel_rfl, rfl⟩) (fun _ => ty_ok _ rfl) c73 (fun k => noLoops (by kernel_rfl)) (fun _ => rfl) r73_4 k (fun S => by kernel_rfl)
theorem k73 (k : Nat) : FnOK Tryz.prog gl 128 (s73 k) := mkF (G := g73 k) (ps := (s73 k).ps) (rs := (s73 k).rs) (F := (s73 k).F) mix_ok Tryz.func128 (c := b73) (by kernel_rfl) (by kernel_rfl) ⟨rfl, by kernel_rfl, rfl⟩ (ty_ok _ rfl) (c73 k) (by kernel_rfl) (by kernel_rfl) (fun C h => loops_all (n := 1) (by kernel_rfl) (lt_allS lt_all0 (o73_4 C h k))) (r73 k)
-- arrays_Find
noncomputable def b74 := bodyOf Tryz.f143
noncomputable def s74 (k : Nat) : Sig := ⟨⟨[], [(0, .d (.sl (.int .u16))), (1, .d (.int .u16))]⟩, ⟨[], [(0, .d (.int .i64)), (1, .d .bool)]⟩, fun x => arrays_Find k x.1 x.2⟩
noncomputable def g74 (k : Nat) := mkG 0 11 [(128, s73 k)] []
theorem r74 (k : Nat) (x) : (s74 k).F x = rF Tryz.f143 (s74 k) (g74 k) b74 x := by kernel_rfl
theorem c74 (k : Nat) : CallsOK Tryz.prog gl (g74 k) := callsOK_tab (G := g74 k) (tab := [(128, s73 k)]) (all_cons (k73 k) all_nil)
theorem k74 (k : Nat) : FnOK Tryz.prog gl 143 (s74 k) := mkF (G := g74 k) (ps := (s74 k).ps) (rs := (s74 k).rs) (F := (s74 k).F) mix_ok Tryz.func143 (c := b74) (by kernel_rfl) (by kernel_rfl) ⟨rfl, by kernel_rfl, rfl⟩ (ty_ok _ rfl) (c74 k) (by kernel_rfl) (by kernel_rfl) (fun C h => noLoops (by kernel_rfl)) (r74 k)
-- container_Container_arrayHas
noncomputable def b75 := bodyOf Tryz.f101
noncomputable def s75 (k : Nat) : Sig := ⟨⟨[], [(0, .d h0), (1, .d (.int .u16))]⟩, ⟨[], [(0, .d .bool)]⟩, fun x => container_Container_arrayHas k x.1 x.2⟩
noncomputable def g75 (k : Nat) := mkG 0 15 [(143, s74 k)] []
theorem r75 (k : Nat) (x) : (s75 k).F x = rF Tryz.f101 (s75 k) (g75 k) b75 x := by kernel_rfl
theorem c75 (k : Nat) : CallsOK Tryz.prog gl (g75 k) := callsOK_tab (G := g75 k) (tab := [(143, s74 k)]) (all_cons (k74 k) all_nil)
theorem k75 (k : Nat) : FnOK Tryz.prog gl 101 (s75 k) := mkF (G := g75 k) (ps := (s75 k).ps) (rs := (s75 k).rs) (F := (s75 k).F) mix_ok Tryz.func101 (c := b75) (by kernel_rfl) (by kernel_rfl) ⟨rfl, by kernel_rfl, rfl⟩ (ty_ok _ rfl) (c75 k) (by kernel_rfl) (by kernel_rfl) (fun C h => noLoops (by kernel_rfl)) (r75 k)
-- words_Has
noncomputable def b76 := bodyOf Tryz.f146
noncomputable def s76 (k : Nat) : Sig := ⟨⟨[], [(0, .d (.sl (.int .u64))), (1, .d (.int .u16))]⟩, ⟨[], [(0, .d .bool)]⟩, fun x => words_Has k x.1 x.2⟩
noncomputable def g76 (k : Nat) := mkG 0 23 [] []
theorem r76 (k : Nat) (x) : (s76 k).F x = rF Tryz.f146 (s76 k) (g76 k) b76 x := by kernel_rfl
theorem k76 (k : Nat) : FnOK Tryz.prog gl 146 (s76 k) := mkF (G := g76 k) (ps := (s76 k).ps) (rs := (s76 k).rs) (F := (s76 k).F) mix_ok Tryz.func146 (c := b76) (by kernel_rfl) (by kernel_rfl) ⟨rfl, by kernel_rfl, rfl⟩ (ty_ok _ rfl) (callsOK_tab (G := g76 k) (tab := []) all_nil) (by kernel_rfl) (by kernel_rfl) (fun C h => noLoops (by kernel_rfl)) (r76 k)
-- container_Container_wordsHas
noncomputable def b77 := bodyOf Tryz.f102
noncomputable def s77 (k : Nat) : Sig := ⟨⟨[], [(0, .d h0), (1, .d (.int .u16))]⟩, ⟨[], [(0, .d .bool)]⟩, fun x => container_Container_wordsHas k x.1 x.2⟩
noncomputable def g77 (k : Nat) := mkG 0 9 [(146, s76 k)] []
theorem r77 (k : Nat) (x) : (s77 k).F x = rF Tryz.f102 (s77 k) (g77 k) b77 x := by kernel_rfl
theorem c77 (k : Nat) : CallsOK Tryz.prog gl (g77 k) := callsOK_tab (G := g77 k) (tab := [(146, s76 k)]) (all_cons (k76 k) all_nil)
theorem k77 (k : Nat) : FnOK Tryz.prog gl 102 (s77 k) := mkF (G := g77 k) (ps := (s77 k).ps) (rs := (s77 k).rs) (F := (s77 k).F) mix_ok Tryz.func102 (c := b77) (by kernel_rfl) (by kernel_rfl) ⟨rfl, by kernel_rfl, rfl⟩ (ty_ok _ rfl) (c77 k) (by kernel_rfl) (by kernel_rfl) (fun C h => noLoops (by kernel_rfl)) (r77 k)
-- runs_Has_1
noncomputable def b78 := bodyOf Tryz.f183
noncomputable def s78 (k : Nat) : Sig := ⟨⟨[], [(0, .d (.st (.pair (.int .u16) (.int .u16)))), (1, .d (.int .u16))]⟩, ⟨[], [(0, .d (.int .i64))]⟩, fun x => runs_Has_1 k x.1 x.2⟩
noncomputable def g78 (k : Nat) := mkG 0 11 [] []
theorem r78 (k : Nat) (x) : (s78 k).F x = rF Tryz.f183 (s78 k) (g78 k) b78 x := by kernel_rfl
theorem k78 (k : Nat) : FnOK Tryz.prog gl 183 (s78 k) := mkF (G := g78 k) (ps := (s78 k).ps) (rs := (s78 k).rs) (F := (s78 k).F) mix_ok Tryz.func183 (c := b78) (by kernel_rfl) (by kernel_rfl) ⟨rfl, by kernel_rfl, rfl⟩ (ty_ok _ rfl) (callsOK_tab (G := g78 k) (tab := []) all_nil) (by kernel_rfl) (by kernel_rfl) (fun C h => noLoops (by kernel_rfl)) (r78 k)
-- slices_BinarySearchFunc_uint16_Has_1
noncomputable def b79 := bodyOf Tryz.f182
noncomputable def l79_4 := subLoop b79 0
noncomputable def q79_4 (k : Nat) : LSig := ⟨⟨[], [(0, .d h1), (1, .d (.int .u16)), (2, .fn 183 [] []), (8, .d (.int .i64)), (9, .d (.int .i64)), (10, .d (.int .i64))]⟩, [(.exit 0, ⟨[], [(0, .d h1), (1, .d (.int .u16)), (2, .fn 183 [] []), (8, .d (.int .i64)), (9, .d (.int .i64))]⟩)], fun x => slices_BinarySearchFunc_uint16_Has_1_l0 k x.1 x.2.1 x.2.2.1 x.2.2.2.1 x.2.2.2.2⟩
noncomputable def s79 (k : Nat) : Sig := ⟨⟨[], [(0, .d h1), (1, .d (.int .u16)), (2, .fn 183 [] [])]⟩, ⟨[], [(0, .d (.int .i64)), (1, .d .bool)]⟩, fun x => slices_BinarySearchFunc_uint16_Has_1 k x.1 x.2⟩
noncomputable def g79 (k : Nat) := mkG 0 49 [(183, s78 k)] [(4, q79_4 k)]
theorem r79_4 (k : Nat) (x) : (q79_4 (k + 1)).F x = rL 0 (q79_4 k) (g79 k) l79_4 x := by kernel_rfl
theorem r79 (k : Nat) (x) : (s79 k).F x = rF Tryz.f182 (s79 k) (g79 k) b79 x := by kernel_rfl
theorem c79 (k : Nat) : CallsOK Tryz.prog gl (g79 k) := callsOK_tab (G := g79 k) (tab := [(183, s78 k)]) (all_cons (k78 k) all_nil)
theorem o79_4 (C : Ctx) (h : Is C Tryz.prog gl 0 Tryz.f182.ntmps) (k : Nat) : LoopOK C (g79 k) l79_4 := mkL h mix_ok (b := l79_4) (hd := (q79_4 0).hd) (ex := (q79_4 0).ex) (F := fun k => (q79_4 k).F) g79 (fun _ => ⟨rfl, by kernel_rfl, rfl⟩) (fun _ => ty_ok _ rfl) c79 (fun k => noLoops (by kernel_rfl)) (fun _ => rfl) r79_4 k (fun S => by kernel_rfl)
theorem k79 (k : Nat) : FnOK Tryz.prog gl 182 (s79 k) := mkF (G := g79 k) (ps := (s79 k).ps) (rs := (s79 k).rs) (F := (s79 k).F) mix_ok Tryz.func182 (c := b79) (by kernel_rfl) (by kernel_rfl) ⟨rfl, by kernel_rfl, rfl⟩ (ty_ok _ rfl) (c79 k) (by kernel_rfl) (by kernel_rfl) (fun C h => loops_all (n := 1) (by kernel_rfl) (lt_allS lt_all0 (o79_4 C h k))) (r79 k)
-- runs_Has
noncomputable def b80 := bodyOf Tryz.f147
noncomputable def s80 (k : Nat) : Sig := ⟨⟨[], [(0, .d h1), (1, .d (.int .u16))]⟩, ⟨[], [(0, .d .bool)]⟩, fun x => runs_Has k x.1 x.2⟩
noncomputable def g80 (k : Nat) := mkG 0 29 [(182, s79 k), (125, s22 k)] []
theorem r80 (k : Nat) (x) : (s80 k).F x = rF Tryz.f147 (s80 k) (g80 k) b80 x := by kernel_rfl
theorem c80 (k : Nat) : CallsOK Tryz.prog gl (g80 k) := callsOK_tab (G := g80 k) (tab := [(182, s79 k), (125, s22 k)]) (all_cons (k79 k) (all_cons (k22 k) all_nil))
theorem k80 (k : Nat) : FnOK Tryz.prog gl 147 (s80 k) := mkF (G := g80 k) (ps := (s80 k).ps) (rs := (s80 k).rs) (F := (s80 k).F) mix_ok Tryz.func147 (c := b80) (by kernel_rfl) (by kernel_rfl) ⟨rfl, by kernel_rfl, rfl⟩ (ty_ok _ rfl) (c80 k) (by kernel_rfl) (by kernel_rfl) (fun C h => noLoops (by kernel_rfl)) (r80 k)
-- container_Container_runsHas
noncomputable def b81 := bodyOf Tryz.f103
noncomputable def s81 (k : Nat) : Sig := ⟨⟨[], [(0, .d h0), (1, .d (.int .u16))]⟩, ⟨[], [(0, .d .bool)]⟩, fun x => container_Container_runsHas k x.1 x.2⟩
noncomputable def g81 (k : Nat) := mkG 0 9 [(147, s80 k)] []
theorem r81 (k : Nat) (x) : (s81 k).F x = rF Tryz.f103 (s81 k) (g81 k) b81 x := by kernel_rfl
theorem c81 (k : Nat) : CallsOK Tryz.prog gl (g81 k) := callsOK_tab (G := g81 k) (tab := [(147, s80 k)]) (all_cons (k80 k) all_nil)
theorem k81 (k : Nat) : FnOK Tryz.prog gl 103 (s81 k) := mkF (G := g81 k) (ps := (s81 k).ps) (rs := (s81 k).rs) (F := (s81 k).F) mix_ok Tryz.func103 (c := b81) (by kernel_rfl) (by kernel_rfl) ⟨rfl, by kernel_rfl, rfl⟩ (ty_ok _ rfl) (c81 k) (by kernel_rfl) (by kernel_rfl) (fun C h => noLoops (by kernel_rfl)) (r81 k)
-- container_Container_Has
noncomputable def b82 := bodyOf Tryz.f54
noncomputable def s82 (k : Nat) : Sig := ⟨⟨[], [(0, .d h0), (1, .d (.int .u16))]⟩, ⟨[], [(0, .d .bool)]⟩, fun x => container_Container_Has k x.1 x.2⟩
noncomputable def g82 (k : Nat) := mkG 0 12 [(81, s8 k), (101, s75 k), (102, s77 k), (103, s81 k)] []
theorem r82 (k : Nat) (x) : (s82 k).F x = rF Tryz.f54 (s82 k) (g82 k) b82 x := by kernel_rfl
theorem c82 (k : Nat) : CallsOK Tryz.prog gl (g82 k) := callsOK_tab (G := g82 k) (tab := [(81, s8 k), (101, s75 k), (102, s77 k), (103, s81 k)]) (all_cons (k8 k) (all_cons (k75 k) (all_cons (k77 k) (all_cons (k81 k) all_nil))))
theorem k82 (k : Nat) : FnOK Tryz.prog gl 54 (s82 k) := mkF (G := g82 k) (ps := (s82 k).ps) (rs := (s82 k).rs) (F := (s82 k).F) mix_ok Tryz.func54 (c := b82) (by kernel_rfl) (by kernel_rfl) ⟨rfl, by kernel_rfl, rfl⟩ (ty_ok _ rfl) (c82 k) (by kernel_rfl) (by kernel_rfl) (fun C h => noLoops (by kernel_rfl)) (r82 k)
-- container_Container_AndNot_1
noncomputable def b83 := bodyOf Tryz.f108
noncomputable def s83 (k : Nat) : Sig := ⟨⟨[(.pin 0, .cells [.d (.int .u8), .d (.sl (.int .u16)), .d (.sl (.int .u64)), .d h1])], [(0, .d (.int .u16)), (1, .ptr 0 0)]⟩, ⟨[(.pin 0, .cells [.d (.int .u8), .d (.sl (.int .u16)), .d (.sl (.int .u64)), .d h1])], [(0, .d .bool)]⟩, fun x => container_Container_AndNot_1 k x.1 x.2.1 x.2.2.1 x.2.2.2.1 x.2.2.2.2⟩
noncomputable def g83 (k : Nat) := mkG 1 8 [(54, s82 k)] []
theorem r83 (k : Nat) (x) : (s83 k).F x = rF Tryz.f108 (s83 k) (g83 k) b83 x := by kernel_rfl
theorem c83 (k : Nat) : CallsOK Tryz.prog gl (g83 k) := callsOK_tab (G := g83 k) (tab := [(54, s82 k)]) (all_cons (k82 k) all_nil)
theorem k83 (k : Nat) : FnOK Tryz.prog gl 108 (s83 k) := mkF (G := g83 k) (ps := (s83 k).ps) (rs := (s83 k).rs) (F := (s83 k).F) mix_ok Tryz.func108 (c := b83) (by kernel_rfl) (by kernel_rfl) ⟨rfl, by kernel_rfl, rfl⟩ (ty_ok _ rfl) (c83 k) (by kernel_rfl) (by kernel_rfl) (fun C h => noLoops (by kernel_rfl)) (r83 k)
-- container_sift_1
noncomputable def b84 := bodyOf Tryz.f151
noncomputable def s84 (k : Nat) : Sig := ⟨⟨[(.pin 0, .cells [.fn 108 [] [.ptr 1 0]]), (.pin 1, .cells [.d (.int .u8), .d (.sl (.int .u16)), .d (.sl (.int .u64)), .d h1])], [(0, .d (.int .u16)), (1, .ptr 0 0)]⟩, ⟨[(.pin 0, .cells [.fn 108 [] [.ptr 1 0]]), (.pin 1, .cells [.d (.int .u8), .d (.sl (.int .u16)), .d (.sl (.int .u64)), .d h1])], [(0, .d .bool)]⟩, fun x => container_sift_1 k x.1 x.2.1 x.2.2.1 x.2.2.2.1 x.2.2.2.2⟩
noncomputable def g84 (k : Nat) := mkG 2 8 [(108, s83 k)] []
theorem r84 (k : Nat) (x) : (s84 k).F x = rF Tryz.f151 (s84 k) (g84 k) b84 x := by kernel_rfl
theorem c84 (k : Nat) : CallsOK Tryz.prog gl (g84 k) := callsOK_tab (G := g84 k) (tab := [(108, s83 k)]) (all_cons (k83 k) all_nil)
theorem k84 (k : Nat) : FnOK Tryz.prog gl 151 (s84 k) := mkF (G := g84 k) (ps := (s84 k).ps) (rs := (s84 k).rs) (F := (s84 k).F) mix_ok Tryz.func151 (c := b84) (by kernel_rfl) (by kernel_rfl) ⟨rfl, by kernel_rfl, rfl⟩ (ty_ok _ rfl) (c84 k) (by kernel_rfl) (by kernel_rfl) (fun C h => noLoops (by kernel_rfl)) (r84 k)
-- slices_IndexFunc_uint16_sift_1
noncomputable def b85 := bodyOf Tryz.f192
noncomputable def l85_3 := subLoop b85 0
noncomputable def q85_3 (k : Nat) : LSig := ⟨⟨[(.pin 0, .grow true (.int .u16) 72), (.pin 1, .cells [.fn 108 [] [.ptr 2 0]]), (.pin 2, .cells [.d (.int .u8), .d (.sl (.int .u16)), .d (.sl (.int .u64)), .d h1])], [(0, .own 0), (1, .fn 151 [] [.ptr 1 0]), (7, .d (.int .i64)), (8, .d (.int .i64))]⟩, [(.ret, ⟨[(.pin 0, .grow true (.int .u16) 72), (.pin 1, .cells [.fn 108 [] [.ptr 2 0]]), (.pin 2, .cells [.d (.int .u8), .d (.sl (.int .u16)), .d (.sl (.int .u64)), .d h1])], [(4, .d (.int .i64))]⟩), (.exit 0, ⟨[(.pin 0, .grow true (.int .u16) 72), (.pin 1, .cells [.fn 108 [] [.ptr 2 0]]), (.pin 2, .cells [.d (.int .u8), .d (.sl (.int .u16)), .d (.sl (.int .u64)), .d h1])], []⟩)], fun x => slices_IndexFunc_uint16_sift_1_l0 k x.1 x.2.1 x.2.2.1 x.2.2.2.1 x.2.2.2.2.1 x.2.2.2.2.2.1 x.2.2.2.2.2.2⟩
noncomputable def s85 (k : Nat) : Sig := ⟨⟨[(.pin 0, .grow true (.int .u16) 72), (.pin 1, .cells [.fn 108 [] [.ptr 2 0]]), (.pin 2, .cells [.d (.int .u8), .d (.sl (.int .u16)), .d (.sl (.int .u64)), .d h1])], [(0, .own 0), (1, .fn 151 [] [.ptr 1 0])]⟩, ⟨[(.pin 0, .grow true (.int .u16) 72), (.pin 1, .cells [.fn 108 [] [.ptr 2 0]]), (.pin 2, .cells [.d (.int .u8), .d (.sl (.int .u16)), .d (.sl (.int .u64)), .d h1])], [(0, .d (.int .i64))]⟩, fun x => slices_IndexFunc_uint16_sift_1 k x.1 x.2.1 x.2.2.1 x.2.2.2.1 x.2.2.2.2⟩
noncomputable def g85 (k : Nat) := mkG 3 19 [(151, s84 k)] [(3, q85_3 k)]
theorem r85_3 (k : Nat) (x) : (q85_3 (k + 1)).F x = rL 3 (q85_3 k) (g85 k) l85_3 x := by kernel_rfl
theorem r85 (k : Nat) (x) : (s85 k).F x = rF Tryz.f192 (s85 k) (g85 k) b85 x := by kernel_rfl
theorem c85 (k : Nat) : CallsOK Tryz.prog gl (g85 k) := callsOK_tab (G := g85 k) (tab := [(151, s84 k)]) (all_cons (k84 k) all_nil)
theorem o85_3 (C : Ctx) (h : Is C Tryz.prog gl 3 Tryz.f192.ntmps) (k : Nat) : LoopOK C (g85 k) l85_3 := mkL h mix_ok (b := l85_3) (hd := (q85_3 0).hd) (ex := (q85_3 0).ex) (F := fun k => (q85_3 k).F) g85 (fun _ => ⟨rfl, by kernel_rfl, rfl⟩) (fun _ => ty_ok _ rfl) c85 (fun k => noLoops (by kernel_rfl)) (fun _ => rfl) r85_3 k (fun S => by kernel_rfl)
theorem k85 (k : Nat) : FnOK Tryz.prog gl 192 (s85 k) := mkF (G := g85 k) (ps := (s85 k).ps) (rs := (s85 k).rs) (F := (s85 k).F) mix_ok Tryz.func192 (c := b85) (by kernel_rfl) (by kernel_rfl) ⟨rfl, by kernel_rfl, rfl⟩ (ty_ok _ rfl) (c85 k) (by kernel_rfl) (by kernel_rfl) (fun C h => loops_all (n := 1) (by kernel_rfl) (lt_allS lt_all0 (o85_3 C h k))) (r85 k)
-- slices_DeleteFunc_uint16_sift_1
noncomputable def b86 := bodyOf Tryz.f150
noncomputable def l86_6 := subLoop b86 0
noncomputable def q86_6 (k : Nat) : LSig := ⟨⟨[(.pin 0, .grow true (.int .u16) 72), (.pin 1, .cells [.fn 108 [] [.ptr 2 0]]), (.pin 2, .cells [.d (.int .u8), .d (.sl (.int .u16)), .d (.sl (.int .u64)), .d h1])], [(0, .own 0), (1, .fn 151 [] [.ptr 1 0]), (5, .d (.int .i64)), (6, .d (.int .i64))]⟩, [(.exit 0, ⟨[(.pin 0, .grow true (.int .u16) 72), (.pin 1, .cells [.fn 108 [] [.ptr 2 0]]), (.pin 2, .cells [.d (.int .u8), .d (.sl (.int .u16)), .d (.sl (.int .u64)), .d h1])], [(0, .own 0), (5, .d (.int .i64))]⟩)], fun x => slices_DeleteFunc_uint16_sift_1_l0 k x.1 x.2.1 x.2.2.1 x.2.2.2.1 x.2.2.2.2.1 x.2.2.2.2.2.1 x.2.2.2.2.2.2⟩
noncomputable def s86 (k : Nat) : Sig := ⟨⟨[(.pin 0, .grow true (.int .u16) 72), (.pin 1, .cells [.fn 108 [] [.ptr 2 0]]), (.pin 2, .cells [.d (.int .u8), .d (.sl (.int .u16)), .d (.sl (.int .u64)), .d h1])], [(0, .own 0), (1, .fn 151 [] [.ptr 1 0])]⟩, ⟨[(.pin 0, .gone), (.pin 1, .cells [.fn 108 [] [.ptr 2 0]]), (.pin 2, .cells [.d (.int .u8), .d (.sl (.int .u16)), .d (.sl (.int .u64)), .d h1]), (.tmp 0, .grow true (.int .u16) 72)], [(0, .own 3)]⟩, fun x => slices_DeleteFunc_uint16_sift_1 k x.1 x.2.1 x.2.2.1 x.2.2.2.1 x.2.2.2.2⟩
noncomputable def g86 (k : Nat) := mkG 3 42 [(192, s85 k), (151, s84 k)] [(6, q86_6 k)]
theorem r86_6 (k : Nat) (x) : (q86_6 (k + 1)).F x = rL 3 (q86_6 k) (g86 k) l86_6 x := by kernel_rfl
theorem r86 (k : Nat) (x) : (s86 k).F x = rF Tryz.f150 (s86 k) (g86 k) b86 x := by kernel_rfl
theorem c86 (k : Nat) : CallsOK Tryz.prog gl (g86 k) := callsOK_tab (G := g86 k) (tab := [(192, s85 k), (151, s84 k)]) (all_cons (k85 k) (all_cons (k84 k) all_nil))
theorem o86_6 (C : Ctx) (h : Is C Tryz.prog gl 3 Tryz.f150.ntmps) (k : Nat) : LoopOK C (g86 k) l86_6 := mkL h mix_ok (b := l86_6) (hd := (q86_6 0).hd) (ex := (q86_6 0).ex) (F := fun k => (q86_6 k).F) g86 (fun _ => ⟨rfl, by kernel_rfl, rfl⟩) (fun _ => ty_ok _ rfl) c86 (fun k => noLoops (by kernel_rfl)) (fun _ => rfl) r86_6 k (fun S => by kernel_rfl)
theorem k86 (k : Nat) : FnOK Tryz.prog gl 150 (s86 k) := mkF (G := g86 k) (ps := (s86 k).ps) (rs := (s86 k).rs) (F := (s86 k).F) mix_ok Tryz.func150 (c := b86) (by kernel_rfl) (by kernel_rfl) ⟨rfl, by kernel_rfl, rfl⟩ (ty_ok _ rfl) (c86 k) (by kernel_rfl) (by kernel_rfl) (fun C h => loops_all (n := 1) (by kernel_rfl) (lt_allS lt_all0 (o86_6 C h k))) (r86 k)
-- container_sift_Container_AndNot_1
noncomputable def b87 := bodyOf Tryz.f107
noncomputable def s87 (k : Nat) : Sig := ⟨⟨[(.pin 0, .cells [.d (.int .u8), .d (.sl (.int .u16)), .d (.sl (.int .u64)), .d h1])], [(0, .d (.sl (.int .u16))), (1, .fn 108 [] [.ptr 0 0])]⟩, ⟨[(.pin 0, .cells [.d (.int .u8), .d (.sl (.int .u16)), .d (.sl (.int .u64)), .d h1])], [(0, .d h0)]⟩, fun x => container_sift_Container_AndNot_1 k x.1 x.2.1 x.2.2.1 x.2.2.2.1 x.2.2.2.2⟩
noncomputable def g87 (k : Nat) := mkG 1 11 [(55, s24 k), (150, s86 k), (74, s31 k)] []
theorem r87 (k : Nat) (x) : (s87 k).F x = rF Tryz.f107 (s87 k) (g87 k) b87 x := by kernel_rfl
theorem c87 (k : Nat) : CallsOK Tryz.prog gl (g87 k) := callsOK_tab (G := g87 k) (tab := [(55, s24 k), (150, s86 k), (74, s31 k)]) (all_cons (k24 k) (all_cons (k86 k) (all_cons (k31 k) all_nil)))
theorem k87 (k : Nat) : FnOK Tryz.prog gl 107 (s87 k) := mkF (G := g87 k) (ps := (s87 k).ps) (rs := (s87 k).rs) (F := (s87 k).F) mix_ok Tryz.func107 (c := b87) (by kernel_rfl) (by kernel_rfl) ⟨rfl, by kernel_rfl, rfl⟩ (ty_ok _ rfl) (c87 k) (by kernel_rfl) (by kernel_rfl) (fun C h => noLoops (by kernel_rfl)) (r87 k)
-- arrays_AndNot_1
noncomputable def b88 := bodyOf Tryz.f152
noncomputable def s88 (k : Nat) : Sig := ⟨⟨[], [(0, .d .bool), (1, .d .bool)]⟩, ⟨[], [(0, .d .bool)]⟩, fun x => arrays_AndNot_1 k x.1 x.2⟩
noncomputable def g88 (k : Nat) := mkG 0 7 [] []
theorem r88 (k : Nat) (x) : (s88 k).F x = rF Tryz.f152 (s88 k) (g88 k) b88 x := by kernel_rfl
theorem k88 (k : Nat) : FnOK Tryz.prog gl 152 (s88 k) := mkF (G := g88 k) (ps := (s88 k).ps) (rs := (s88 k).rs) (F := (s88 k).F) mix_ok Tryz.func152 (c := b88) (by kernel_rfl) (by kernel_rfl) ⟨rfl, by kernel_rfl, rfl⟩ (ty_ok _ rfl) (callsOK_tab (G := g88 k) (tab := []) all_nil) (by kernel_rfl) (by kernel_rfl) (fun C h => noLoops (by kernel_rfl)) (r88 k)
-- arrays_merge_AndNot_1
noncomputable def b89 := bodyOf Tryz.f133
noncomputable def l89_3 := subLoop b89 0
noncomputable def q89_3 (k : Nat) : LSig := ⟨⟨[(.tmp 7, .grow false (.int .u16) 72)], [(0, .d (.sl (.int .u16))), (1, .d (.sl (.int .u16))), (2, .fn 152 [] []), (7, .own 0)]⟩, [(.exit 0, ⟨[(.tmp 7, .grow false (.int .u16) 72)], [(7, .own 0)]⟩)], fun x => arrays_merge_AndNot_1_l0 k x.1 x.2.1 x.2.2⟩
noncomputable def s89 (k : Nat) : Sig := ⟨⟨[], [(0, .d (.sl (.int .u16))), (1, .d (.sl (.int .u16))), (2, .fn 152 [] [])]⟩, ⟨[], [(0, .d (.sl (.int .u16)))]⟩, fun x => arrays_merge_AndNot_1 k x.1 x.2⟩
noncomputable def g89 (k : Nat) := mkG 0 74 [(152, s88 k)] [(3, q89_3 k)]
theorem r89_3 (k : Nat) (x) : (q89_3 (k + 1)).F x = rL 0 (q89_3 k) (g89 k) l89_3 x := by kernel_rfl
theorem r89 (k : Nat) (x) : (s89 k).F x = rF Tryz.f133 (s89 k) (g89 k) b89 x := by kernel_rfl
theorem c89 (k : Nat) : CallsOK Tryz.prog gl (g89 k) := callsOK_tab (G := g89 k) (tab := [(152, s88 k)]) (all_cons (k88 k) all_nil)
theorem o89_3 (C : Ctx) (h : Is C Tryz.prog gl 0 Tryz.f133.ntmps) (k : Nat) : LoopOK C (g89 k) l89_3 := mkL h mix_ok (b := l89_3) (hd := (q89_3 0).hd) (ex := (q89_3 0).ex) (F := fun k => (q89_3 k).F) g89 (fun _ => ⟨rfl, by kernel_rfl, rfl⟩) (fun _ => ty_ok _ rfl) c89 (fun k => noLoops (by kernel_rfl)) (fun _ => rfl) r89_3 k (fun S => by kernel_rfl)
theorem k89 (k : Nat) : FnOK Tryz.prog gl 133 (s89 k) := mkF (G := g89 k) (ps := (s89 k).ps) (rs := (s89 k).rs) (F := (s89 k).F) mix_ok Tryz.func133 (c := b89) (by kernel_rfl) (by kernel_rfl) ⟨rfl, by kernel_rfl, rfl⟩ (ty_ok _ rfl) (c89 k) (by kernel_rfl) (by kernel_rfl) (fun C h => loops_all (n := 1) (by kernel_rfl) (lt_allS lt_all0 (o89_3 C h k))) (r89 k)
-- arrays_AndNot
noncomputable def b90 := bodyOf Tryz.f109
noncomputable def s90 (k : Nat) : Sig := ⟨⟨[], [(0, .d (.sl (.int .u16))), (1, .d (.sl (.int .u16)))]⟩, ⟨[], [(0, .d (.sl (.int .u16)))]⟩, fun x => arrays_AndNot k x.1 x.2⟩
noncomputable def g90 (k : Nat) := mkG 0 8 [(133, s89 k)] []
theorem r90 (k : Nat) (x) : (s90 k).F x = rF Tryz.f109 (s90 k) (g90 k) b90 x := by kernel_rfl
theorem c90 (k : Nat) : CallsOK Tryz.prog gl (g90 k) := callsOK_tab (G := g90 k) (tab := [(133, s89 k)]) (all_cons (k89 k) all_nil)
theorem k90 (k : Nat) : FnOK Tryz.prog gl 109 (s90 k) := mkF (G := g90 k) (ps := (s90 k).ps) (rs := (s90 k).rs) (F := (s90 k).F) mix_ok Tryz.func109 (c := b90) (by kernel_rfl) (by kernel_rfl) ⟨rfl, by kernel_rfl, rfl⟩ (ty_ok _ rfl) (c90 k) (by kernel_rfl) (by kernel_rfl) (fun C h => noLoops (by kernel_rfl)) (r90 k)
-- runs_AndNot_1
noncomputable def b91 := bodyOf Tryz.f154
noncomputable def s91 (k : Nat) : Sig := ⟨⟨[], [(0, .d .bool), (1, .d .bool)]⟩, ⟨[], [(0, .d .bool)]⟩, fun x => runs_AndNot_1 k x.1 x.2⟩
noncomputable def g91 (k : Nat) := mkG 0 10 [] []
theorem r91 (k : Nat) (x) : (s91 k).F x = rF Tryz.f154 (s91 k) (g91 k) b91 x := by kernel_rfl
theorem k91 (k : Nat) : FnOK Tryz.prog gl 154 (s91 k) := mkF (G := g91 k) (ps := (s91 k).ps) (rs := (s91 k).rs) (F := (s91 k).F) mix_ok Tryz.func154 (c := b91) (by kernel_rfl) (by kernel_rfl) ⟨rfl, by kernel_rfl, rfl⟩ (ty_ok _ rfl) (callsOK_tab (G := g91 k) (tab := []) all_nil) (by kernel_rfl) (by kernel_rfl) (fun C h => noLoops (by kernel_rfl)) (r91 k)
-- runs_edges_AndNot_1
noncomputable def b92 := bodyOf Tryz.f137
noncomputable def l92_5 := subLoop b92 0
noncomputable def l92_11 := subLoop l92_5 0
noncomputable def l92_13 := subLoop l92_5 1
noncomputable def q92_11 (k : Nat) : LSig := ⟨⟨[(.tmp 7, .grow false (.st (.pair (.int .u16) (.int .u16))) 96)], [(0, .d (.sl (.int .i64))), (1, .d (.sl (.int .i64))), (2, .fn 154 [] []), (7, .own 0), (8, .d .bool), (9, .d (.int .i64)), (10, .d (.int .i64)), (11, .d (.int .i64)), (12, .d (.int .i64))]⟩, [(.exit 2, ⟨[(.tmp 7, .grow false (.st (.pair (.int .u16) (.int .u16))) 96)], [(0, .d (.sl (.int .i64))), (1, .d (.sl (.int .i64))), (2, .fn 154 [] []), (7, .own 0), (8, .d .bool), (9, .d (.int .i64)), (10, .d (.int .i64)), (11, .d (.int .i64)), (12, .d (.int .i64))]⟩)], fun x => runs_edges_AndNot_1_l1 k x.1 x.2.1 x.2.2.1 x.2.2.2.1 x.2.2.2.2.1 x.2.2.2.2.2.1 x.2.2.2.2.2.2.1 x.2.2.2.2.2.2.2⟩
noncomputable def q92_13 (k : Nat) : LSig := ⟨⟨[(.tmp 7, .grow false (.st (.pair (.int .u16) (.int .u16))) 96)], [(0, .d (.sl (.int .i64))), (1, .d (.sl (.int .i64))), (2, .fn 154 [] []), (7, .own 0), (8, .d .bool), (9, .d (.int .i64)), (10, .d (.int .i64)), (11, .d (.int .i64)), (12, .d (.int .i64))]⟩, [(.exit 4, ⟨[(.tmp 7, .grow false (.st (.pair (.int .u16) (.int .u16))) 96)], [(0, .d (.sl (.int .i64))), (1, .d (.sl (.int .i64))), (2, .fn 154 [] []), (7, .own 0), (8, .d .bool), (9, .d (.int .i64)), (10, .d (.int .i64)), (11, .d (.int .i64)), (12, .d (.int .i64))]⟩)], fun x => runs_edges_AndNot_1_l2 k x.1 x.2.1 x.2.2.1 x.2.2.2.1 x.2.2.2.2.1 x.2.2.2.2.2.1 x.2.2.2.2.2.2.1 x.2.2.2.2.2.2.2⟩
noncomputable def q92_5 (k : Nat) : LSig := ⟨⟨[(.tmp 7, .grow false (.st (.pair (.int .u16) (.int .u16))) 96)], [(0, .d (.sl (.int .i64))), (1, .d (.sl (.int .i64))), (2, .fn 154 [] []), (7, .own 0), (8, .d .bool), (9, .d (.int .i64)), (10, .d (.int .i64)), (11, .d (.int .i64))]⟩, [(.exit 0, ⟨[(.tmp 7, .grow false (.st (.pair (.int .u16) (.int .u16))) 96)], [(7, .own 0)]⟩)], fun x => runs_edges_AndNot_1_l0 k x.1 x.2.1 x.2.2.1 x.2.2.2.1 x.2.2.2.2.1 x.2.2.2.2.2.1 x.2.2.2.2.2.2⟩
noncomputable def s92 (k : Nat) : Sig := ⟨⟨[], [(0, .d (.sl (.int .i64))), (1, .d (.sl (.int .i64))), (2, .fn 154 [] [])]⟩, ⟨[], [(0, .d h1)]⟩, fun x => runs_edges_AndNot_1 k x.1 x.2⟩
noncomputable def g92 (k : Nat) := mkG 0 96 [(154, s91 k)] [(11, q92_11 k), (13, q92_13 k), (5, q92_5 k)]
theorem r92_11 (k : Nat) (x) : (q92_11 (k + 1)).F x = rL 0 (q92_11 k) (g92 k) l92_11 x := by kernel_rfl
theorem r92_13 (k : Nat) (x) : (q92_13 (k + 1)).F x = rL 0 (q92_13 k) (g92 k) l92_13 x := by kernel_rfl
theorem r92_5 (k : Nat) (x) : (q92_5 (k + 1)).F x = rL 0 (q92_5 k) (g92 k) l92_5 x := by kernel_rfl
theorem r92 (k : Nat) (x) : (s92 k).F x = rF Tryz.f137 (s92 k) (g92 k) b92 x := by kernel_rfl
theorem c92 (k : Nat) : CallsOK Tryz.prog gl (g92 k) := callsOK_tab (G := g92 k) (tab := [(154, s91 k)]) (all_cons (k91 k) all_nil)
theorem o92_11 (C : Ctx) (h : Is C Tryz.prog gl 0 Tryz.f137.ntmps) (k : Nat) : LoopOK C (g92 k) l92_11 := mkL h mix_ok (b := l92_11) (hd := (q92_11 0).hd) (ex := (q92_11 0).ex) (F := fun k => (q92_11 k).F) g92 (fun _ => ⟨rfl, by kernel_rfl, rfl⟩) (fun _ => ty_ok _ rfl) c92 (fun k => noLoops (by kernel_rfl)) (fun _ => rfl) r92_11 k (fun S => by kernel_rfl)
theorem o92_13 (C : Ctx) (h : Is C Tryz.prog gl 0 Tryz.f137.ntmps) (k : Nat) : LoopOK C (g92 k) l92_13 := mkL h mix_ok (b := l92_13) (hd := (q92_13 0).hd) (ex := (q92_13 0).ex) (F := fun k => (q92_13 k).F) g92 (fun _ => ⟨rfl, by kernel_rfl, rfl⟩) (fun _ => ty_ok _ rfl) c92 (fun k => noLoops (by kernel_rfl)) (fun _ => rfl) r92_13 k (fun S => by kernel_rfl)
theorem o92_5 (C : Ctx) (h : Is C Tryz.prog gl 0 Tryz.f137.ntmps) (k : Nat) : LoopOK C (g92 k) l92_5 := mkL h mix_ok (b := l92_5) (hd := (q92_5 0).hd) (ex := (q92_5 0).ex) (F := fun k => (q92_5 k).F) g92 (fun _ => ⟨rfl, by kernel_rfl, rfl⟩) (fun _ => ty_ok _ rfl) c92 (fun k => loops_all (n := 2) (by kernel_rfl) (lt_allS (lt_allS lt_all0 (o92_11 C h k)) (o92_13 C h k))) (fun _ => rfl) r92_5 k (fun S => by kernel_rfl)
theorem k92 (k : Nat) : FnOK Tryz.prog gl 137 (s92 k) := mkF (G := g92 k) (ps := (s92 k).ps) (rs := (s92 k).rs) (F := (s92 k).F) mix_ok Tryz.func137 (c := b92) (by kernel_rfl) (by kernel_rfl) ⟨rfl, by kernel_rfl, rfl⟩ (ty_ok _ rfl) (c92 k) (by kernel_rfl) (by kernel_rfl) (fun C h => loops_all (n := 1) (by kernel_rfl) (lt_allS lt_all0 (o92_5 C h k))) (r92 k)
-- runs_AndNot
noncomputable def b93 := bodyOf Tryz.f111
noncomputable def s93 (k : Nat) : Sig := ⟨⟨[], [(0, .d h1), (1, .d h1)]⟩, ⟨[], [(0, .d h1)]⟩, fun x => runs_AndNot k x.1 x.2⟩
noncomputable def g93 (k : Nat) := mkG 0 10 [(138, s32 k), (137, s92 k)] []
theorem r93 (k : Nat) (x) : (s93 k).F x = rF Tryz.f111 (s93 k) (g93 k) b93 x := by kernel_rfl
theorem c93 (k : Nat) : CallsOK Tryz.prog gl (g93 k) := callsOK_tab (G := g93 k) (tab := [(138, s32 k), (137, s92 k)]) (all_cons (k32 k) (all_cons (k92 k) all_nil))
theorem k93 (k : Nat) : FnOK Tryz.prog gl 111 (s93 k) := mkF (G := g93 k) (ps := (s93 k).ps) (rs := (s93 k).rs) (F := (s93 k).F) mix_ok Tryz.func111 (c := b93) (by kernel_rfl) (by kernel_rfl) ⟨rfl, by kernel_rfl, rfl⟩ (ty_ok _ rfl) (c93 k) (by kernel_rfl) (by kernel_rfl) (fun C h => noLoops (by kernel_rfl)) (r93 k)
-- words_AndNot_1
noncomputable def b94 := bodyOf Tryz.f153
noncomputable def s94 (k : Nat) : Sig := ⟨⟨[], [(0, .d (.int .u64)), (1, .d (.int .u64))]⟩, ⟨[], [(0, .d (.int .u64))]⟩, fun x => words_AndNot_1 k x.1 x.2⟩
noncomputable def g94 (k : Nat) := mkG 0 8 [] []
theorem r94 (k : Nat) (x) : (s94 k).F x = rF Tryz.f153 (s94 k) (g94 k) b94 x := by kernel_rfl
theorem k94 (k : Nat) : FnOK Tryz.prog gl 153 (s94 k) := mkF (G := g94 k) (ps := (s94 k).ps) (rs := (s94 k).rs) (F := (s94 k).F) mix_ok Tryz.func153 (c := b94) (by kernel_rfl) (by kernel_rfl) ⟨rfl, by kernel_rfl, rfl⟩ (ty_ok _ rfl) (callsOK_tab (G := g94 k) (tab := []) all_nil) (by kernel_rfl) (by kernel_rfl) (fun C h => noLoops (by kernel_rfl)) (r94 k)
-- words_each_AndNot_1
noncomputable def b95 := bodyOf Tryz.f135
noncomputable def l95_4 := subLoop b95 0
noncomputable def q95_4 (k : Nat) : LSig := ⟨⟨[(.tmp 7, .grow false (.int .u64) 22)], [(0, .d (.sl (.int .u64))), (1, .d (.sl (.int .u64))), (2, .fn 153 [] []), (7, .own 0), (14, .d (.int .i64)), (15, .d (.int .i64))]⟩, [(.exit 0, ⟨[(.tmp 7, .grow false (.int .u64) 22)], [(7, .own 0)]⟩)], fun x => words_each_AndNot_1_l0 k x.1 x.2.1 x.2.2.1 x.2.2.2.1 x.2.2.2.2⟩
noncomputable def s95 (k : Nat) : Sig := ⟨⟨[], [(0, .d (.sl (.int .u64))), (1, .d (.sl (.int .u64))), (2, .fn 153 [] [])]⟩, ⟨[], [(0, .d (.sl (.int .u64)))]⟩, fun x => words_each_AndNot_1 k x.1 x.2⟩
noncomputable def g95 (k : Nat) := mkG 0 33 [(153, s94 k)] [(4, q95_4 k)]
theorem r95_4 (k : Nat) (x) : (q95_4 (k + 1)).F x = rL 0 (q95_4 k) (g95 k) l95_4 x := by kernel_rfl
theorem r95 (k : Nat) (x) : (s95 k).F x = rF Tryz.f135 (s95 k) (g95 k) b95 x := by kernel_rfl
theorem c95 (k : Nat) : CallsOK Tryz.prog gl (g95 k) := callsOK_tab (G := g95 k) (tab := [(153, s94 k)]) (all_cons (k94 k) all_nil)
theorem o95_4 (C : Ctx) (h : Is C Tryz.prog gl 0 Tryz.f135.ntmps) (k : Nat) : LoopOK C (g95 k) l95_4 := mkL h mix_ok (b := l95_4) (hd := (q95_4 0).hd) (ex := (q95_4 0).ex) (F := fun k => (q95_4 k).F) g95 (fun _ => ⟨rfl, by kernel_rfl, rfl⟩) (fun _ => ty_ok _ rfl) c95 (fun k => noLoops (by kernel_rfl)) (fun _ => rfl) r95_4 k (fun S => by kernel_rfl)
theorem k95 (k : Nat) : FnOK Tryz.prog gl 135 (s95 k) := mkF (G := g95 k) (ps := (s95 k).ps) (rs := (s95 k).rs) (F := (s95 k).F) mix_ok Tryz.func135 (c := b95) (by kernel_rfl) (by kernel_rfl) ⟨rfl, by kernel_rfl, rfl⟩ (ty_ok _ rfl) (c95 k) (by kernel_rfl) (by kernel_rfl) (fun C h => loops_all (n := 1) (by kernel_rfl) (lt_allS lt_all0 (o95_4 C h k))) (r95 k)
-- words_AndNot
noncomputable def b96 := bodyOf Tryz.f110
noncomputable def s96 (k : Nat) : Sig := ⟨⟨[], [(0, .d (.sl (.int .u64))), (1, .d (.sl (.int .u64)))]⟩, ⟨[], [(0, .d (.sl (.int .u64)))]⟩, fun x => words_AndNot k x.1 x.2⟩
noncomputable def g96 (k : Nat) := mkG 0 8 [(135, s95 k)] []
theorem r96 (k : Nat) (x) : (s96 k).F x = rF Tryz.f110 (s96 k) (g96 k) b96 x := by kernel_rfl
theorem c96 (k : Nat) : CallsOK Tryz.prog gl (g96 k) := callsOK_tab (G := g96 k) (tab := [(135, s95 k)]) (all_cons (k95 k) all_nil)
theorem k96 (k : Nat) : FnOK Tryz.prog gl 110 (s96 k) := mkF (G := g96 k) (ps := (s96 k).ps) (rs := (s96 k).rs) (F := (s96 k).F) mix_ok Tryz.func110 (c := b96) (by kernel_rfl) (by kernel_rfl) ⟨rfl, by kernel_rfl, rfl⟩ (ty_ok _ rfl) (c96 k) (by kernel_rfl) (by kernel_rfl) (fun C h => noLoops (by kernel_rfl)) (r96 k)
-- container_pair_do_o
noncomputable def b97 := bodyOf Tryz.f92
noncomputable def s97 (k : Nat) : Sig := ⟨⟨[], [(0, .agg [.fn 109 [] [], .fn 110 [] [], .fn 111 [] []]), (1, .d h0), (2, .d h0)]⟩, ⟨[], [(0, .d h0)]⟩, fun x => container_pair_do_o k x.1 x.2⟩
noncomputable def g97 (k : Nat) := mkG 0 52 [(81, s8 k), (109, s90 k), (74, s31 k), (111, s93 k), (34, s30 k), (110, s96 k)] []
theorem r97 (k : Nat) (x) : (s97 k).F x = rF Tryz.f92 (s97 k) (g97 k) b97 x := by kernel_rfl
theorem c97 (k : Nat) : CallsOK Tryz.prog gl (g97 k) := callsOK_tab (G := g97 k) (tab := [(81, s8 k), (109, s90 k), (74, s31 k), (111, s93 k), (34, s30 k), (110, s96 k)]) (all_cons (k8 k) (all_cons (k90 k) (all_cons (k31 k) (all_cons (k93 k) (all_cons (k30 k) (all_cons (k96 k) all_nil))))))
theorem k97 (k : Nat) : FnOK Tryz.prog gl 92 (s97 k) := mkF (G := g97 k) (ps := (s97 k).ps) (rs := (s97 k).rs) (F := (s97 k).F) mix_ok Tryz.func92 (c := b97) (by kernel_rfl) (by kernel_rfl) ⟨rfl, by kernel_rfl, rfl⟩ (ty_ok _ rfl) (c97 k) (by kernel_rfl) (by kernel_rfl) (fun C h => noLoops (by kernel_rfl)) (r97 k)
-- container_Container_AndNot
noncomputable def b98 := bodyOf Tryz.f59
noncomputable def s98 (k : Nat) : Sig := ⟨⟨[], [(0, .d h0), (1, .d h0)]⟩, ⟨[], [(0, .d h0)]⟩, fun x => container_Container_AndNot k x.1 x.2⟩
noncomputable def g98 (k : Nat) := mkG 0 16 [(81, s8 k), (107, s87 k), (92, s97 k)] []
theorem r98 (k : Nat) (x) : (s98 k).F x = rF Tryz.f59 (s98 k) (g98 k) b98 x := by kernel_rfl
theorem c98 (k : Nat) : CallsOK Tryz.prog gl (g98 k) := callsOK_tab (G := g98 k) (tab := [(81, s8 k), (107, s87 k), (92, s97 k)]) (all_cons (k8 k) (all_cons (k87 k) (all_cons (k97 k) all_nil)))
theorem k98 (k : Nat) : FnOK Tryz.prog gl 59 (s98 k) := mkF (G := g98 k) (ps := (s98 k).ps) (rs := (s98 k).rs) (F := (s98 k).F) mix_ok Tryz.func59 (c := b98) (by kernel_rfl) (by kernel_rfl) ⟨rfl, by kernel_rfl, rfl⟩ (ty_ok _ rfl) (c98 k) (by kernel_rfl) (by kernel_rfl) (fun C h => noLoops (by kernel_rfl)) (r98 k)
-- roaring_each_Container_AndNot
noncomputable def b99 := bodyOf Tryz.f58
noncomputable def l99_6 := subLoop b99 0
noncomputable def q99_6 (k : Nat) : LSig := ⟨⟨[(.pin 0, .cells [.own 1, .own 2]), (.pin 1, .grow true (.int .u16) 72), (.pin 2, .grow true h0 65), (.pin 3, .cells [.own 4, .own 5]), (.pin 4, .grow true (.int .u16) 72), (.pin 5, .grow true h0 65), (.tmp 7, .cells [.own 7, .own 8]), (.cell 6 0, .grow false (.int .u16) 72), (.cell 6 1, .grow false h0 65), (.tmp 22, .grow false (.int .u16) 72)], [(0, .ptr 0 0), (1, .ptr 3 0), (2, .fn 59 [] []), (7, .ptr 6 0), (22, .own 9), (23, .d (.int .i64)), (24, .d (.int .i64))]⟩, [(.exit 0, ⟨[(.pin 0, .cells [.own 1, .own 2]), (.pin 1, .grow true (.int .u16) 72), (.pin 2, .grow true h0 65), (.pin 3, .cells [.own 4, .own 5]), (.pin 4, .grow true (.int .u16) 72), (.pin 5, .grow true h0 65), (.tmp 7, .cells [.own 7, .own 8]), (.cell 6 0, .grow false (.int .u16) 72), (.cell 6 1, .grow false h0 65)], [(7, .ptr 6 0)]⟩)], fun x => roaring_each_Container_AndNot_l0 k x.1 x.2.1 x.2.2.1 x.2.2.2.1 x.2.2.2.2.1 x.2.2.2.2.2.1 x.2.2.2.2.2.2.1 x.2.2.2.2.2.2.2.1 x.2.2.2.2.2.2.2.2⟩
noncomputable def s99 (k : Nat) : Sig := ⟨⟨[(.pin 0, .cells [.own 1, .own 2]), (.pin 1, .grow true (.int .u16) 72), (.pin 2, .grow true h0 65), (.pin 3, .cells [.own 4, .own 5]), (.pin 4, .grow true (.int .u16) 72), (.pin 5, .grow true h0 65)], [(0, .ptr 0 0), (1, .ptr 3 0), (2, .fn 59 [] [])]⟩, ⟨[(.pin 0, .cells [.own 1, .own 2]), (.pin 1, .grow true (.int .u16) 72), (.pin 2, .grow true h0 65), (.pin 3, .cells [.own 4, .own 5]), (.pin 4, .grow true (.int .u16) 72), (.pin 5, .grow true h0 65), (.tmp 0, .cells [.own 7, .own 8]), (.cell 6 0, .grow false (.int .u16) 72), (.cell 6 1, .grow false h0 65)], [(0, .ptr 6 0)]⟩, fun x => roaring_each_Container_AndNot k x.1 x.2.1 x.2.2.1 x.2.2.2⟩
noncomputable def g99 (k : Nat) := mkG 6 61 [(11, s0 k), (40, s53 k), (104, s68 k), (105, s71 k), (106, s72 k), (47, s6 k), (59, s98 k), (51, s15 k)] [(6, q99_6 k)]
theorem r99_6 (k : Nat) (x) : (q99_6 (k + 1)).F x = rL 6 (q99_6 k) (g99 k) l99_6 x := by kernel_rfl
theorem r99 (k : Nat) (x) : (s99 k).F x = rF Tryz.f58 (s99 k) (g99 k) b99 x := by kernel_rfl
theorem c99 (k : Nat) : CallsOK Tryz.prog gl (g99 k) := callsOK_tab (G := g99 k) (tab := [(11, s0 k), (40, s53 k), (104, s68 k), (105, s71 k), (106, s72 k), (47, s6 k), (59, s98 k), (51, s15 k)]) (all_cons (k0 k) (all_cons (k53 k) (all_cons (k68 k) (all_cons (k71 k) (all_cons (k72 k) (all_cons (k6 k) (all_cons (k98 k) (all_cons (k15 k) all_nil))))))))
theorem o99_6 (C : Ctx) (h : Is C Tryz.prog gl 6 Tryz.f58.ntmps) (k : Nat) : LoopOK C (g99 k) l99_6 := mkL h mix_ok (b := l99_6) (hd := (q99_6 0).hd) (ex := (q99_6 0).ex) (F := fun k => (q99_6 k).F) g99 (fun _ => ⟨rfl, by kernel_rfl, rfl⟩) (fun _ => ty_ok _ rfl) c99 (fun k => noLoops (by kernel_rfl)) (fun _ => rfl) r99_6 k (fun S => by kernel_rfl)
theorem k99 (k : Nat) : FnOK Tryz.prog gl 58 (s99 k) := mkF (G := g99 k) (ps := (s99 k).ps) (rs := (s99 k).rs) (F := (s99 k).F) mix_ok Tryz.func58 (c := b99) (by kernel_rfl) (by kernel_rfl) ⟨rfl, by kernel_rfl, rfl⟩ (ty_ok _ rfl) (c99 k) (by kernel_rfl) (by kernel_rfl) (fun C h => loops_all (n := 1) (by kernel_rfl) (lt_allS lt_all0 (o99_6 C h k))) (r99 k)
-- roaring_Set_AndNot
noncomputable def b100 := bodyOf Tryz.f24
noncomputable def s100 (k : Nat) : Sig := ⟨⟨[(.pin 0, .cells [.own 1, .own 2]), (.pin 1, .grow true (.int .u16) 72), (.pin 2, .grow true h0 65), (.pin 3, .cells [.own 4, .own 5]), (.pin 4, .grow true (.int .u16) 72), (.pin 5, .grow true h0 65)], [(0, .ptr 0 0), (1, .ptr 3 0)]⟩, ⟨[(.pin 0, .cells [.own 1, .own 2]), (.pin 1, .grow true (.int .u16) 72), (.pin 2, .grow true h0 65), (.pin 3, .cells [.own 4, .own 5]), (.pin 4, .grow true (.int .u16) 72), (.pin 5, .grow true h0 65), (.tmp 0, .cells [.own 7, .own 8]), (.cell 6 0, .grow false (.int .u16) 72), (.cell 6 1, .grow false h0 65)], [(0, .ptr 6 0)]⟩, fun x => roaring_Set_AndNot k x.1 x.2.1 x.2.2.1 x.2.2.2⟩
noncomputable def g100 (k : Nat) := mkG 6 8 [(58, s99 k)] []
theorem r100 (k : Nat) (x) : (s100 k).F x = rF Tryz.f24 (s100 k) (g100 k) b100 x := by kernel_rfl
theorem c100 (k : Nat) : CallsOK Tryz.prog gl (g100 k) := callsOK_tab (G := g100 k) (tab := [(58, s99 k)]) (all_cons (k99 k) all_nil)
theorem k100 (k : Nat) : FnOK Tryz.prog gl 24 (s100 k) := mkF (G := g100 k) (ps := (s100 k).ps) (rs := (s100 k).rs) (F := (s100 k).F) mix_ok Tryz.func24 (c := b100) (by kernel_rfl) (by kernel_rfl) ⟨rfl, by kernel_rfl, rfl⟩ (ty_ok _ rfl) (c100 k) (by kernel_rfl) (by kernel_rfl) (fun C h => noLoops (by kernel_rfl)) (r100 k)
-- roaring_Set_Not
noncomputable def b101 := bodyOf Tryz.f30
noncomputable def s101 (k : Nat) : Sig := ⟨⟨[(.pin 0, .cells [.own 1, .own 2]), (.pin 1, .grow true (.int .u16) 72), (.pin 2, .grow true h0 65)], [(0, .ptr 0 0), (1, .d (.int .u64))]⟩, ⟨[(.pin 0, .cells [.own 1, .own 2]), (.pin 1, .grow true (.int .u16) 72), (.pin 2, .grow true h0 65), (.tmp 0, .cells [.own 4, .own 5]), (.cell 3 0, .grow false (.int .u16) 72), (.cell 3 1, .grow false h0 65)], [(0, .ptr 3 0)]⟩, fun x => roaring_Set_Not k x.1 x.2.1 x.2.2⟩
noncomputable def g101 (k : Nat) := mkG 3 11 [(14, s66 k), (24, s100 k)] []
theorem r101 (k : Nat) (x) : (s101 k).F x = rF Tryz.f30 (s101 k) (g101 k) b101 x := by kernel_rfl
theorem c101 (k : Nat) : CallsOK Tryz.prog gl (g101 k) := callsOK_tab (G := g101 k) (tab := [(14, s66 k), (24, s100 k)]) (all_cons (k66 k) (all_cons (k100 k) all_nil))
theorem k101 (k : Nat) : FnOK Tryz.prog gl 30 (s101 k) := mkF (G := g101 k) (ps := (s101 k).ps) (rs := (s101 k).rs) (F := (s101 k).F) mix_ok Tryz.func30 (c := b101) (by kernel_rfl) (by kernel_rfl) ⟨rfl, by kernel_rfl, rfl⟩ (ty_ok _ rfl) (c101 k) (by kernel_rfl) (by kernel_rfl) (fun C h => noLoops (by kernel_rfl)) (r101 k)
-- roaring_Set_list
noncomputable def b102 := bodyOf Tryz.f50
noncomputable def s102 (k : Nat) : Sig := ⟨⟨[(.pin 0, .cells [.own 1, .own 2]), (.pin 1, .grow true (.int .u16) 72), (.pin 2, .grow true h0 65)], [(0, .ptr 0 0)]⟩, ⟨[(.pin 0, .cells [.own 1, .own 2]), (.pin 1, .grow true (.int .u16) 72), (.pin 2, .grow true h0 65)], [(0, .own 2)]⟩, fun x => roaring_Set_list k x.1 x.2⟩
noncomputable def g102 (k : Nat) := mkG 3 9 [] []
theorem r102 (k : Nat) (x) : (s102 k).F x = rF Tryz.f50 (s102 k) (g102 k) b102 x := by kernel_rfl
theorem k102 (k : Nat) : FnOK Tryz.prog gl 50 (s102 k) := mkF (G := g102 k) (ps := (s102 k).ps) (rs := (s102 k).rs) (F := (s102 k).F) mix_ok Tryz.func50 (c := b102) (by kernel_rfl) (by kernel_rfl) ⟨rfl, by kernel_rfl, rfl⟩ (ty_ok _ rfl) (callsOK_tab (G := g102 k) (tab := []) all_nil) (by kernel_rfl) (by kernel_rfl) (fun C h => noLoops (by kernel_rfl)) (r102 k)
-- roaring_Set_Runs
noncomputable def b103 := bodyOf Tryz.f19
noncomputable def l103_4 := subLoop b103 0
noncomputable def l103_8 := subLoop l103_4 0
noncomputable def q103_8 (k : Nat) : LSig := ⟨⟨[(.pin 0, .cells [.own 1, .own 2]), (.pin 1, .grow true (.int .u16) 72), (.pin 2, .grow true h0 65), (.tmp 3, .grow false (.st (.pair (.int .u64) (.int .u64))) 32)], [(0, .ptr 0 0), (3, .own 3), (6, .d (.int .u64)), (13, .own 2), (14, .d (.int .i64)), (15, .d (.int .i64)), (30, .d h1), (31, .d (.int .i64)), (32, .d (.int .i64))]⟩, [(.exit 2, ⟨[(.pin 0, .cells [.own 1, .own 2]), (.pin 1, .grow true (.int .u16) 72), (.pin 2, .grow true h0 65), (.tmp 3, .grow false (.st (.pair (.int .u64) (.int .u64))) 32)], [(0, .ptr 0 0), (3, .own 3), (13, .own 2), (14, .d (.int .i64)), (15, .d (.int .i64))]⟩)], fun x => roaring_Set_Runs_l1 k x.1 x.2.1 x.2.2.1 x.2.2.2.1 x.2.2.2.2.1 x.2.2.2.2.2.1 x.2.2.2.2.2.2.1 x.2.2.2.2.2.2.2.1 x.2.2.2.2.2.2.2.2⟩
noncomputable def q103_4 (k : Nat) : LSig := ⟨⟨[(.pin 0, .cells [.own 1, .own 2]), (.pin 1, .grow true (.int .u16) 72), (.pin 2, .grow true h0 65), (.tmp 3, .grow false (.st (.pair (.int .u64) (.int .u64))) 32)], [(0, .ptr 0 0), (3, .own 3), (13, .own 2), (14, .d (.int .i64)), (15, .d (.int .i64))]⟩, [(.exit 0, ⟨[(.pin 0, .cells [.own 1, .own 2]), (.pin 1, .grow true (.int .u16) 72), (.pin 2, .grow true h0 65), (.tmp 3, .grow false (.st (.pair (.int .u64) (.int .u64))) 32)], [(3, .own 3)]⟩)], fun x => roaring_Set_Runs_l0 k x.1 x.2.1 x.2.2.1 x.2.2.2.1 x.2.2.2.2⟩
noncomputable def s103 (k : Nat) : Sig := ⟨⟨[(.pin 0, .cells [.own 1, .own 2]), (.pin 1, .grow true (.int .u16) 72), (.pin 2, .grow true h0 65)], [(0, .ptr 0 0)]⟩, ⟨[(.pin 0, .cells [.own 1, .own 2]), (.pin 1, .grow true (.int .u16) 72), (.pin 2, .grow true h0 65)], [(0, .d h3)]⟩, fun x => roaring_Set_Runs k x.1 x.2⟩
noncomputable def g103 (k : Nat) := mkG 3 80 [(50, s102 k), (36, s27 k)] [(8, q103_8 k), (4, q103_4 k)]
theorem r103_8 (k : Nat) (x) : (q103_8 (k + 1)).F x = rL 3 (q103_8 k) (g103 k) l103_8 x := by kernel_rfl
theorem r103_4 (k : Nat) (x) : (q103_4 (k + 1)).F x = rL 3 (q103_4 k) (g103 k) l103_4 x := by kernel_rfl
theorem r103 (k : Nat) (x) : (s103 k).F x = rF Tryz.f19 (s103 k) (g103 k) b103 x := by kernel_rfl
theorem c103 (k : Nat) : CallsOK Tryz.prog gl (g103 k) := callsOK_tab (G := g103 k) (tab := [(50, s102 k), (36, s27 k)]) (all_cons (k102 k) (all_cons (k27 k) all_nil))
theorem o103_8 (C : Ctx) (h : Is C Tryz.prog gl 3 Tryz.f19.ntmps) (k : Nat) : LoopOK C (g103 k) l103_8 := mkL h mix_ok (b := l103_8) (hd := (q103_8 0).hd) (ex := (q103_8 0).ex) (F := fun k => (q103_8 k).F) g103 (fun _ => ⟨rfl, by kernel_rfl, rfl⟩) (fun _ => ty_ok _ rfl) c103 (fun k => noLoops (by kernel_rfl)) (fun _ => rfl) r103_8 k (fun S => by kernel_rfl)
theorem o103_4 (C : Ctx) (h : Is C Tryz.prog gl 3 Tryz.f19.ntmps) (k : Nat) : LoopOK C (g103 k) l103_4 := mkL h mix_ok (b := l103_4) (hd := (q103_4 0).hd) (ex := (q103_4 0).ex) (F := fun k => (q103_4 k).F) g103 (fun _ => ⟨rfl, by kernel_rfl, rfl⟩) (fun _ => ty_ok _ rfl) c103 (fun k => loops_all (n := 1) (by kernel_rfl) (lt_allS lt_all0 (o103_8 C h k))) (fun _ => rfl) r103_4 k (fun S => by kernel_rfl)
theorem k103 (k : Nat) : FnOK Tryz.prog gl 19 (s103 k) := mkF (G := g103 k) (ps := (s103 k).ps) (rs := (s103 k).rs) (F := (s103 k).F) mix_ok Tryz.func19 (c := b103) (by kernel_rfl) (by kernel_rfl) ⟨rfl, by kernel_rfl, rfl⟩ (ty_ok _ rfl) (c103 k) (by kernel_rfl) (by kernel_rfl) (fun C h => loops_all (n := 1) (by kernel_rfl) (lt_allS lt_all0 (o103_4 C h k))) (r103 k)
-- roaring_Set_Len
noncomputable def b104 := bodyOf Tryz.f15
noncomputable def l104_4 := subLoop b104 0
noncomputable def q104_4 (k : Nat) : LSig := ⟨⟨[(.pin 0, .cells [.own 1, .own 2]), (.pin 1, .grow true (.int .u16) 72), (.pin 2, .grow true h0 65)], [(3, .d (.int .i64)), (7, .own 2), (8, .d (.int .i64)), (9, .d (.int .i64))]⟩, [(.exit 0, ⟨[(.pin 0, .cells [.own 1, .own 2]), (.pin 1, .grow true (.int .u16) 72), (.pin 2, .grow true h0 65)], [(3, .d (.int .i64))]⟩)], fun x => roaring_Set_Len_l0 k x.1 x.2.1 x.2.2.1 x.2.2.2.1 x.2.2.2.2⟩
noncomputable def s104 (k : Nat) : Sig := ⟨⟨[(.pin 0, .cells [.own 1, .own 2]), (.pin 1, .grow true (.int .u16) 72), (.pin 2, .grow true h0 65)], [(0, .ptr 0 0)]⟩, ⟨[(.pin 0, .cells [.own 1, .own 2]), (.pin 1, .grow true (.int .u16) 72), (.pin 2, .grow true h0 65)], [(0, .d (.int .i64))]⟩, fun x => roaring_Set_Len k x.1 x.2⟩
noncomputable def g104 (k : Nat) := mkG 3 19 [(50, s102 k), (51, s15 k)] [(4, q104_4 k)]
theorem r104_4 (k : Nat) (x) : (q104_4 (k + 1)).F x = rL 3 (q104_4 k) (g104 k) l104_4 x := by kernel_rfl
theorem r104 (k : Nat) (x) : (s104 k).F x = rF Tryz.f15 (s104 k) (g104 k) b104 x := by kernel_rfl
theorem c104 (k : Nat) : CallsOK Tryz.prog gl (g104 k) := callsOK_tab (G := g104 k) (tab := [(50, s102 k), (51, s15 k)]) (all_cons (k102 k) (all_cons (k15 k) all_nil))
theorem o104_4 (C : Ctx) (h : Is C Tryz.prog gl 3 Tryz.f15.ntmps) (k : Nat) : LoopOK C (g104 k) l104_4 := mkL h mix_ok (b := l104_4) (hd := (q104_4 0).hd) (ex := (q104_4 0).ex) (F := fun k => (q104_4 k).F) g104 (fun _ => ⟨rfl, by kernel_rfl, rfl⟩) (fun _ => ty_ok _ rfl) c104 (fun k => noLoops (by kernel_rfl)) (fun _ => rfl) r104_4 k (fun S => by kernel_rfl)
theorem k104 (k : Nat) : FnOK Tryz.prog gl 15 (s104 k) := mkF (G := g104 k) (ps := (s104 k).ps) (rs := (s104 k).rs) (F := (s104 k).F) mix_ok Tryz.func15 (c := b104) (by kernel_rfl) (by kernel_rfl) ⟨rfl, by kernel_rfl, rfl⟩ (ty_ok _ rfl) (c104 k) (by kernel_rfl) (by kernel_rfl) (fun C h => loops_all (n := 1) (by kernel_rfl) (lt_allS lt_all0 (o104_4 C h k))) (r104 k)
-- container_Container_arrayRank
noncomputable def b105 := bodyOf Tryz.f98
noncomputable def s105 (k : Nat) : Sig := ⟨⟨[], [(0, .d h0), (1, .d (.int .i64))]⟩, ⟨[], [(0, .d (.int .i64))]⟩, fun x => container_Container_arrayRank k x.1 x.2⟩
noncomputable def g105 (k : Nat) := mkG 0 25 [(143, s74 k)] []
theorem r105 (k : Nat) (x) : (s105 k).F x = rF Tryz.f98 (s105 k) (g105 k) b105 x := by kernel_rfl
theorem c105 (k : Nat) : CallsOK Tryz.prog gl (g105 k) := callsOK_tab (G := g105 k) (tab := [(143, s74 k)]) (all_cons (k74 k) all_nil)
theorem k105 (k : Nat) : FnOK Tryz.prog gl 98 (s105 k) := mkF (G := g105 k) (ps := (s105 k).ps) (rs := (s105 k).rs) (F := (s105 k).F) mix_ok Tryz.func98 (c := b105) (by kernel_rfl) (by kernel_rfl) ⟨rfl, by kernel_rfl, rfl⟩ (ty_ok _ rfl) (c105 k) (by kernel_rfl) (by kernel_rfl) (fun C h => noLoops (by kernel_rfl)) (r105 k)
-- words_Rank
noncomputable def b106 := bodyOf Tryz.f144
noncomputable def s106 (k : Nat) : Sig := ⟨⟨[], [(0, .d (.sl (.int .u64))), (1, .d (.int .i64))]⟩, ⟨[], [(0, .d (.int .i64))]⟩, fun x => words_Rank k x.1 x.2⟩
noncomputable def g106 (k : Nat) := mkG 0 33 [(141, s11 k), (181, s10 k)] []
theorem r106 (k : Nat) (x) : (s106 k).F x = rF Tryz.f144 (s106 k) (g106 k) b106 x := by kernel_rfl
theorem c106 (k : Nat) : CallsOK Tryz.prog gl (g106 k) := callsOK_tab (G := g106 k) (tab := [(141, s11 k), (181, s10 k)]) (all_cons (k11 k) (all_cons (k10 k) all_nil))
theorem k106 (k : Nat) : FnOK Tryz.prog gl 144 (s106 k) := mkF (G := g106 k) (ps := (s106 k).ps) (rs := (s106 k).rs) (F := (s106 k).F) mix_ok Tryz.func144 (c := b106) (by kernel_rfl) (by kernel_rfl) ⟨rfl, by kernel_rfl, rfl⟩ (ty_ok _ rfl) (c106 k) (by kernel_rfl) (by kernel_rfl) (fun C h => noLoops (by kernel_rfl)) (r106 k)
-- container_Container_wordsRank
noncomputable def b107 := bodyOf Tryz.f99
noncomputable def s107 (k : Nat) : Sig := ⟨⟨[], [(0, .d h0), (1, .d (.int .i64))]⟩, ⟨[], [(0, .d (.int .i64))]⟩, fun x => container_Container_wordsRank k x.1 x.2⟩
noncomputable def g107 (k : Nat) := mkG 0 9 [(144, s106 k)] []
theorem r107 (k : Nat) (x) : (s107 k).F x = rF Tryz.f99 (s107 k) (g107 k) b107 x := by kernel_rfl
theorem c107 (k : Nat) : CallsOK Tryz.prog gl (g107 k) := callsOK_tab (G := g107 k) (tab := [(144, s106 k)]) (all_cons (k106 k) all_nil)
theorem k107 (k : Nat) : FnOK Tryz.prog gl 99 (s107 k) := mkF (G := g107 k) (ps := (s107 k).ps) (rs := (s107 k).rs) (F := (s107 k).F) mix_ok Tryz.func99 (c := b107) (by kernel_rfl) (by kernel_rfl) ⟨rfl, by kernel_rfl, rfl⟩ (ty_ok _ rfl) (c107 k) (by kernel_rfl) (by kernel_rfl) (fun C h => noLoops (by kernel_rfl)) (r107 k)
-- runs_Rank
noncomputable def b108 := bodyOf Tryz.f145
noncomputable def l108_5 := subLoop b108 0
noncomputable def q108_5 (k : Nat) : LSig := ⟨⟨[], [(1, .d (.int .i64)), (5, .d (.int .i64)), (10, .d h1), (11, .d (.int .i64)), (12, .d (.int .i64))]⟩, [(.exit 0, ⟨[], [(5, .d (.int .i64))]⟩)], fun x => runs_Rank_l0 k x.1 x.2.1 x.2.2.1 x.2.2.2.1 x.2.2.2.2⟩
noncomputable def s108 (k : Nat) : Sig := ⟨⟨[], [(0, .d h1), (1, .d (.int .i64))]⟩, ⟨[], [(0, .d (.int .i64))]⟩, fun x => runs_Rank k x.1 x.2⟩
noncomputable def g108 (k : Nat) := mkG 0 31 [] [(5, q108_5 k)]
theorem r108_5 (k : Nat) (x) : (q108_5 (k + 1)).F x = rL 0 (q108_5 k) (g108 k) l108_5 x := by kernel_rfl
theorem r108 (k : Nat) (x) : (s108 k).F x = rF Tryz.f145 (s108 k) (g108 k) b108 x := by kernel_rfl
theorem o108_5 (C : Ctx) (h : Is C Tryz.prog gl 0 Tryz.f145.ntmps) (k : Nat) : LoopOK C (g108 k) l108_5 := mkL h mix_ok (b := l108_5) (hd := (q108_5 0).hd) (ex := (q108_5 0).ex) (F := fun k => (q108_5 k).F) g108 (fun _ => ⟨rfl, by kernel_rfl, rfl⟩) (fun _ => ty_ok _ rfl) (fun k => callsOK_tab (G := g108 k) (tab := []) all_nil) (fun k => noLoops (by kernel_rfl)) (fun _ => rfl) r108_5 k (fun S => by kernel_rfl)
theorem k108 (k : Nat) : FnOK Tryz.prog gl 145 (s108 k) := mkF (G := g108 k) (ps := (s108 k).ps) (rs := (s108 k).rs) (F := (s108 k).F) mix_ok Tryz.func145 (c := b108) (by kernel_rfl) (by kernel_rfl) ⟨rfl, by kernel_rfl, rfl⟩ (ty_ok _ rfl) (callsOK_tab (G := g108 k) (tab := []) all_nil) (by kernel_rfl) (by kernel_rfl) (fun C h => loops_all (n := 1) (by kernel_rfl) (lt_allS lt_all0 (o108_5 C h k))) (r108 k)
-- container_Container_runsRank
noncomputable def b109 := bodyOf Tryz.f100
noncomputable def s109 (k : Nat) : Sig := ⟨⟨[], [(0, .d h0), (1, .d (.int .i64))]⟩, ⟨[], [(0, .d (.int .i64))]⟩, fun x => container_Container_runsRank k x.1 x.2⟩
noncomputable def g109 (k : Nat) := mkG 0 9 [(145, s108 k)] []
theorem r109 (k : Nat) (x) : (s109 k).F x = rF Tryz.f100 (s109 k) (g109 k) b109 x := by kernel_rfl
theorem c109 (k : Nat) : CallsOK Tryz.prog gl (g109 k) := callsOK_tab (G := g109 k) (tab := [(145, s108 k)]) (all_cons (k108 k) all_nil)
theorem k109 (k : Nat) : FnOK Tryz.prog gl 100 (s109 k) := mkF (G := g109 k) (ps := (s109 k).ps) (rs := (s109 k).rs) (F := (s109 k).F) mix_ok Tryz.func100 (c := b109) (by kernel_rfl) (by kernel_rfl) ⟨rfl, by kernel_rfl, rfl⟩ (ty_ok _ rfl) (c109 k) (by kernel_rfl) (by kernel_rfl) (fun C h => noLoops (by kernel_rfl)) (r109 k)
-- container_Container_Rank
noncomputable def b110 := bodyOf Tryz.f52
noncomputable def s110 (k : Nat) : Sig := ⟨⟨[], [(0, .d h0), (1, .d (.int .i64))]⟩, ⟨[], [(0, .d (.int .i64))]⟩, fun x => container_Container_Rank k x.1 x.2⟩
noncomputable def g110 (k : Nat) := mkG 0 12 [(81, s8 k), (98, s105 k), (99, s107 k), (100, s109 k)] []
theorem r110 (k : Nat) (x) : (s110 k).F x = rF Tryz.f52 (s110 k) (g110 k) b110 x := by kernel_rfl
theorem c110 (k : Nat) : CallsOK Tryz.prog gl (g110 k) := callsOK_tab (G := g110 k) (tab := [(81, s8 k), (98, s105 k), (99, s107 k), (100, s109 k)]) (all_cons (k8 k) (all_cons (k105 k) (all_cons (k107 k) (all_cons (k109 k) all_nil))))
theorem k110 (k : Nat) : FnOK Tryz.prog gl 52 (s110 k) := mkF (G := g110 k) (ps := (s110 k).ps) (rs := (s110 k).rs) (F := (s110 k).F) mix_ok Tryz.func52 (c := b110) (by kernel_rfl) (by kernel_rfl) ⟨rfl, by kernel_rfl, rfl⟩ (ty_ok _ rfl) (c110 k) (by kernel_rfl) (by kernel_rfl) (fun C h => noLoops (by kernel_rfl)) (r110 k)
-- roaring_Set_Rank
noncomputable def b111 := bodyOf Tryz.f16
noncomputable def l111_6 := subLoop b111 0
noncomputable def q111_6 (k : Nat) : LSig := ⟨⟨[(.pin 0, .cells [.own 1, .own 2]), (.pin 1, .grow true (.int .u16) 72), (.pin 2, .grow true h0 65)], [(0, .ptr 0 0), (1, .d (.int .u64)), (5, .d (.int .i64)), (14, .own 2), (15, .d (.int .i64)), (16, .d (.int .i64))]⟩, [(.exit 0, ⟨[(.pin 0, .cells [.own 1, .own 2]), (.pin 1, .grow true (.int .u16) 72), (.pin 2, .grow true h0 65)], [(5, .d (.int .i64))]⟩)], fun x => roaring_Set_Rank_l0 k x.1 x.2.1 x.2.2.1 x.2.2.2.1 x.2.2.2.2.1 x.2.2.2.2.2⟩
noncomputable def s111 (k : Nat) : Sig := ⟨⟨[(.pin 0, .cells [.own 1, .own 2]), (.pin 1, .grow true (.int .u16) 72), (.pin 2, .grow true h0 65)], [(0, .ptr 0 0), (1, .d (.int .u64))]⟩, ⟨[(.pin 0, .cells [.own 1, .own 2]), (.pin 1, .grow true (.int .u16) 72), (.pin 2, .grow true h0 65)], [(0, .d (.int .i64))]⟩, fun x => roaring_Set_Rank k x.1 x.2.1 x.2.2⟩
noncomputable def g111 (k : Nat) := mkG 3 52 [(15, s104 k), (50, s102 k), (51, s15 k), (52, s110 k)] [(6, q111_6 k)]
theorem r111_6 (k : Nat) (x) : (q111_6 (k + 1)).F x = rL 3 (q111_6 k) (g111 k) l111_6 x := by kernel_rfl
theorem r111 (k : Nat) (x) : (s111 k).F x = rF Tryz.f16 (s111 k) (g111 k) b111 x := by kernel_rfl
theorem c111 (k : Nat) : CallsOK Tryz.prog gl (g111 k) := callsOK_tab (G := g111 k) (tab := [(15, s104 k), (50, s102 k), (51, s15 k), (52, s110 k)]) (all_cons (k104 k) (all_cons (k102 k) (all_cons (k15 k) (all_cons (k110 k) all_nil))))
theorem o111_6 (C : Ctx) (h : Is C Tryz.prog gl 3 Tryz.f16.ntmps) (k : Nat) : LoopOK C (g111 k) l111_6 := mkL h mix_ok (b := l111_6) (hd := (q111_6 0).hd) (ex := (q111_6 0).ex) (F := fun k => (q111_6 k).F) g111 (fun _ => ⟨rfl, by kernel_rfl, rfl⟩) (fun _ => ty_ok _ rfl) c111 (fun k => noLoops (by kernel_rfl)) (fun _ => rfl) r111_6 k (fun S => by kernel_rfl)
theorem k111 (k : Nat) : FnOK Tryz.prog gl 16 (s111 k) := mkF (G := g111 k) (ps := (s111 k).ps) (rs := (s111 k).rs) (F := (s111 k).F) mix_ok Tryz.func16 (c := b111) (by kernel_rfl) (by kernel_rfl) ⟨rfl, by kernel_rfl, rfl⟩ (ty_ok _ rfl) (c111 k) (by kernel_rfl) (by kernel_rfl) (fun C h => loops_all (n := 1) (by kernel_rfl) (lt_allS lt_all0 (o111_6 C h k))) (r111 k)
-- isinglassref08_Same
noncomputable def b112 := bodyOf Tryz.f18
noncomputable def l112_5 := subLoop b112 0
noncomputable def q112_5 (k : Nat) : LSig := ⟨⟨[], [(0, .d h3), (1, .d h3), (5, .d (.int .i64))]⟩, [(.ret, ⟨[], [(4, .d .bool)]⟩), (.exit 0, ⟨[], []⟩)], fun x => isinglassref08_Same_l0 k x.1 x.2.1 x.2.2⟩
noncomputable def s112 (k : Nat) : Sig := ⟨⟨[], [(0, .d h3), (1, .d h3)]⟩, ⟨[], [(0, .d .bool)]⟩, fun x => isinglassref08_Same k x.1 x.2⟩
noncomputable def g112 (k : Nat) := mkG 0 26 [] [(5, q112_5 k)]
theorem r112_5 (k : Nat) (x) : (q112_5 (k + 1)).F x = rL 0 (q112_5 k) (g112 k) l112_5 x := by kernel_rfl
theorem r112 (k : Nat) (x) : (s112 k).F x = rF Tryz.f18 (s112 k) (g112 k) b112 x := by kernel_rfl
theorem o112_5 (C : Ctx) (h : Is C Tryz.prog gl 0 Tryz.f18.ntmps) (k : Nat) : LoopOK C (g112 k) l112_5 := mkL h mix_ok (b := l112_5) (hd := (q112_5 0).hd) (ex := (q112_5 0).ex) (F := fun k => (q112_5 k).F) g112 (fun _ => ⟨rfl, by kernel_rfl, rfl⟩) (fun _ => ty_ok _ rfl) (fun k => callsOK_tab (G := g112 k) (tab := []) all_nil) (fun k => noLoops (by kernel_rfl)) (fun _ => rfl) r112_5 k (fun S => by kernel_rfl)
theorem k112 (k : Nat) : FnOK Tryz.prog gl 18 (s112 k) := mkF (G := g112 k) (ps := (s112 k).ps) (rs := (s112 k).rs) (F := (s112 k).F) mix_ok Tryz.func18 (c := b112) (by kernel_rfl) (by kernel_rfl) ⟨rfl, by kernel_rfl, rfl⟩ (ty_ok _ rfl) (callsOK_tab (G := g112 k) (tab := []) all_nil) (by kernel_rfl) (by kernel_rfl) (fun C h => loops_all (n := 1) (by kernel_rfl) (lt_allS lt_all0 (o112_5 C h k))) (r112 k)
-- isinglasslaw08_known
noncomputable def b113 := bodyOf Tryz.f10
noncomputable def s113 (k : Nat) : Sig := ⟨⟨[], []⟩, ⟨[], [(0, .d .bool)]⟩, fun x => isinglasslaw08_known k⟩
noncomputable def g113 (k : Nat) := mkG 0 39 [(11, s0 k), (12, s51 k), (40, s53 k), (25, s65 k), (30, s101 k), (19, s103 k), (15, s104 k), (16, s111 k), (18, s112 k)] []
theorem r113 (k : Nat) (x) : (s113 k).F x = rF Tryz.f10 (s113 k) (g113 k) b113 x := by kernel_rfl
theorem c113 (k : Nat) : CallsOK Tryz.prog gl (g113 k) := callsOK_tab (G := g113 k) (tab := [(11, s0 k), (12, s51 k), (40, s53 k), (25, s65 k), (30, s101 k), (19, s103 k), (15, s104 k), (16, s111 k), (18, s112 k)]) (all_cons (k0 k) (all_cons (k51 k) (all_cons (k53 k) (all_cons (k65 k) (all_cons (k101 k) (all_cons (k103 k) (all_cons (k104 k) (all_cons (k111 k) (all_cons (k112 k) all_nil)))))))))
theorem k113 (k : Nat) : FnOK Tryz.prog gl 10 (s113 k) := mkF (G := g113 k) (ps := (s113 k).ps) (rs := (s113 k).rs) (F := (s113 k).F) mix_ok Tryz.func10 (c := b113) (by kernel_rfl) (by kernel_rfl) ⟨rfl, by kernel_rfl, rfl⟩ (ty_ok _ rfl) (c113 k) (by kernel_rfl) (by kernel_rfl) (fun C h => noLoops (by kernel_rfl)) (r113 k)
-- container_OfWords
noncomputable def b114 := bodyOf Tryz.f33
noncomputable def s114 (k : Nat) : Sig := ⟨⟨[], [(0, .d (.sl (.int .u64)))]⟩, ⟨[], [(0, .d h0), (1, .d .bool)]⟩, fun x => container_OfWords k x⟩
noncomputable def g114 (k : Nat) := mkG 0 11 [(69, s28 k)] []
theorem r114 (k : Nat) (x) : (s114 k).F x = rF Tryz.f33 (s114 k) (g114 k) b114 x := by kernel_rfl
theorem c114 (k : Nat) : CallsOK Tryz.prog gl (g114 k) := callsOK_tab (G := g114 k) (tab := [(69, s28 k)]) (all_cons (k28 k) all_nil)
theorem k114 (k : Nat) : FnOK Tryz.prog gl 33 (s114 k) := mkF (G := g114 k) (ps := (s114 k).ps) (rs := (s114 k).rs) (F := (s114 k).F) mix_ok Tryz.func33 (c := b114) (by kernel_rfl) (by kernel_rfl) ⟨rfl, by kernel_rfl, rfl⟩ (ty_ok _ rfl) (c114 k) (by kernel_rfl) (by kernel_rfl) (fun C h => noLoops (by kernel_rfl)) (r114 k)
-- runs_May
noncomputable def b115 := bodyOf Tryz.f71
noncomputable def l115_4 := subLoop b115 0
noncomputable def q115_4 (k : Nat) : LSig := ⟨⟨[], [(3, .d (.int .i64)), (6, .d h1), (7, .d (.int .i64)), (8, .d (.int .i64))]⟩, [(.ret, ⟨[], [(2, .d .bool)]⟩), (.exit 0, ⟨[], []⟩)], fun x => runs_May_l0 k x.1 x.2.1 x.2.2.1 x.2.2.2⟩
noncomputable def s115 (k : Nat) : Sig := ⟨⟨[], [(0, .d h1)]⟩, ⟨[], [(0, .d .bool)]⟩, fun x => runs_May k x⟩
noncomputable def g115 (k : Nat) := mkG 0 26 [(125, s22 k)] [(4, q115_4 k)]
theorem r115_4 (k : Nat) (x) : (q115_4 (k + 1)).F x = rL 0 (q115_4 k) (g115 k) l115_4 x := by kernel_rfl
theorem r115 (k : Nat) (x) : (s115 k).F x = rF Tryz.f71 (s115 k) (g115 k) b115 x := by kernel_rfl
theorem c115 (k : Nat) : CallsOK Tryz.prog gl (g115 k) := callsOK_tab (G := g115 k) (tab := [(125, s22 k)]) (all_cons (k22 k) all_nil)
theorem o115_4 (C : Ctx) (h : Is C Tryz.prog gl 0 Tryz.f71.ntmps) (k : Nat) : LoopOK C (g115 k) l115_4 := mkL h mix_ok (b := l115_4) (hd := (q115_4 0).hd) (ex := (q115_4 0).ex) (F := fun k => (q115_4 k).F) g115 (fun _ => ⟨rfl, by kernel_rfl, rfl⟩) (fun _ => ty_ok _ rfl) c115 (fun k => noLoops (by kernel_rfl)) (fun _ => rfl) r115_4 k (fun S => by kernel_rfl)
theorem k115 (k : Nat) : FnOK Tryz.prog gl 71 (s115 k) := mkF (G := g115 k) (ps := (s115 k).ps) (rs := (s115 k).rs) (F := (s115 k).F) mix_ok Tryz.func71 (c := b115) (by kernel_rfl) (by kernel_rfl) ⟨rfl, by kernel_rfl, rfl⟩ (ty_ok _ rfl) (c115 k) (by kernel_rfl) (by kernel_rfl) (fun C h => loops_all (n := 1) (by kernel_rfl) (lt_allS lt_all0 (o115_4 C h k))) (r115 k)
-- container_OfRuns
noncomputable def b116 := bodyOf Tryz.f35
noncomputable def s116 (k : Nat) : Sig := ⟨⟨[], [(0, .d h1)]⟩, ⟨[], [(0, .d h0), (1, .d .bool)]⟩, fun x => container_OfRuns k x⟩
noncomputable def g116 (k : Nat) := mkG 0 11 [(71, s115 k), (72, s19 k)] []
theorem r116 (k : Nat) (x) : (s116 k).F x = rF Tryz.f35 (s116 k) (g116 k) b116 x := by kernel_rfl
theorem c116 (k : Nat) : CallsOK Tryz.prog gl (g116 k) := callsOK_tab (G := g116 k) (tab := [(71, s115 k), (72, s19 k)]) (all_cons (k115 k) (all_cons (k19 k) all_nil))
theorem k116 (k : Nat) : FnOK Tryz.prog gl 35 (s116 k) := mkF (G := g116 k) (ps := (s116 k).ps) (rs := (s116 k).rs) (F := (s116 k).F) mix_ok Tryz.func35 (c := b116) (by kernel_rfl) (by kernel_rfl) ⟨rfl, by kernel_rfl, rfl⟩ (ty_ok _ rfl) (c116 k) (by kernel_rfl) (by kernel_rfl) (fun C h => noLoops (by kernel_rfl)) (r116 k)
-- roaring_Join
noncomputable def b117 := bodyOf Tryz.f37
noncomputable def l117_6 := subLoop b117 0
noncomputable def q117_6 (k : Nat) : LSig := ⟨⟨[(.tmp 6, .cells [.own 1, .own 2]), (.cell 0 0, .grow false (.int .u16) 72), (.cell 0 1, .grow false h0 65)], [(0, .d (.sl (.int .u16))), (6, .ptr 0 0), (15, .d h2), (16, .d (.int .i64)), (17, .d (.int .i64))]⟩, [(.ret, ⟨[], [(4, .d h4), (5, .d (.int .i64))]⟩), (.exit 0, ⟨[(.tmp 6, .cells [.own 1, .own 2]), (.cell 0 0, .grow false (.int .u16) 72), (.cell 0 1, .grow false h0 65)], [(6, .ptr 0 0)]⟩)], fun x => roaring_Join_l0 k x.1 x.2.1 x.2.2.1 x.2.2.2.1 x.2.2.2.2.1 x.2.2.2.2.2⟩
noncomputable def s117 (k : Nat) : Sig := ⟨⟨[], [(0, .d (.sl (.int .u16))), (1, .d h2)]⟩, ⟨[], [(0, .d h4), (1, .d (.int .i64))]⟩, fun x => roaring_Join k x.1 x.2⟩
noncomputable def g117 (k : Nat) := mkG 0 67 [(11, s0 k), (51, s15 k), (74, s31 k)] [(6, q117_6 k)]
theorem r117_6 (k : Nat) (x) : (q117_6 (k + 1)).F x = rL 0 (q117_6 k) (g117 k) l117_6 x := by kernel_rfl
theorem r117 (k : Nat) (x) : (s117 k).F x = rF Tryz.f37 (s117 k) (g117 k) b117 x := by kernel_rfl
theorem c117 (k : Nat) : CallsOK Tryz.prog gl (g117 k) := callsOK_tab (G := g117 k) (tab := [(11, s0 k), (51, s15 k), (74, s31 k)]) (all_cons (k0 k) (all_cons (k15 k) (all_cons (k31 k) all_nil)))
theorem o117_6 (C : Ctx) (h : Is C Tryz.prog gl 0 Tryz.f37.ntmps) (k : Nat) : LoopOK C (g117 k) l117_6 := mkL h mix_ok (b := l117_6) (hd := (q117_6 0).hd) (ex := (q117_6 0).ex) (F := fun k => (q117_6 k).F) g117 (fun _ => ⟨rfl, by kernel_rfl, rfl⟩) (fun _ => ty_ok _ rfl) c117 (fun k => noLoops (by kernel_rfl)) (fun _ => rfl) r117_6 k (fun S => by kernel_rfl)
theorem k117 (k : Nat) : FnOK Tryz.prog gl 37 (s117 k) := mkF (G := g117 k) (ps := (s117 k).ps) (rs := (s117 k).rs) (F := (s117 k).F) mix_ok Tryz.func37 (c := b117) (by kernel_rfl) (by kernel_rfl) ⟨rfl, by kernel_rfl, rfl⟩ (ty_ok _ rfl) (c117 k) (by kernel_rfl) (by kernel_rfl) (fun C h => loops_all (n := 1) (by kernel_rfl) (lt_allS lt_all0 (o117_6 C h k))) (r117 k)
-- isinglassref04_May
noncomputable def b118 := bodyOf Tryz.f38
noncomputable def l118_3 := subLoop b118 0
noncomputable def q118_3 (k : Nat) : LSig := ⟨⟨[], [(0, .d (.sl (.int .u16))), (3, .d (.int .i64))]⟩, [(.ret, ⟨[], [(2, .d .bool)]⟩), (.exit 0, ⟨[], []⟩)], fun x => isinglassref04_May_l0 k x.1 x.2⟩
noncomputable def s118 (k : Nat) : Sig := ⟨⟨[], [(0, .d (.sl (.int .u16)))]⟩, ⟨[], [(0, .d .bool)]⟩, fun x => isinglassref04_May k x⟩
noncomputable def g118 (k : Nat) := mkG 0 20 [] [(3, q118_3 k)]
theorem r118_3 (k : Nat) (x) : (q118_3 (k + 1)).F x = rL 0 (q118_3 k) (g118 k) l118_3 x := by kernel_rfl
theorem r118 (k : Nat) (x) : (s118 k).F x = rF Tryz.f38 (s118 k) (g118 k) b118 x := by kernel_rfl
theorem o118_3 (C : Ctx) (h : Is C Tryz.prog gl 0 Tryz.f38.ntmps) (k : Nat) : LoopOK C (g118 k) l118_3 := mkL h mix_ok (b := l118_3) (hd := (q118_3 0).hd) (ex := (q118_3 0).ex) (F := fun k => (q118_3 k).F) g118 (fun _ => ⟨rfl, by kernel_rfl, rfl⟩) (fun _ => ty_ok _ rfl) (fun k => callsOK_tab (G := g118 k) (tab := []) all_nil) (fun k => noLoops (by kernel_rfl)) (fun _ => rfl) r118_3 k (fun S => by kernel_rfl)
theorem k118 (k : Nat) : FnOK Tryz.prog gl 38 (s118 k) := mkF (G := g118 k) (ps := (s118 k).ps) (rs := (s118 k).rs) (F := (s118 k).F) mix_ok Tryz.func38 (c := b118) (by kernel_rfl) (by kernel_rfl) ⟨rfl, by kernel_rfl, rfl⟩ (ty_ok _ rfl) (callsOK_tab (G := g118 k) (tab := []) all_nil) (by kernel_rfl) (by kernel_rfl) (fun C h => loops_all (n := 1) (by kernel_rfl) (lt_allS lt_all0 (o118_3 C h k))) (r118 k)
-- roaring_Set_list_d
noncomputable def b119 := bodyOf Tryz.f50
noncomputable def s119 (k : Nat) : Sig := ⟨⟨[], [(0, .d h4)]⟩, ⟨[], [(0, .d h2)]⟩, fun x => roaring_Set_list_d k x⟩
noncomputable def g119 (k : Nat) := mkG 0 9 [] []
theorem r119 (k : Nat) (x) : (s119 k).F x = rF Tryz.f50 (s119 k) (g119 k) b119 x := by kernel_rfl
theorem k119 (k : Nat) : FnOK Tryz.prog gl 50 (s119 k) := mkF (G := g119 k) (ps := (s119 k).ps) (rs := (s119 k).rs) (F := (s119 k).F) mix_ok Tryz.func50 (c := b119) (by kernel_rfl) (by kernel_rfl) ⟨rfl, by kernel_rfl, rfl⟩ (ty_ok _ rfl) (callsOK_tab (G := g119 k) (tab := []) all_nil) (by kernel_rfl) (by kernel_rfl) (fun C h => noLoops (by kernel_rfl)) (r119 k)
-- container_Container_arraySelect
noncomputable def b120 := bodyOf Tryz.f122
noncomputable def s120 (k : Nat) : Sig := ⟨⟨[], [(0, .d h0), (1, .d (.int .i64))]⟩, ⟨[], [(0, .d (.int .u16)), (1, .d .bool)]⟩, fun x => container_Container_arraySelect k x.1 x.2⟩
noncomputable def g120 (k : Nat) := mkG 0 20 [] []
theorem r120 (k : Nat) (x) : (s120 k).F x = rF Tryz.f122 (s120 k) (g120 k) b120 x := by kernel_rfl
theorem k120 (k : Nat) : FnOK Tryz.prog gl 122 (s120 k) := mkF (G := g120 k) (ps := (s120 k).ps) (rs := (s120 k).rs) (F := (s120 k).F) mix_ok Tryz.func122 (c := b120) (by kernel_rfl) (by kernel_rfl) ⟨rfl, by kernel_rfl, rfl⟩ (ty_ok _ rfl) (callsOK_tab (G := g120 k) (tab := []) all_nil) (by kernel_rfl) (by kernel_rfl) (fun C h => noLoops (by kernel_rfl)) (r120 k)
-- words_Select
noncomputable def b121 := bodyOf Tryz.f173
noncomputable def l121_5 := subLoop b121 0
noncomputable def l121_12 := subLoop l121_5 0
noncomputable def q121_12 (k : Nat) : LSig := ⟨⟨[], [(6, .d (.int .i64)), (7, .d (.int .u64)), (29, .d (.int .i64)), (30, .d (.int .i64))]⟩, [(.exit 2, ⟨[], [(6, .d (.int .i64)), (7, .d (.int .u64))]⟩)], fun x => words_Select_l1 k x.1 x.2.1 x.2.2.1 x.2.2.2⟩
noncomputable def q121_5 (k : Nat) : LSig := ⟨⟨[], [(0, .d (.sl (.int .u64))), (1, .d (.int .i64)), (13, .d (.int .i64)), (14, .d (.int .i64))]⟩, [(.ret, ⟨[], [(4, .d (.int .u16)), (5, .d .bool)]⟩), (.exit 0, ⟨[], []⟩)], fun x => words_Select_l0 k x.1 x.2.1 x.2.2.1 x.2.2.2⟩
noncomputable def s121 (k : Nat) : Sig := ⟨⟨[], [(0, .d (.sl (.int .u64))), (1, .d (.int .i64))]⟩, ⟨[], [(0, .d (.int .u16)), (1, .d .bool)]⟩, fun x => words_Select k x.1 x.2⟩
noncomputable def g121 (k : Nat) := mkG 0 44 [(181, s10 k), (166, s20 k)] [(12, q121_12 k), (5, q121_5 k)]
theorem r121_12 (k : Nat) (x) : (q121_12 (k + 1)).F x = rL 0 (q121_12 k) (g121 k) l121_12 x := by kernel_rfl
theorem r121_5 (k : Nat) (x) : (q121_5 (k + 1)).F x = rL 0 (q121_5 k) (g121 k) l121_5 x := by kernel_rfl
theorem r121 (k : Nat) (x) : (s121 k).F x = rF Tryz.f173 (s121 k) (g121 k) b121 x := by kernel_rfl
theorem c121 (k : Nat) : CallsOK Tryz.prog gl (g121 k) := callsOK_tab (G := g121 k) (tab := [(181, s10 k), (166, s20 k)]) (all_cons (k10 k) (all_cons (k20 k) all_nil))
theorem o121_12 (C : Ctx) (h : Is C Tryz.prog gl 0 Tryz.f173.ntmps) (k : Nat) : LoopOK C (g121 k) l121_12 := mkL h mix_ok (b := l121_12) (hd := (q121_12 0).hd) (ex := (q121_12 0).ex) (F := fun k => (q121_12 k).F) g121 (fun _ => ⟨rfl, by kernel_rfl, rfl⟩) (fun _ => ty_ok _ rfl) c121 (fun k => noLoops (by kernel_rfl)) (fun _ => rfl) r121_12 k (fun S => by kernel_rfl)
theorem o121_5 (C : Ctx) (h : Is C Tryz.prog gl 0 Tryz.f173.ntmps) (k : Nat) : LoopOK C (g121 k) l121_5 := mkL h mix_ok (b := l121_5) (hd := (q121_5 0).hd) (ex := (q121_5 0).ex) (F := fun k => (q121_5 k).F) g121 (fun _ => ⟨rfl, by kernel_rfl, rfl⟩) (fun _ => ty_ok _ rfl) c121 (fun k => loops_all (n := 1) (by kernel_rfl) (lt_allS lt_all0 (o121_12 C h k))) (fun _ => rfl) r121_5 k (fun S => by kernel_rfl)
theorem k121 (k : Nat) : FnOK Tryz.prog gl 173 (s121 k) := mkF (G := g121 k) (ps := (s121 k).ps) (rs := (s121 k).rs) (F := (s121 k).F) mix_ok Tryz.func173 (c := b121) (by kernel_rfl) (by kernel_rfl) ⟨rfl, by kernel_rfl, rfl⟩ (ty_ok _ rfl) (c121 k) (by kernel_rfl) (by kernel_rfl) (fun C h => loops_all (n := 1) (by kernel_rfl) (lt_allS lt_all0 (o121_5 C h k))) (r121 k)
-- container_Container_wordsSelect
noncomputable def b122 := bodyOf Tryz.f123
noncomputable def s122 (k : Nat) : Sig := ⟨⟨[], [(0, .d h0), (1, .d (.int .i64))]⟩, ⟨[], [(0, .d (.int .u16)), (1, .d .bool)]⟩, fun x => container_Container_wordsSelect k x.1 x.2⟩
noncomputable def g122 (k : Nat) := mkG 0 12 [(173, s121 k)] []
theorem r122 (k : Nat) (x) : (s122 k).F x = rF Tryz.f123 (s122 k) (g122 k) b122 x := by kernel_rfl
theorem c122 (k : Nat) : CallsOK Tryz.prog gl (g122 k) := callsOK_tab (G := g122 k) (tab := [(173, s121 k)]) (all_cons (k121 k) all_nil)
theorem k122 (k : Nat) : FnOK Tryz.prog gl 123 (s122 k) := mkF (G := g122 k) (ps := (s122 k).ps) (rs := (s122 k).rs) (F := (s122 k).F) mix_ok Tryz.func123 (c := b122) (by kernel_rfl) (by kernel_rfl) ⟨rfl, by kernel_rfl, rfl⟩ (ty_ok _ rfl) (c122 k) (by kernel_rfl) (by kernel_rfl) (fun C h => noLoops (by kernel_rfl)) (r122 k)
-- runs_Select
noncomputable def b123 := bodyOf Tryz.f174
noncomputable def l123_3 := subLoop b123 0
noncomputable def q123_3 (k : Nat) : LSig := ⟨⟨[], [(0, .d h1), (1, .d (.int .i64)), (8, .d h1), (9, .d (.int .i64)), (10, .d (.int .i64))]⟩, [(.exit 0, ⟨[], [(0, .d h1), (1, .d (.int .i64))]⟩)], fun x => runs_Select_l0 k x.1 x.2.1 x.2.2.1 x.2.2.2.1 x.2.2.2.2⟩
noncomputable def s123 (k : Nat) : Sig := ⟨⟨[], [(0, .d h1), (1, .d (.int .i64))]⟩, ⟨[], [(0, .d (.int .u16)), (1, .d .bool)]⟩, fun x => runs_Select k x.1 x.2⟩
noncomputable def g123 (k : Nat) := mkG 0 42 [] [(3, q123_3 k)]
theorem r123_3 (k : Nat) (x) : (q123_3 (k + 1)).F x = rL 0 (q123_3 k) (g123 k) l123_3 x := by kernel_rfl
theorem r123 (k : Nat) (x) : (s123 k).F x = rF Tryz.f174 (s123 k) (g123 k) b123 x := by kernel_rfl
theorem o123_3 (C : Ctx) (h : Is C Tryz.prog gl 0 Tryz.f174.ntmps) (k : Nat) : LoopOK C (g123 k) l123_3 := mkL h mix_ok (b := l123_3) (hd := (q123_3 0).hd) (ex := (q123_3 0).ex) (F := fun k => (q123_3 k).F) g123 (fun _ => ⟨rfl, by kernel_rfl, rfl⟩) (fun _ => ty_ok _ rfl) (fun k => callsOK_tab (G := g123 k) (tab := []) all_nil) (fun k => noLoops (by kernel_rfl)) (fun _ => rfl) r123_3 k (fun S => by kernel_rfl)
theorem k123 (k : Nat) : FnOK Tryz.prog gl 174 (s123 k) := mkF (G := g123 k) (ps := (s123 k).ps) (rs := (s123 k).rs) (F := (s123 k).F) mix_ok Tryz.func174 (c := b123) (by kernel_rfl) (by kernel_rfl) ⟨rfl, by kernel_rfl, rfl⟩ (ty_ok _ rfl) (callsOK_tab (G := g123 k) (tab := []) all_nil) (by kernel_rfl) (by kernel_rfl) (fun C h => loops_all (n := 1) (by kernel_rfl) (lt_allS lt_all0 (o123_3 C h k))) (r123 k)
-- container_Container_runsSelect
noncomputable def b124 := bodyOf Tryz.f124
noncomputable def s124 (k : Nat) : Sig := ⟨⟨[], [(0, .d h0), (1, .d (.int .i64))]⟩, ⟨[], [(0, .d (.int .u16)), (1, .d .bool)]⟩, fun x => container_Container_runsSelect k x.1 x.2⟩
noncomputable def g124 (k : Nat) := mkG 0 12 [(174, s123 k)] []
theorem r124 (k : Nat) (x) : (s124 k).F x = rF Tryz.f124 (s124 k) (g124 k) b124 x := by kernel_rfl
theorem c124 (k : Nat) : CallsOK Tryz.prog gl (g124 k) := callsOK_tab (G := g124 k) (tab := [(174, s123 k)]) (all_cons (k123 k) all_nil)
theorem k124 (k : Nat) : FnOK Tryz.prog gl 124 (s124 k) := mkF (G := g124 k) (ps := (s124 k).ps) (rs := (s124 k).rs) (F := (s124 k).F) mix_ok Tryz.func124 (c := b124) (by kernel_rfl) (by kernel_rfl) ⟨rfl, by kernel_rfl, rfl⟩ (ty_ok _ rfl) (c124 k) (by kernel_rfl) (by kernel_rfl) (fun C h => noLoops (by kernel_rfl)) (r124 k)
-- container_Container_Select
noncomputable def b125 := bodyOf Tryz.f67
noncomputable def s125 (k : Nat) : Sig := ⟨⟨[], [(0, .d h0), (1, .d (.int .i64))]⟩, ⟨[], [(0, .d (.int .u16)), (1, .d .bool)]⟩, fun x => container_Container_Select k x.1 x.2⟩
noncomputable def g125 (k : Nat) := mkG 0 15 [(81, s8 k), (122, s120 k), (123, s122 k), (124, s124 k)] []
theorem r125 (k : Nat) (x) : (s125 k).F x = rF Tryz.f67 (s125 k) (g125 k) b125 x := by kernel_rfl
theorem c125 (k : Nat) : CallsOK Tryz.prog gl (g125 k) := callsOK_tab (G := g125 k) (tab := [(81, s8 k), (122, s120 k), (123, s122 k), (124, s124 k)]) (all_cons (k8 k) (all_cons (k120 k) (all_cons (k122 k) (all_cons (k124 k) all_nil))))
theorem k125 (k : Nat) : FnOK Tryz.prog gl 67 (s125 k) := mkF (G := g125 k) (ps := (s125 k).ps) (rs := (s125 k).rs) (F := (s125 k).F) mix_ok Tryz.func67 (c := b125) (by kernel_rfl) (by kernel_rfl) ⟨rfl, by kernel_rfl, rfl⟩ (ty_ok _ rfl) (c125 k) (by kernel_rfl) (by kernel_rfl) (fun C h => noLoops (by kernel_rfl)) (r125 k)
-- roaring_Set_Select_d
noncomputable def b126 := bodyOf Tryz.f31
noncomputable def l126_5 := subLoop b126 0
noncomputable def q126_5 (k : Nat) : LSig := ⟨⟨[], [(0, .d h4), (1, .d (.int .i64)), (14, .d h2), (15, .d (.int .i64)), (16, .d (.int .i64))]⟩, [(.ret, ⟨[], [(4, .d (.int .u32)), (5, .d .bool)]⟩), (.exit 0, ⟨[], []⟩)], fun x => roaring_Set_Select_d_l0 k x.1 x.2.1 x.2.2.1 x.2.2.2.1 x.2.2.2.2⟩
noncomputable def s126 (k : Nat) : Sig := ⟨⟨[], [(0, .d h4), (1, .d (.int .i64))]⟩, ⟨[], [(0, .d (.int .u32)), (1, .d .bool)]⟩, fun x => roaring_Set_Select_d k x.1 x.2⟩
noncomputable def g126 (k : Nat) := mkG 0 49 [(50, s119 k), (51, s15 k), (67, s125 k)] [(5, q126_5 k)]
theorem r126_5 (k : Nat) (x) : (q126_5 (k + 1)).F x = rL 0 (q126_5 k) (g126 k) l126_5 x := by kernel_rfl
theorem r126 (k : Nat) (x) : (s126 k).F x = rF Tryz.f31 (s126 k) (g126 k) b126 x := by kernel_rfl
theorem c126 (k : Nat) : CallsOK Tryz.prog gl (g126 k) := callsOK_tab (G := g126 k) (tab := [(50, s119 k), (51, s15 k), (67, s125 k)]) (all_cons (k119 k) (all_cons (k15 k) (all_cons (k125 k) all_nil)))
theorem o126_5 (C : Ctx) (h : Is C Tryz.prog gl 0 Tryz.f31.ntmps) (k : Nat) : LoopOK C (g126 k) l126_5 := mkL h mix_ok (b := l126_5) (hd := (q126_5 0).hd) (ex := (q126_5 0).ex) (F := fun k => (q126_5 k).F) g126 (fun _ => ⟨rfl, by kernel_rfl, rfl⟩) (fun _ => ty_ok _ rfl) c126 (fun k => noLoops (by kernel_rfl)) (fun _ => rfl) r126_5 k (fun S => by kernel_rfl)
theorem k126 (k : Nat) : FnOK Tryz.prog gl 31 (s126 k) := mkF (G := g126 k) (ps := (s126 k).ps) (rs := (s126 k).rs) (F := (s126 k).F) mix_ok Tryz.func31 (c := b126) (by kernel_rfl) (by kernel_rfl) ⟨rfl, by kernel_rfl, rfl⟩ (ty_ok _ rfl) (c126 k) (by kernel_rfl) (by kernel_rfl) (fun C h => loops_all (n := 1) (by kernel_rfl) (lt_allS lt_all0 (o126_5 C h k))) (r126 k)
-- isinglassref08_Set_Select
noncomputable def b127 := bodyOf Tryz.f75
noncomputable def l127_6 := subLoop b127 0
noncomputable def q127_6 (k : Nat) : LSig := ⟨⟨[], [(0, .d h3), (6, .d (.int .u64)), (7, .d (.int .i64))]⟩, [(.ret, ⟨[], [(4, .d (.int .u32)), (5, .d .bool)]⟩), (.exit 0, ⟨[], []⟩)], fun x => isinglassref08_Set_Select_l0 k x.1 x.2.1 x.2.2⟩
noncomputable def s127 (k : Nat) : Sig := ⟨⟨[], [(0, .d h3), (1, .d (.int .i64))]⟩, ⟨[], [(0, .d (.int .u32)), (1, .d .bool)]⟩, fun x => isinglassref08_Set_Select k x.1 x.2⟩
noncomputable def g127 (k : Nat) := mkG 0 44 [] [(6, q127_6 k)]
theorem r127_6 (k : Nat) (x) : (q127_6 (k + 1)).F x = rL 0 (q127_6 k) (g127 k) l127_6 x := by kernel_rfl
theorem r127 (k : Nat) (x) : (s127 k).F x = rF Tryz.f75 (s127 k) (g127 k) b127 x := by kernel_rfl
theorem o127_6 (C : Ctx) (h : Is C Tryz.prog gl 0 Tryz.f75.ntmps) (k : Nat) : LoopOK C (g127 k) l127_6 := mkL h mix_ok (b := l127_6) (hd := (q127_6 0).hd) (ex := (q127_6 0).ex) (F := fun k => (q127_6 k).F) g127 (fun _ => ⟨rfl, by kernel_rfl, rfl⟩) (fun _ => ty_ok _ rfl) (fun k => callsOK_tab (G := g127 k) (tab := []) all_nil) (fun k => noLoops (by kernel_rfl)) (fun _ => rfl) r127_6 k (fun S => by kernel_rfl)
theorem k127 (k : Nat) : FnOK Tryz.prog gl 75 (s127 k) := mkF (G := g127 k) (ps := (s127 k).ps) (rs := (s127 k).rs) (F := (s127 k).F) mix_ok Tryz.func75 (c := b127) (by kernel_rfl) (by kernel_rfl) ⟨rfl, by kernel_rfl, rfl⟩ (ty_ok _ rfl) (callsOK_tab (G := g127 k) (tab := []) all_nil) (by kernel_rfl) (by kernel_rfl) (fun C h => loops_all (n := 1) (by kernel_rfl) (lt_allS lt_all0 (o127_6 C h k))) (r127 k)
-- roaring_Set_Keys_d
noncomputable def b128 := bodyOf Tryz.f40
noncomputable def s128 (k : Nat) : Sig := ⟨⟨[], [(0, .d h4)]⟩, ⟨[], [(0, .d (.sl (.int .u16)))]⟩, fun x => roaring_Set_Keys_d k x⟩
noncomputable def g128 (k : Nat) := mkG 0 10 [(55, s24 k)] []
theorem r128 (k : Nat) (x) : (s128 k).F x = rF Tryz.f40 (s128 k) (g128 k) b128 x := by kernel_rfl
theorem c128 (k : Nat) : CallsOK Tryz.prog gl (g128 k) := callsOK_tab (G := g128 k) (tab := [(55, s24 k)]) (all_cons (k24 k) all_nil)
theorem k128 (k : Nat) : FnOK Tryz.prog gl 40 (s128 k) := mkF (G := g128 k) (ps := (s128 k).ps) (rs := (s128 k).rs) (F := (s128 k).F) mix_ok Tryz.func40 (c := b128) (by kernel_rfl) (by kernel_rfl) ⟨rfl, by kernel_rfl, rfl⟩ (ty_ok _ rfl) (c128 k) (by kernel_rfl) (by kernel_rfl) (fun C h => noLoops (by kernel_rfl)) (r128 k)
-- isinglassref08_Set_Keys
noncomputable def b129 := bodyOf Tryz.f76
noncomputable def l129_4 := subLoop b129 0
noncomputable def l129_7 := subLoop l129_4 0
noncomputable def q129_7 (k : Nat) : LSig := ⟨⟨[(.tmp 3, .grow false (.int .u16) 72)], [(0, .d h3), (3, .own 0), (4, .d (.int .i64)), (5, .d (.int .u64))]⟩, [(.exit 2, ⟨[(.tmp 3, .grow false (.int .u16) 72)], [(0, .d h3), (3, .own 0), (4, .d (.int .i64))]⟩)], fun x => isinglassref08_Set_Keys_l1 k x.1 x.2.1 x.2.2.1 x.2.2.2⟩
noncomputable def q129_4 (k : Nat) : LSig := ⟨⟨[(.tmp 3, .grow false (.int .u16) 72)], [(0, .d h3), (3, .own 0), (4, .d (.int .i64))]⟩, [(.exit 0, ⟨[(.tmp 3, .grow false (.int .u16) 72)], [(3, .own 0)]⟩)], fun x => isinglassref08_Set_Keys_l0 k x.1 x.2.1 x.2.2⟩
noncomputable def s129 (k : Nat) : Sig := ⟨⟨[], [(0, .d h3)]⟩, ⟨[], [(0, .d (.sl (.int .u16)))]⟩, fun x => isinglassref08_Set_Keys k x⟩
noncomputable def g129 (k : Nat) := mkG 0 49 [] [(7, q129_7 k), (4, q129_4 k)]
theorem r129_7 (k : Nat) (x) : (q129_7 (k + 1)).F x = rL 0 (q129_7 k) (g129 k) l129_7 x := by kernel_rfl
theorem r129_4 (k : Nat) (x) : (q129_4 (k + 1)).F x = rL 0 (q129_4 k) (g129 k) l129_4 x := by kernel_rfl
theorem r129 (k : Nat) (x) : (s129 k).F x = rF Tryz.f76 (s129 k) (g129 k) b129 x := by kernel_rfl
theorem o129_7 (C : Ctx) (h : Is C Tryz.prog gl 0 Tryz.f76.ntmps) (k : Nat) : LoopOK C (g129 k) l129_7 := mkL h mix_ok (b := l129_7) (hd := (q129_7 0).hd) (ex := (q129_7 0).ex) (F := fun k => (q129_7 k).F) g129 (fun _ => ⟨rfl, by kernel_rfl, rfl⟩) (fun _ => ty_ok _ rfl) (fun k => callsOK_tab (G := g129 k) (tab := []) all_nil) (fun k => noLoops (by kernel_rfl)) (fun _ => rfl) r129_7 k (fun S => by kernel_rfl)
theorem o129_4 (C : Ctx) (h : Is C Tryz.prog gl 0 Tryz.f76.ntmps) (k : Nat) : LoopOK C (g129 k) l129_4 := mkL h mix_ok (b := l129_4) (hd := (q129_4 0).hd) (ex := (q129_4 0).ex) (F := fun k => (q129_4 k).F) g129 (fun _ => ⟨rfl, by kernel_rfl, rfl⟩) (fun _ => ty_ok _ rfl) (fun k => callsOK_tab (G := g129 k) (tab := []) all_nil) (fun k => loops_all (n := 1) (by kernel_rfl) (lt_allS lt_all0 (o129_7 C h k))) (fun _ => rfl) r129_4 k (fun S => by kernel_rfl)
theorem k129 (k : Nat) : FnOK Tryz.prog gl 76 (s129 k) := mkF (G := g129 k) (ps := (s129 k).ps) (rs := (s129 k).rs) (F := (s129 k).F) mix_ok Tryz.func76 (c := b129) (by kernel_rfl) (by kernel_rfl) ⟨rfl, by kernel_rfl, rfl⟩ (ty_ok _ rfl) (callsOK_tab (G := g129 k) (tab := []) all_nil) (by kernel_rfl) (by kernel_rfl) (fun C h => loops_all (n := 1) (by kernel_rfl) (lt_allS lt_all0 (o129_4 C h k))) (r129 k)
-- roaring_Set_Runs_d
noncomputable def b130 := bodyOf Tryz.f19
noncomputable def l130_4 := subLoop b130 0
noncomputable def l130_8 := subLoop l130_4 0
noncomputable def q130_8 (k : Nat) : LSig := ⟨⟨[(.tmp 3, .grow false (.st (.pair (.int .u64) (.int .u64))) 32)], [(0, .d h4), (3, .own 0), (6, .d (.int .u64)), (13, .d h2), (14, .d (.int .i64)), (15, .d (.int .i64)), (30, .d h1), (31, .d (.int .i64)), (32, .d (.int .i64))]⟩, [(.exit 2, ⟨[(.tmp 3, .grow false (.st (.pair (.int .u64) (.int .u64))) 32)], [(0, .d h4), (3, .own 0), (13, .d h2), (14, .d (.int .i64)), (15, .d (.int .i64))]⟩)], fun x => roaring_Set_Runs_d_l1 k x.1 x.2.1 x.2.2.1 x.2.2.2.1 x.2.2.2.2.1 x.2.2.2.2.2.1 x.2.2.2.2.2.2.1 x.2.2.2.2.2.2.2.1 x.2.2.2.2.2.2.2.2⟩
noncomputable def q130_4 (k : Nat) : LSig := ⟨⟨[(.tmp 3, .grow false (.st (.pair (.int .u64) (.int .u64))) 32)], [(0, .d h4), (3, .own 0), (13, .d h2), (14, .d (.int .i64)), (15, .d (.int .i64))]⟩, [(.exit 0, ⟨[(.tmp 3, .grow false (.st (.pair (.int .u64) (.int .u64))) 32)], [(3, .own 0)]⟩)], fun x => roaring_Set_Runs_d_l0 k x.1 x.2.1 x.2.2.1 x.2.2.2.1 x.2.2.2.2⟩
noncomputable def s130 (k : Nat) : Sig := ⟨⟨[], [(0, .d h4)]⟩, ⟨[], [(0, .d h3)]⟩, fun x => roaring_Set_Runs_d k x⟩
noncomputable def g130 (k : Nat) := mkG 0 80 [(50, s119 k), (36, s27 k)] [(8, q130_8 k), (4, q130_4 k)]
theorem r130_8 (k : Nat) (x) : (q130_8 (k + 1)).F x = rL 0 (q130_8 k) (g130 k) l130_8 x := by kernel_rfl
theorem r130_4 (k : Nat) (x) : (q130_4 (k + 1)).F x = rL 0 (q130_4 k) (g130 k) l130_4 x := by kernel_rfl
theorem r130 (k : Nat) (x) : (s130 k).F x = rF Tryz.f19 (s130 k) (g130 k) b130 x := by kernel_rfl
theorem c130 (k : Nat) : CallsOK Tryz.prog gl (g130 k) := callsOK_tab (G := g130 k) (tab := [(50, s119 k), (36, s27 k)]) (all_cons (k119 k) (all_cons (k27 k) all_nil))
theorem o130_8 (C : Ctx) (h : Is C Tryz.prog gl 0 Tryz.f19.ntmps) (k : Nat) : LoopOK C (g130 k) l130_8 := mkL h mix_ok (b := l130_8) (hd := (q130_8 0).hd) (ex := (q130_8 0).ex) (F := fun k => (q130_8 k).F) g130 (fun _ => ⟨rfl, by kernel_rfl, rfl⟩) (fun _ => ty_ok _ rfl) c130 (fun k => noLoops (by kernel_rfl)) (fun _ => rfl) r130_8 k (fun S => by kernel_rfl)
theorem o130_4 (C : Ctx) (h : Is C Tryz.prog gl 0 Tryz.f19.ntmps) (k : Nat) : LoopOK C (g130 k) l130_4 := mkL h mix_ok (b := l130_4) (hd := (q130_4 0).hd) (ex := (q130_4 0).ex) (F := fun k => (q130_4 k).F) g130 (fun _ => ⟨rfl, by kernel_rfl, rfl⟩) (fun _ => ty_ok _ rfl) c130 (fun k => loops_all (n := 1) (by kernel_rfl) (lt_allS lt_all0 (o130_8 C h k))) (fun _ => rfl) r130_4 k (fun S => by kernel_rfl)
theorem k130 (k : Nat) : FnOK Tryz.prog gl 19 (s130 k) := mkF (G := g130 k) (ps := (s130 k).ps) (rs := (s130 k).rs) (F := (s130 k).F) mix_ok Tryz.func19 (c := b130) (by kernel_rfl) (by kernel_rfl) ⟨rfl, by kernel_rfl, rfl⟩ (ty_ok _ rfl) (c130 k) (by kernel_rfl) (by kernel_rfl) (fun C h => loops_all (n := 1) (by kernel_rfl) (lt_allS lt_all0 (o130_4 C h k))) (r130 k)
-- roaring_Set_Len_d
noncomputable def b131 := bodyOf Tryz.f15
noncomputable def l131_4 := subLoop b131 0
noncomputable def q131_4 (k : Nat) : LSig := ⟨⟨[], [(3, .d (.int .i64)), (7, .d h2), (8, .d (.int .i64)), (9, .d (.int .i64))]⟩, [(.exit 0, ⟨[], [(3, .d (.int .i64))]⟩)], fun x => roaring_Set_Len_d_l0 k x.1 x.2.1 x.2.2.1 x.2.2.2⟩
noncomputable def s131 (k : Nat) : Sig := ⟨⟨[], [(0, .d h4)]⟩, ⟨[], [(0, .d (.int .i64))]⟩, fun x => roaring_Set_Len_d k x⟩
noncomputable def g131 (k : Nat) := mkG 0 19 [(50, s119 k), (51, s15 k)] [(4, q131_4 k)]
theorem r131_4 (k : Nat) (x) : (q131_4 (k + 1)).F x = rL 0 (q131_4 k) (g131 k) l131_4 x := by kernel_rfl
theorem r131 (k : Nat) (x) : (s131 k).F x = rF Tryz.f15 (s131 k) (g131 k) b131 x := by kernel_rfl
theorem c131 (k : Nat) : CallsOK Tryz.prog gl (g131 k) := callsOK_tab (G := g131 k) (tab := [(50, s119 k), (51, s15 k)]) (all_cons (k119 k) (all_cons (k15 k) all_nil))
theorem o131_4 (C : Ctx) (h : Is C Tryz.prog gl 0 Tryz.f15.ntmps) (k : Nat) : LoopOK C (g131 k) l131_4 := mkL h mix_ok (b := l131_4) (hd := (q131_4 0).hd) (ex := (q131_4 0).ex) (F := fun k => (q131_4 k).F) g131 (fun _ => ⟨rfl, by kernel_rfl, rfl⟩) (fun _ => ty_ok _ rfl) c131 (fun k => noLoops (by kernel_rfl)) (fun _ => rfl) r131_4 k (fun S => by kernel_rfl)
theorem k131 (k : Nat) : FnOK Tryz.prog gl 15 (s131 k) := mkF (G := g131 k) (ps := (s131 k).ps) (rs := (s131 k).rs) (F := (s131 k).F) mix_ok Tryz.func15 (c := b131) (by kernel_rfl) (by kernel_rfl) ⟨rfl, by kernel_rfl, rfl⟩ (ty_ok _ rfl) (c131 k) (by kernel_rfl) (by kernel_rfl) (fun C h => loops_all (n := 1) (by kernel_rfl) (lt_allS lt_all0 (o131_4 C h k))) (r131 k)
-- isinglassref08_Set_Rank
noncomputable def b132 := bodyOf Tryz.f78
noncomputable def l132_4 := subLoop b132 0
noncomputable def q132_4 (k : Nat) : LSig := ⟨⟨[], [(0, .d h3), (1, .d (.int .u64)), (5, .d (.int .u64)), (6, .d (.int .i64))]⟩, [(.exit 0, ⟨[], [(5, .d (.int .u64))]⟩)], fun x => isinglassref08_Set_Rank_l0 k x.1 x.2.1 x.2.2.1 x.2.2.2⟩
noncomputable def s132 (k : Nat) : Sig := ⟨⟨[], [(0, .d h3), (1, .d (.int .u64))]⟩, ⟨[], [(0, .d (.int .i64))]⟩, fun x => isinglassref08_Set_Rank k x.1 x.2⟩
noncomputable def g132 (k : Nat) := mkG 0 41 [] [(4, q132_4 k)]
theorem r132_4 (k : Nat) (x) : (q132_4 (k + 1)).F x = rL 0 (q132_4 k) (g132 k) l132_4 x := by kernel_rfl
theorem r132 (k : Nat) (x) : (s132 k).F x = rF Tryz.f78 (s132 k) (g132 k) b132 x := by kernel_rfl
theorem o132_4 (C : Ctx) (h : Is C Tryz.prog gl 0 Tryz.f78.ntmps) (k : Nat) : LoopOK C (g132 k) l132_4 := mkL h mix_ok (b := l132_4) (hd := (q132_4 0).hd) (ex := (q132_4 0).ex) (F := fun k => (q132_4 k).F) g132 (fun _ => ⟨rfl, by kernel_rfl, rfl⟩) (fun _ => ty_ok _ rfl) (fun k => callsOK_tab (G := g132 k) (tab := []) all_nil) (fun k => noLoops (by kernel_rfl)) (fun _ => rfl) r132_4 k (fun S => by kernel_rfl)
theorem k132 (k : Nat) : FnOK Tryz.prog gl 78 (s132 k) := mkF (G := g132 k) (ps := (s132 k).ps) (rs := (s132 k).rs) (F := (s132 k).F) mix_ok Tryz.func78 (c := b132) (by kernel_rfl) (by kernel_rfl) ⟨rfl, by kernel_rfl, rfl⟩ (ty_ok _ rfl) (callsOK_tab (G := g132 k) (tab := []) all_nil) (by kernel_rfl) (by kernel_rfl) (fun C h => loops_all (n := 1) (by kernel_rfl) (lt_allS lt_all0 (o132_4 C h k))) (r132 k)
-- isinglassref08_Set_Len
noncomputable def b133 := bodyOf Tryz.f45
noncomputable def s133 (k : Nat) : Sig := ⟨⟨[], [(0, .d h3)]⟩, ⟨[], [(0, .d (.int .i64))]⟩, fun x => isinglassref08_Set_Len k x⟩
noncomputable def g133 (k : Nat) := mkG 0 5 [(78, s132 k)] []
theorem r133 (k : Nat) (x) : (s133 k).F x = rF Tryz.f45 (s133 k) (g133 k) b133 x := by kernel_rfl
theorem c133 (k : Nat) : CallsOK Tryz.prog gl (g133 k) := callsOK_tab (G := g133 k) (tab := [(78, s132 k)]) (all_cons (k132 k) all_nil)
theorem k133 (k : Nat) : FnOK Tryz.prog gl 45 (s133 k) := mkF (G := g133 k) (ps := (s133 k).ps) (rs := (s133 k).rs) (F := (s133 k).F) mix_ok Tryz.func45 (c := b133) (by kernel_rfl) (by kernel_rfl) ⟨rfl, by kernel_rfl, rfl⟩ (ty_ok _ rfl) (c133 k) (by kernel_rfl) (by kernel_rfl) (fun C h => noLoops (by kernel_rfl)) (r133 k)
-- roaring_Set_find_d
noncomputable def b134 := bodyOf Tryz.f86
noncomputable def s134 (k : Nat) : Sig := ⟨⟨[], [(0, .d h4), (1, .d (.int .u16))]⟩, ⟨[], [(0, .d (.int .i64)), (1, .d .bool)]⟩, fun x => roaring_Set_find_d k x.1 x.2⟩
noncomputable def g134 (k : Nat) := mkG 0 16 [(128, s73 k)] []
theorem r134 (k : Nat) (x) : (s134 k).F x = rF Tryz.f86 (s134 k) (g134 k) b134 x := by kernel_rfl
theorem c134 (k : Nat) : CallsOK Tryz.prog gl (g134 k) := callsOK_tab (G := g134 k) (tab := [(128, s73 k)]) (all_cons (k73 k) all_nil)
theorem k134 (k : Nat) : FnOK Tryz.prog gl 86 (s134 k) := mkF (G := g134 k) (ps := (s134 k).ps) (rs := (s134 k).rs) (F := (s134 k).F) mix_ok Tryz.func86 (c := b134) (by kernel_rfl) (by kernel_rfl) ⟨rfl, by kernel_rfl, rfl⟩ (ty_ok _ rfl) (c134 k) (by kernel_rfl) (by kernel_rfl) (fun C h => noLoops (by kernel_rfl)) (r134 k)
-- roaring_Set_get_d
noncomputable def b135 := bodyOf Tryz.f47
noncomputable def s135 (k : Nat) : Sig := ⟨⟨[], [(0, .d h4), (1, .d (.int .u16))]⟩, ⟨[], [(0, .d h0)]⟩, fun x => roaring_Set_get_d k x.1 x.2⟩
noncomputable def g135 (k : Nat) := mkG 0 22 [(86, s134 k)] []
theorem r135 (k : Nat) (x) : (s135 k).F x = rF Tryz.f47 (s135 k) (g135 k) b135 x := by kernel_rfl
theorem c135 (k : Nat) : CallsOK Tryz.prog gl (g135 k) := callsOK_tab (G := g135 k) (tab := [(86, s134 k)]) (all_cons (k134 k) all_nil)
theorem k135 (k : Nat) : FnOK Tryz.prog gl 47 (s135 k) := mkF (G := g135 k) (ps := (s135 k).ps) (rs := (s135 k).rs) (F := (s135 k).F) mix_ok Tryz.func47 (c := b135) (by kernel_rfl) (by kernel_rfl) ⟨rfl, by kernel_rfl, rfl⟩ (ty_ok _ rfl) (c135 k) (by kernel_rfl) (by kernel_rfl) (fun C h => noLoops (by kernel_rfl)) (r135 k)
-- roaring_Set_Has_d
noncomputable def b136 := bodyOf Tryz.f20
noncomputable def s136 (k : Nat) : Sig := ⟨⟨[], [(0, .d h4), (1, .d (.int .u32))]⟩, ⟨[], [(0, .d .bool)]⟩, fun x => roaring_Set_Has_d k x.1 x.2⟩
noncomputable def g136 (k : Nat) := mkG 0 13 [(47, s135 k), (54, s82 k)] []
theorem r136 (k : Nat) (x) : (s136 k).F x = rF Tryz.f20 (s136 k) (g136 k) b136 x := by kernel_rfl
theorem c136 (k : Nat) : CallsOK Tryz.prog gl (g136 k) := callsOK_tab (G := g136 k) (tab := [(47, s135 k), (54, s82 k)]) (all_cons (k135 k) (all_cons (k82 k) all_nil))
theorem k136 (k : Nat) : FnOK Tryz.prog gl 20 (s136 k) := mkF (G := g136 k) (ps := (s136 k).ps) (rs := (s136 k).rs) (F := (s136 k).F) mix_ok Tryz.func20 (c := b136) (by kernel_rfl) (by kernel_rfl) ⟨rfl, by kernel_rfl, rfl⟩ (ty_ok _ rfl) (c136 k) (by kernel_rfl) (by kernel_rfl) (fun C h => noLoops (by kernel_rfl)) (r136 k)
-- isinglassref08_Set_Has
noncomputable def b137 := bodyOf Tryz.f77
noncomputable def l137_3 := subLoop b137 0
noncomputable def q137_3 (k : Nat) : LSig := ⟨⟨[], [(0, .d h3), (1, .d (.int .u64)), (5, .d (.int .i64))]⟩, [(.ret, ⟨[], [(4, .d .bool)]⟩), (.exit 0, ⟨[], []⟩)], fun x => isinglassref08_Set_Has_l0 k x.1 x.2.1 x.2.2⟩
noncomputable def s137 (k : Nat) : Sig := ⟨⟨[], [(0, .d h3), (1, .d (.int .u64))]⟩, ⟨[], [(0, .d .bool)]⟩, fun x => isinglassref08_Set_Has k x.1 x.2⟩
noncomputable def g137 (k : Nat) := mkG 0 28 [] [(3, q137_3 k)]
theorem r137_3 (k : Nat) (x) : (q137_3 (k + 1)).F x = rL 0 (q137_3 k) (g137 k) l137_3 x := by kernel_rfl
theorem r137 (k : Nat) (x) : (s137 k).F x = rF Tryz.f77 (s137 k) (g137 k) b137 x := by kernel_rfl
theorem o137_3 (C : Ctx) (h : Is C Tryz.prog gl 0 Tryz.f77.ntmps) (k : Nat) : LoopOK C (g137 k) l137_3 := mkL h mix_ok (b := l137_3) (hd := (q137_3 0).hd) (ex := (q137_3 0).ex) (F := fun k => (q137_3 k).F) g137 (fun _ => ⟨rfl, by kernel_rfl, rfl⟩) (fun _ => ty_ok _ rfl) (fun k => callsOK_tab (G := g137 k) (tab := []) all_nil) (fun k => noLoops (by kernel_rfl)) (fun _ => rfl) r137_3 k (fun S => by kernel_rfl)
theorem k137 (k : Nat) : FnOK Tryz.prog gl 77 (s137 k) := mkF (G := g137 k) (ps := (s137 k).ps) (rs := (s137 k).rs) (F := (s137 k).F) mix_ok Tryz.func77 (c := b137) (by kernel_rfl) (by kernel_rfl) ⟨rfl, by kernel_rfl, rfl⟩ (ty_ok _ rfl) (callsOK_tab (G := g137 k) (tab := []) all_nil) (by kernel_rfl) (by kernel_rfl) (fun C h => loops_all (n := 1) (by kernel_rfl) (lt_allS lt_all0 (o137_3 C h k))) (r137 k)
-- roaring_Set_Rank_d
noncomputable def b138 := bodyOf Tryz.f16
noncomputable def l138_6 := subLoop b138 0
noncomputable def q138_6 (k : Nat) : LSig := ⟨⟨[], [(0, .d h4), (1, .d (.int .u64)), (5, .d (.int .i64)), (14, .d h2), (15, .d (.int .i64)), (16, .d (.int .i64))]⟩, [(.exit 0, ⟨[], [(5, .d (.int .i64))]⟩)], fun x => roaring_Set_Rank_d_l0 k x.1 x.2.1 x.2.2.1 x.2.2.2.1 x.2.2.2.2.1 x.2.2.2.2.2⟩
noncomputable def s138 (k : Nat) : Sig := ⟨⟨[], [(0, .d h4), (1, .d (.int .u64))]⟩, ⟨[], [(0, .d (.int .i64))]⟩, fun x => roaring_Set_Rank_d k x.1 x.2⟩
noncomputable def g138 (k : Nat) := mkG 0 52 [(15, s131 k), (50, s119 k), (51, s15 k), (52, s110 k)] [(6, q138_6 k)]
theorem r138_6 (k : Nat) (x) : (q138_6 (k + 1)).F x = rL 0 (q138_6 k) (g138 k) l138_6 x := by kernel_rfl
theorem r138 (k : Nat) (x) : (s138 k).F x = rF Tryz.f16 (s138 k) (g138 k) b138 x := by kernel_rfl
theorem c138 (k : Nat) : CallsOK Tryz.prog gl (g138 k) := callsOK_tab (G := g138 k) (tab := [(15, s131 k), (50, s119 k), (51, s15 k), (52, s110 k)]) (all_cons (k131 k) (all_cons (k119 k) (all_cons (k15 k) (all_cons (k110 k) all_nil))))
theorem o138_6 (C : Ctx) (h : Is C Tryz.prog gl 0 Tryz.f16.ntmps) (k : Nat) : LoopOK C (g138 k) l138_6 := mkL h mix_ok (b := l138_6) (hd := (q138_6 0).hd) (ex := (q138_6 0).ex) (F := fun k => (q138_6 k).F) g138 (fun _ => ⟨rfl, by kernel_rfl, rfl⟩) (fun _ => ty_ok _ rfl) c138 (fun k => noLoops (by kernel_rfl)) (fun _ => rfl) r138_6 k (fun S => by kernel_rfl)
theorem k138 (k : Nat) : FnOK Tryz.prog gl 16 (s138 k) := mkF (G := g138 k) (ps := (s138 k).ps) (rs := (s138 k).rs) (F := (s138 k).F) mix_ok Tryz.func16 (c := b138) (by kernel_rfl) (by kernel_rfl) ⟨rfl, by kernel_rfl, rfl⟩ (ty_ok _ rfl) (c138 k) (by kernel_rfl) (by kernel_rfl) (fun C h => loops_all (n := 1) (by kernel_rfl) (lt_allS lt_all0 (o138_6 C h k))) (r138 k)
-- isinglassref04_Same
noncomputable def b139 := bodyOf Tryz.f79
noncomputable def l139_5 := subLoop b139 0
noncomputable def q139_5 (k : Nat) : LSig := ⟨⟨[], [(0, .d (.sl (.int .u16))), (1, .d (.sl (.int .u16))), (5, .d (.int .i64))]⟩, [(.ret, ⟨[], [(4, .d .bool)]⟩), (.exit 0, ⟨[], []⟩)], fun x => isinglassref04_Same_l0 k x.1 x.2.1 x.2.2⟩
noncomputable def s139 (k : Nat) : Sig := ⟨⟨[], [(0, .d (.sl (.int .u16))), (1, .d (.sl (.int .u16)))]⟩, ⟨[], [(0, .d .bool)]⟩, fun x => isinglassref04_Same k x.1 x.2⟩
noncomputable def g139 (k : Nat) := mkG 0 26 [] [(5, q139_5 k)]
theorem r139_5 (k : Nat) (x) : (q139_5 (k + 1)).F x = rL 0 (q139_5 k) (g139 k) l139_5 x := by kernel_rfl
theorem r139 (k : Nat) (x) : (s139 k).F x = rF Tryz.f79 (s139 k) (g139 k) b139 x := by kernel_rfl
theorem o139_5 (C : Ctx) (h : Is C Tryz.prog gl 0 Tryz.f79.ntmps) (k : Nat) : LoopOK C (g139 k) l139_5 := mkL h mix_ok (b := l139_5) (hd := (q139_5 0).hd) (ex := (q139_5 0).ex) (F := fun k => (q139_5 k).F) g139 (fun _ => ⟨rfl, by kernel_rfl, rfl⟩) (fun _ => ty_ok _ rfl) (fun k => callsOK_tab (G := g139 k) (tab := []) all_nil) (fun k => noLoops (by kernel_rfl)) (fun _ => rfl) r139_5 k (fun S => by kernel_rfl)
theorem k139 (k : Nat) : FnOK Tryz.prog gl 79 (s139 k) := mkF (G := g139 k) (ps := (s139 k).ps) (rs := (s139 k).rs) (F := (s139 k).F) mix_ok Tryz.func79 (c := b139) (by kernel_rfl) (by kernel_rfl) ⟨rfl, by kernel_rfl, rfl⟩ (ty_ok _ rfl) (callsOK_tab (G := g139 k) (tab := []) all_nil) (by kernel_rfl) (by kernel_rfl) (fun C h => loops_all (n := 1) (by kernel_rfl) (lt_allS lt_all0 (o139_5 C h k))) (r139 k)
-- roaring_Set_At_d
noncomputable def b140 := bodyOf Tryz.f41
noncomputable def s140 (k : Nat) : Sig := ⟨⟨[], [(0, .d h4), (1, .d (.int .i64))]⟩, ⟨[], [(0, .d h0), (1, .d .bool)]⟩, fun x => roaring_Set_At_d k x.1 x.2⟩
noncomputable def g140 (k : Nat) := mkG 0 23 [(50, s119 k)] []
theorem r140 (k : Nat) (x) : (s140 k).F x = rF Tryz.f41 (s140 k) (g140 k) b140 x := by kernel_rfl
theorem c140 (k : Nat) : CallsOK Tryz.prog gl (g140 k) := callsOK_tab (G := g140 k) (tab := [(50, s119 k)]) (all_cons (k119 k) all_nil)
theorem k140 (k : Nat) : FnOK Tryz.prog gl 41 (s140 k) := mkF (G := g140 k) (ps := (s140 k).ps) (rs := (s140 k).rs) (F := (s140 k).F) mix_ok Tryz.func41 (c := b140) (by kernel_rfl) (by kernel_rfl) ⟨rfl, by kernel_rfl, rfl⟩ (ty_ok _ rfl) (c140 k) (by kernel_rfl) (by kernel_rfl) (fun C h => noLoops (by kernel_rfl)) (r140 k)
-- isinglassref08_Span
noncomputable def b141 := bodyOf Tryz.f13
noncomputable def s141 (k : Nat) : Sig := ⟨⟨[], [(0, .d (.int .u64)), (1, .d (.int .u64))]⟩, ⟨[], [(0, .d h3)]⟩, fun x => isinglassref08_Span k x.1 x.2⟩
noncomputable def g141 (k : Nat) := mkG 0 14 [] []
theorem r141 (k : Nat) (x) : (s141 k).F x = rF Tryz.f13 (s141 k) (g141 k) b141 x := by kernel_rfl
theorem k141 (k : Nat) : FnOK Tryz.prog gl 13 (s141 k) := mkF (G := g141 k) (ps := (s141 k).ps) (rs := (s141 k).rs) (F := (s141 k).F) mix_ok Tryz.func13 (c := b141) (by kernel_rfl) (by kernel_rfl) ⟨rfl, by kernel_rfl, rfl⟩ (ty_ok _ rfl) (callsOK_tab (G := g141 k) (tab := []) all_nil) (by kernel_rfl) (by kernel_rfl) (fun C h => noLoops (by kernel_rfl)) (r141 k)
-- isinglassref08_Set_edge
noncomputable def b142 := bodyOf Tryz.f84
noncomputable def s142 (k : Nat) : Sig := ⟨⟨[], [(0, .d h3), (1, .d (.int .i64)), (2, .d .bool)]⟩, ⟨[], [(0, .d (.int .u64))]⟩, fun x => isinglassref08_Set_edge k x.1 x.2.1 x.2.2⟩
noncomputable def g142 (k : Nat) := mkG 0 24 [] []
theorem r142 (k : Nat) (x) : (s142 k).F x = rF Tryz.f84 (s142 k) (g142 k) b142 x := by kernel_rfl
theorem k142 (k : Nat) : FnOK Tryz.prog gl 84 (s142 k) := mkF (G := g142 k) (ps := (s142 k).ps) (rs := (s142 k).rs) (F := (s142 k).F) mix_ok Tryz.func84 (c := b142) (by kernel_rfl) (by kernel_rfl) ⟨rfl, by kernel_rfl, rfl⟩ (ty_ok _ rfl) (callsOK_tab (G := g142 k) (tab := []) all_nil) (by kernel_rfl) (by kernel_rfl) (fun C h => noLoops (by kernel_rfl)) (r142 k)
-- isinglassref08_in
noncomputable def b143 := bodyOf Tryz.f85
noncomputable def s143 (k : Nat) : Sig := ⟨⟨[], [(0, .d .bool), (1, .d .bool), (2, .d (.int .i64))]⟩, ⟨[], [(0, .d .bool)]⟩, fun x => isinglassref08_in k x.1 x.2.1 x.2.2⟩
noncomputable def g143 (k : Nat) := mkG 0 30 [] []
theorem r143 (k : Nat) (x) : (s143 k).F x = rF Tryz.f85 (s143 k) (g143 k) b143 x := by kernel_rfl
theorem k143 (k : Nat) : FnOK Tryz.prog gl 85 (s143 k) := mkF (G := g143 k) (ps := (s143 k).ps) (rs := (s143 k).rs) (F := (s143 k).F) mix_ok Tryz.func85 (c := b143) (by kernel_rfl) (by kernel_rfl) ⟨rfl, by kernel_rfl, rfl⟩ (ty_ok _ rfl) (callsOK_tab (G := g143 k) (tab := []) all_nil) (by kernel_rfl) (by kernel_rfl) (fun C h => noLoops (by kernel_rfl)) (r143 k)
-- isinglassref08_Both
noncomputable def b144 := bodyOf Tryz.f43
noncomputable def l144_6 := subLoop b144 0
noncomputable def q144_6 (k : Nat) : LSig := ⟨⟨[(.tmp 7, .grow false (.st (.pair (.int .u64) (.int .u64))) 32)], [(0, .d h3), (1, .d h3), (2, .d (.int .i64)), (7, .own 0), (8, .d (.int .i64)), (9, .d (.int .i64)), (10, .d .bool), (11, .d .bool), (12, .d (.int .u64))]⟩, [(.exit 0, ⟨[(.tmp 7, .grow false (.st (.pair (.int .u64) (.int .u64))) 32)], [(7, .own 0)]⟩)], fun x => isinglassref08_Both_l0 k x.1 x.2.1 x.2.2.1 x.2.2.2.1 x.2.2.2.2.1 x.2.2.2.2.2.1 x.2.2.2.2.2.2.1 x.2.2.2.2.2.2.2.1 x.2.2.2.2.2.2.2.2⟩
noncomputable def s144 (k : Nat) : Sig := ⟨⟨[], [(0, .d h3), (1, .d h3), (2, .d (.int .i64))]⟩, ⟨[], [(0, .d h3)]⟩, fun x => isinglassref08_Both k x.1 x.2.1 x.2.2⟩
noncomputable def g144 (k : Nat) := mkG 0 93 [(84, s142 k), (85, s143 k)] [(6, q144_6 k)]
theorem r144_6 (k : Nat) (x) : (q144_6 (k + 1)).F x = rL 0 (q144_6 k) (g144 k) l144_6 x := by kernel_rfl
theorem r144 (k : Nat) (x) : (s144 k).F x = rF Tryz.f43 (s144 k) (g144 k) b144 x := by kernel_rfl
theorem c144 (k : Nat) : CallsOK Tryz.prog gl (g144 k) := callsOK_tab (G := g144 k) (tab := [(84, s142 k), (85, s143 k)]) (all_cons (k142 k) (all_cons (k143 k) all_nil))
theorem o144_6 (C : Ctx) (h : Is C Tryz.prog gl 0 Tryz.f43.ntmps) (k : Nat) : LoopOK C (g144 k) l144_6 := mkL h mix_ok (b := l144_6) (hd := (q144_6 0).hd) (ex := (q144_6 0).ex) (F := fun k => (q144_6 k).F) g144 (fun _ => ⟨rfl, by kernel_rfl, rfl⟩) (fun _ => ty_ok _ rfl) c144 (fun k => noLoops (by kernel_rfl)) (fun _ => rfl) r144_6 k (fun S => by kernel_rfl)
theorem k144 (k : Nat) : FnOK Tryz.prog gl 43 (s144 k) := mkF (G := g144 k) (ps := (s144 k).ps) (rs := (s144 k).rs) (F := (s144 k).F) mix_ok Tryz.func43 (c := b144) (by kernel_rfl) (by kernel_rfl) ⟨rfl, by kernel_rfl, rfl⟩ (ty_ok _ rfl) (c144 k) (by kernel_rfl) (by kernel_rfl) (fun C h => loops_all (n := 1) (by kernel_rfl) (lt_allS lt_all0 (o144_6 C h k))) (r144 k)
end Go.Rx.Tryz

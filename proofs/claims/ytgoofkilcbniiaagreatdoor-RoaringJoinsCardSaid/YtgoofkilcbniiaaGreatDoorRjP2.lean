/- Printed by gen.py: each function comes to its pure function. -/
import Derived.Test.YtgoofkilcbniiaaGreatDoorRjP1
namespace Go.Rx.Tryz
open Go.Proofs
set_option linter.unusedVariables false
set_option maxRecDepth 100000
-- isinglassref08_Set_Block
noncomputable def b145 := bodyOf Tryz.f80
noncomputable def l145_6 := subLoop b145 0
noncomputable def l145_9 := subLoop l145_6 0
noncomputable def q145_9 (k : Nat) : LSig := ⟨⟨[(.tmp 5, .arr .bool)], [(5, .ptr 0 0), (6, .d (.int .u64)), (7, .d h3), (8, .d (.int .i64)), (9, .d (.int .u64))]⟩, [(.exit 2, ⟨[(.tmp 5, .arr .bool)], [(5, .ptr 0 0), (6, .d (.int .u64)), (7, .d h3), (8, .d (.int .i64))]⟩)], fun x => isinglassref08_Set_Block_l1 k x.1 x.2.1 x.2.2.1 x.2.2.2.1 x.2.2.2.2⟩
noncomputable def q145_6 (k : Nat) : LSig := ⟨⟨[(.tmp 5, .arr .bool)], [(5, .ptr 0 0), (6, .d (.int .u64)), (7, .d h3), (8, .d (.int .i64))]⟩, [(.exit 0, ⟨[(.tmp 5, .arr .bool)], [(5, .ptr 0 0)]⟩)], fun x => isinglassref08_Set_Block_l0 k x.1 x.2.1 x.2.2.1 x.2.2.2⟩
noncomputable def s145 (k : Nat) : Sig := ⟨⟨[], [(0, .d h3), (1, .d (.int .u16))]⟩, ⟨[(.tmp 0, .arr .bool)], [(0, .ptr 0 0)]⟩, fun x => isinglassref08_Set_Block k x.1 x.2⟩
noncomputable def g145 (k : Nat) := mkG 0 48 [(13, s141 k), (43, s144 k)] [(9, q145_9 k), (6, q145_6 k)]
theorem r145_9 (k : Nat) (x) : (q145_9 (k + 1)).F x = rL 0 (q145_9 k) (g145 k) l145_9 x := by kernel_rfl
theorem r145_6 (k : Nat) (x) : (q145_6 (k + 1)).F x = rL 0 (q145_6 k) (g145 k) l145_6 x := by kernel_rfl
theorem r145 (k : Nat) (x) : (s145 k).F x = rF Tryz.f80 (s145 k) (g145 k) b145 x := by kernel_rfl
theorem c145 (k : Nat) : CallsOK Tryz.prog gl (g145 k) := callsOK_tab (G := g145 k) (tab := [(13, s141 k), (43, s144 k)]) (all_cons (k141 k) (all_cons (k144 k) all_nil))
theorem o145_9 (C : Ctx) (h : Is C Tryz.prog gl 0 Tryz.f80.ntmps) (k : Nat) : LoopOK C (g145 k) l145_9 := mkL h mix_ok (b := l145_9) (hd := (q145_9 0).hd) (ex := (q145_9 0).ex) (F := fun k => (q145_9 k).F) g145 (fun _ => ⟨rfl, by kernel_rfl, rfl⟩) (fun _ => ty_ok _ rfl) c145 (fun k => noLoops (by kernel_rfl)) (fun _ => rfl) r145_9 k (fun S => by kernel_rfl)
theorem o145_6 (C : Ctx) (h : Is C Tryz.prog gl 0 Tryz.f80.ntmps) (k : Nat) : LoopOK C (g145 k) l145_6 := mkL h mix_ok (b := l145_6) (hd := (q145_6 0).hd) (ex := (q145_6 0).ex) (F := fun k => (q145_6 k).F) g145 (fun _ => ⟨rfl, by kernel_rfl, rfl⟩) (fun _ => ty_ok _ rfl) c145 (fun k => loops_all (n := 1) (by kernel_rfl) (lt_allS lt_all0 (o145_9 C h k))) (fun _ => rfl) r145_6 k (fun S => by kernel_rfl)
theorem k145 (k : Nat) : FnOK Tryz.prog gl 80 (s145 k) := mkF (G := g145 k) (ps := (s145 k).ps) (rs := (s145 k).rs) (F := (s145 k).F) mix_ok Tryz.func80 (c := b145) (by kernel_rfl) (by kernel_rfl) ⟨rfl, by kernel_rfl, rfl⟩ (ty_ok _ rfl) (c145 k) (by kernel_rfl) (by kernel_rfl) (fun C h => loops_all (n := 1) (by kernel_rfl) (lt_allS lt_all0 (o145_6 C h k))) (r145 k)
-- isinglassref04_Marks_List
noncomputable def b146 := bodyOf Tryz.f83
noncomputable def l146_4 := subLoop b146 0
noncomputable def q146_4 (k : Nat) : LSig := ⟨⟨[(.pin 0, .arr .bool), (.tmp 3, .grow false (.int .u16) 72)], [(0, .ptr 0 0), (3, .own 1), (4, .d (.int .i64))]⟩, [(.exit 0, ⟨[(.pin 0, .arr .bool), (.tmp 3, .grow false (.int .u16) 72)], [(3, .own 1)]⟩)], fun x => isinglassref04_Marks_List_l0 k x.1 x.2.1 x.2.2⟩
noncomputable def s146 (k : Nat) : Sig := ⟨⟨[(.pin 0, .arr .bool)], [(0, .ptr 0 0)]⟩, ⟨[(.pin 0, .arr .bool)], [(0, .d (.sl (.int .u16)))]⟩, fun x => isinglassref04_Marks_List k x⟩
noncomputable def g146 (k : Nat) := mkG 1 20 [] [(4, q146_4 k)]
theorem r146_4 (k : Nat) (x) : (q146_4 (k + 1)).F x = rL 1 (q146_4 k) (g146 k) l146_4 x := by kernel_rfl
theorem r146 (k : Nat) (x) : (s146 k).F x = rF Tryz.f83 (s146 k) (g146 k) b146 x := by kernel_rfl
theorem o146_4 (C : Ctx) (h : Is C Tryz.prog gl 1 Tryz.f83.ntmps) (k : Nat) : LoopOK C (g146 k) l146_4 := mkL h mix_ok (b := l146_4) (hd := (q146_4 0).hd) (ex := (q146_4 0).ex) (F := fun k => (q146_4 k).F) g146 (fun _ => ⟨rfl, by kernel_rfl, rfl⟩) (fun _ => ty_ok _ rfl) (fun k => callsOK_tab (G := g146 k) (tab := []) all_nil) (fun k => noLoops (by kernel_rfl)) (fun _ => rfl) r146_4 k (fun S => by kernel_rfl)
theorem k146 (k : Nat) : FnOK Tryz.prog gl 83 (s146 k) := mkF (G := g146 k) (ps := (s146 k).ps) (rs := (s146 k).rs) (F := (s146 k).F) mix_ok Tryz.func83 (c := b146) (by kernel_rfl) (by kernel_rfl) ⟨rfl, by kernel_rfl, rfl⟩ (ty_ok _ rfl) (callsOK_tab (G := g146 k) (tab := []) all_nil) (by kernel_rfl) (by kernel_rfl) (fun C h => loops_all (n := 1) (by kernel_rfl) (lt_allS lt_all0 (o146_4 C h k))) (r146 k)
-- isinglassref04_Marks_Runs
noncomputable def b147 := bodyOf Tryz.f127
noncomputable def l147_4 := subLoop b147 0
noncomputable def q147_4 (k : Nat) : LSig := ⟨⟨[(.pin 0, .arr .bool)], [(0, .ptr 0 0), (3, .d (.int .i64)), (4, .d (.int .i64))]⟩, [(.exit 0, ⟨[(.pin 0, .arr .bool)], [(3, .d (.int .i64))]⟩)], fun x => isinglassref04_Marks_Runs_l0 k x.1 x.2.1 x.2.2⟩
noncomputable def s147 (k : Nat) : Sig := ⟨⟨[(.pin 0, .arr .bool)], [(0, .ptr 0 0)]⟩, ⟨[(.pin 0, .arr .bool)], [(0, .d (.int .i64))]⟩, fun x => isinglassref04_Marks_Runs k x⟩
noncomputable def g147 (k : Nat) := mkG 1 30 [] [(4, q147_4 k)]
theorem r147_4 (k : Nat) (x) : (q147_4 (k + 1)).F x = rL 1 (q147_4 k) (g147 k) l147_4 x := by kernel_rfl
theorem r147 (k : Nat) (x) : (s147 k).F x = rF Tryz.f127 (s147 k) (g147 k) b147 x := by kernel_rfl
theorem o147_4 (C : Ctx) (h : Is C Tryz.prog gl 1 Tryz.f127.ntmps) (k : Nat) : LoopOK C (g147 k) l147_4 := mkL h mix_ok (b := l147_4) (hd := (q147_4 0).hd) (ex := (q147_4 0).ex) (F := fun k => (q147_4 k).F) g147 (fun _ => ⟨rfl, by kernel_rfl, rfl⟩) (fun _ => ty_ok _ rfl) (fun k => callsOK_tab (G := g147 k) (tab := []) all_nil) (fun k => noLoops (by kernel_rfl)) (fun _ => rfl) r147_4 k (fun S => by kernel_rfl)
theorem k147 (k : Nat) : FnOK Tryz.prog gl 127 (s147 k) := mkF (G := g147 k) (ps := (s147 k).ps) (rs := (s147 k).rs) (F := (s147 k).F) mix_ok Tryz.func127 (c := b147) (by kernel_rfl) (by kernel_rfl) ⟨rfl, by kernel_rfl, rfl⟩ (ty_ok _ rfl) (callsOK_tab (G := g147 k) (tab := []) all_nil) (by kernel_rfl) (by kernel_rfl) (fun C h => loops_all (n := 1) (by kernel_rfl) (lt_allS lt_all0 (o147_4 C h k))) (r147 k)
-- isinglassref07_Kind
noncomputable def b148 := bodyOf Tryz.f82
noncomputable def s148 (k : Nat) : Sig := ⟨⟨[(.pin 0, .arr .bool)], [(0, .ptr 0 0)]⟩, ⟨[(.pin 0, .arr .bool)], [(0, .d (.int .u8))]⟩, fun x => isinglassref07_Kind k x⟩
noncomputable def g148 (k : Nat) := mkG 1 24 [(83, s146 k), (127, s147 k)] []
theorem r148 (k : Nat) (x) : (s148 k).F x = rF Tryz.f82 (s148 k) (g148 k) b148 x := by kernel_rfl
theorem c148 (k : Nat) : CallsOK Tryz.prog gl (g148 k) := callsOK_tab (G := g148 k) (tab := [(83, s146 k), (127, s147 k)]) (all_cons (k146 k) (all_cons (k147 k) all_nil))
theorem k148 (k : Nat) : FnOK Tryz.prog gl 82 (s148 k) := mkF (G := g148 k) (ps := (s148 k).ps) (rs := (s148 k).rs) (F := (s148 k).F) mix_ok Tryz.func82 (c := b148) (by kernel_rfl) (by kernel_rfl) ⟨rfl, by kernel_rfl, rfl⟩ (ty_ok _ rfl) (c148 k) (by kernel_rfl) (by kernel_rfl) (fun C h => noLoops (by kernel_rfl)) (r148 k)
-- isinglasslaw08_is
noncomputable def b149 := bodyOf Tryz.f39
noncomputable def s149 (k : Nat) : Sig := ⟨⟨[], [(0, .d h4), (1, .d h3), (2, .d (.int .u32)), (3, .d (.int .u64)), (4, .d (.int .i64))]⟩, ⟨[], [(0, .d .bool)]⟩, fun x => isinglasslaw08_is k x.1 x.2.1 x.2.2.1 x.2.2.2.1 x.2.2.2.2⟩
noncomputable def g149 (k : Nat) := mkG 0 145 [(31, s126 k), (75, s127 k), (40, s128 k), (76, s129 k), (19, s130 k), (18, s112 k), (15, s131 k), (45, s133 k), (20, s136 k), (77, s137 k), (16, s138 k), (78, s132 k), (79, s139 k), (41, s140 k), (80, s145 k), (81, s8 k), (82, s148 k), (64, s25 k), (83, s146 k)] []
theorem r149 (k : Nat) (x) : (s149 k).F x = rF Tryz.f39 (s149 k) (g149 k) b149 x := by kernel_rfl
theorem c149 (k : Nat) : CallsOK Tryz.prog gl (g149 k) := callsOK_tab (G := g149 k) (tab := [(31, s126 k), (75, s127 k), (40, s128 k), (76, s129 k), (19, s130 k), (18, s112 k), (15, s131 k), (45, s133 k), (20, s136 k), (77, s137 k), (16, s138 k), (78, s132 k), (79, s139 k), (41, s140 k), (80, s145 k), (81, s8 k), (82, s148 k), (64, s25 k), (83, s146 k)]) (all_cons (k126 k) (all_cons (k127 k) (all_cons (k128 k) (all_cons (k129 k) (all_cons (k130 k) (all_cons (k112 k) (all_cons (k131 k) (all_cons (k133 k) (all_cons (k136 k) (all_cons (k137 k) (all_cons (k138 k) (all_cons (k132 k) (all_cons (k139 k) (all_cons (k140 k) (all_cons (k145 k) (all_cons (k8 k) (all_cons (k148 k) (all_cons (k25 k) (all_cons (k146 k) all_nil)))))))))))))))))))
theorem k149 (k : Nat) : FnOK Tryz.prog gl 39 (s149 k) := mkF (G := g149 k) (ps := (s149 k).ps) (rs := (s149 k).rs) (F := (s149 k).F) mix_ok Tryz.func39 (c := b149) (by kernel_rfl) (by kernel_rfl) ⟨rfl, by kernel_rfl, rfl⟩ (ty_ok _ rfl) (c149 k) (by kernel_rfl) (by kernel_rfl) (fun C h => noLoops (by kernel_rfl)) (r149 k)
-- slices_Equal_Span
noncomputable def b150 := bodyOf Tryz.f53
noncomputable def l150_5 := subLoop b150 0
noncomputable def q150_5 (k : Nat) : LSig := ⟨⟨[], [(0, .d h3), (1, .d h3), (12, .d (.int .i64)), (13, .d (.int .i64))]⟩, [(.ret, ⟨[], [(4, .d .bool)]⟩), (.exit 0, ⟨[], []⟩)], fun x => slices_Equal_Span_l0 k x.1 x.2.1 x.2.2.1 x.2.2.2⟩
noncomputable def s150 (k : Nat) : Sig := ⟨⟨[], [(0, .d h3), (1, .d h3)]⟩, ⟨[], [(0, .d .bool)]⟩, fun x => slices_Equal_Span k x.1 x.2⟩
noncomputable def g150 (k : Nat) := mkG 0 26 [] [(5, q150_5 k)]
theorem r150_5 (k : Nat) (x) : (q150_5 (k + 1)).F x = rL 0 (q150_5 k) (g150 k) l150_5 x := by kernel_rfl
theorem r150 (k : Nat) (x) : (s150 k).F x = rF Tryz.f53 (s150 k) (g150 k) b150 x := by kernel_rfl
theorem o150_5 (C : Ctx) (h : Is C Tryz.prog gl 0 Tryz.f53.ntmps) (k : Nat) : LoopOK C (g150 k) l150_5 := mkL h mix_ok (b := l150_5) (hd := (q150_5 0).hd) (ex := (q150_5 0).ex) (F := fun k => (q150_5 k).F) g150 (fun _ => ⟨rfl, by kernel_rfl, rfl⟩) (fun _ => ty_ok _ rfl) (fun k => callsOK_tab (G := g150 k) (tab := []) all_nil) (fun k => noLoops (by kernel_rfl)) (fun _ => rfl) r150_5 k (fun S => by kernel_rfl)
theorem k150 (k : Nat) : FnOK Tryz.prog gl 53 (s150 k) := mkF (G := g150 k) (ps := (s150 k).ps) (rs := (s150 k).rs) (F := (s150 k).F) mix_ok Tryz.func53 (c := b150) (by kernel_rfl) (by kernel_rfl) ⟨rfl, by kernel_rfl, rfl⟩ (ty_ok _ rfl) (callsOK_tab (G := g150 k) (tab := []) all_nil) (by kernel_rfl) (by kernel_rfl) (fun C h => loops_all (n := 1) (by kernel_rfl) (lt_allS lt_all0 (o150_5 C h k))) (r150 k)
-- roaring_Set_Same_d
noncomputable def b151 := bodyOf Tryz.f17
noncomputable def s151 (k : Nat) : Sig := ⟨⟨[], [(0, .d h4), (1, .d h4)]⟩, ⟨[], [(0, .d .bool)]⟩, fun x => roaring_Set_Same_d k x.1 x.2⟩
noncomputable def g151 (k : Nat) := mkG 0 10 [(19, s130 k), (53, s150 k)] []
theorem r151 (k : Nat) (x) : (s151 k).F x = rF Tryz.f17 (s151 k) (g151 k) b151 x := by kernel_rfl
theorem c151 (k : Nat) : CallsOK Tryz.prog gl (g151 k) := callsOK_tab (G := g151 k) (tab := [(19, s130 k), (53, s150 k)]) (all_cons (k130 k) (all_cons (k150 k) all_nil))
theorem k151 (k : Nat) : FnOK Tryz.prog gl 17 (s151 k) := mkF (G := g151 k) (ps := (s151 k).ps) (rs := (s151 k).rs) (F := (s151 k).F) mix_ok Tryz.func17 (c := b151) (by kernel_rfl) (by kernel_rfl) ⟨rfl, by kernel_rfl, rfl⟩ (ty_ok _ rfl) (c151 k) (by kernel_rfl) (by kernel_rfl) (fun C h => noLoops (by kernel_rfl)) (r151 k)
-- isinglasslaw08_RoaringJoins
noncomputable def b152 := bodyOf Tryz.f8
noncomputable def l152_8 := subLoop b152 0
noncomputable def l152_22 := subLoop l152_8 0
noncomputable def l152_39 := subLoop b152 1
noncomputable def q152_22 (k : Nat) : LSig := ⟨⟨[(.tmp 7, .grow false h0 65), (.tmp 8, .grow false (.st (.pair (.int .u64) (.int .u64))) 32)], [(0, .d (.sl (.int .u16))), (1, .d (.sl (.sl (.int .u16)))), (2, .d (.sl (.int .u8))), (7, .own 0), (8, .own 1), (9, .d .bool), (10, .d (.int .i64)), (40, .d (.int .i64)), (41, .d (.int .i64)), (115, .d (.int .i64)), (116, .d (.int .i64))]⟩, [(.exit 2, ⟨[(.tmp 7, .grow false h0 65), (.tmp 8, .grow false (.st (.pair (.int .u64) (.int .u64))) 32)], [(0, .d (.sl (.int .u16))), (1, .d (.sl (.sl (.int .u16)))), (2, .d (.sl (.int .u8))), (7, .own 0), (8, .own 1), (9, .d .bool), (40, .d (.int .i64)), (41, .d (.int .i64))]⟩)], fun x => isinglasslaw08_RoaringJoins_l1 k x.1 x.2.1 x.2.2.1 x.2.2.2.1 x.2.2.2.2.1 x.2.2.2.2.2.1 x.2.2.2.2.2.2.1 x.2.2.2.2.2.2.2.1 x.2.2.2.2.2.2.2.2.1 x.2.2.2.2.2.2.2.2.2.1 x.2.2.2.2.2.2.2.2.2.2⟩
noncomputable def q152_8 (k : Nat) : LSig := ⟨⟨[(.tmp 7, .grow false h0 65), (.tmp 8, .grow false (.st (.pair (.int .u64) (.int .u64))) 32)], [(0, .d (.sl (.int .u16))), (1, .d (.sl (.sl (.int .u16)))), (2, .d (.sl (.int .u8))), (7, .own 0), (8, .own 1), (9, .d .bool), (40, .d (.int .i64)), (41, .d (.int .i64))]⟩, [(.ret, ⟨[], [(6, .d .bool)]⟩), (.exit 0, ⟨[(.tmp 7, .grow false h0 65), (.tmp 8, .grow false (.st (.pair (.int .u64) (.int .u64))) 32)], [(0, .d (.sl (.int .u16))), (7, .own 0), (8, .own 1), (9, .d .bool)]⟩)], fun x => isinglasslaw08_RoaringJoins_l0 k x.1 x.2.1 x.2.2.1 x.2.2.2.1 x.2.2.2.2.1 x.2.2.2.2.2.1 x.2.2.2.2.2.2.1 x.2.2.2.2.2.2.2⟩
noncomputable def q152_39 (k : Nat) : LSig := ⟨⟨[(.tmp 18, .grow false h0 65)], [(16, .d h4), (18, .own 0), (206, .d (.int .i64)), (207, .d (.int .i64))]⟩, [(.exit 4, ⟨[(.tmp 18, .grow false h0 65)], [(16, .d h4), (18, .own 0)]⟩)], fun x => isinglasslaw08_RoaringJoins_l2 k x.1 x.2.1 x.2.2.1 x.2.2.2⟩
noncomputable def s152 (k : Nat) : Sig := ⟨⟨[], [(0, .d (.sl (.int .u16))), (1, .d (.sl (.sl (.int .u16)))), (2, .d (.sl (.int .u8)))]⟩, ⟨[], [(0, .d .bool)]⟩, fun x => isinglasslaw08_RoaringJoins k x.1 x.2.1 x.2.2⟩
noncomputable def g152 (k : Nat) := mkG 0 238 [(10, s113 k), (32, s63 k), (34, s30 k), (33, s114 k), (36, s27 k), (35, s116 k), (37, s117 k), (38, s118 k), (39, s149 k), (40, s128 k), (41, s140 k), (17, s151 k)] [(22, q152_22 k), (8, q152_8 k), (39, q152_39 k)]
theorem r152_22 (k : Nat) (x) : (q152_22 (k + 1)).F x = rL 0 (q152_22 k) (g152 k) l152_22 x := by kernel_rfl
theorem r152_8 (k : Nat) (x) : (q152_8 (k + 1)).F x = rL 0 (q152_8 k) (g152 k) l152_8 x := by kernel_rfl
theorem r152_39 (k : Nat) (x) : (q152_39 (k + 1)).F x = rL 0 (q152_39 k) (g152 k) l152_39 x := by kernel_rfl
theorem r152 (k : Nat) (x) : (s152 k).F x = rF Tryz.f8 (s152 k) (g152 k) b152 x := by kernel_rfl
theorem c152 (k : Nat) : CallsOK Tryz.prog gl (g152 k) := callsOK_tab (G := g152 k) (tab := [(10, s113 k), (32, s63 k), (34, s30 k), (33, s114 k), (36, s27 k), (35, s116 k), (37, s117 k), (38, s118 k), (39, s149 k), (40, s128 k), (41, s140 k), (17, s151 k)]) (all_cons (k113 k) (all_cons (k63 k) (all_cons (k30 k) (all_cons (k114 k) (all_cons (k27 k) (all_cons (k116 k) (all_cons (k117 k) (all_cons (k118 k) (all_cons (k149 k) (all_cons (k128 k) (all_cons (k140 k) (all_cons (k151 k) all_nil))))))))))))
theorem o152_22 (C : Ctx) (h : Is C Tryz.prog gl 0 Tryz.f8.ntmps) (k : Nat) : LoopOK C (g152 k) l152_22 := mkL h mix_ok (b := l152_22) (hd := (q152_22 0).hd) (ex := (q152_22 0).ex) (F := fun k => (q152_22 k).F) g152 (fun _ => ⟨rfl, by kernel_rfl, rfl⟩) (fun _ => ty_ok _ rfl) c152 (fun k => noLoops (by kernel_rfl)) (fun _ => rfl) r152_22 k (fun S => by kernel_rfl)
theorem o152_8 (C : Ctx) (h : Is C Tryz.prog gl 0 Tryz.f8.ntmps) (k : Nat) : LoopOK C (g152 k) l152_8 := mkL h mix_ok (b := l152_8) (hd := (q152_8 0).hd) (ex := (q152_8 0).ex) (F := fun k => (q152_8 k).F) g152 (fun _ => ⟨rfl, by kernel_rfl, rfl⟩) (fun _ => ty_ok _ rfl) c152 (fun k => loops_all (n := 1) (by kernel_rfl) (lt_allS lt_all0 (o152_22 C h k))) (fun _ => rfl) r152_8 k (fun S => by kernel_rfl)
theorem o152_39 (C : Ctx) (h : Is C Tryz.prog gl 0 Tryz.f8.ntmps) (k : Nat) : LoopOK C (g152 k) l152_39 := mkL h mix_ok (b := l152_39) (hd := (q152_39 0).hd) (ex := (q152_39 0).ex) (F := fun k => (q152_39 k).F) g152 (fun _ => ⟨rfl, by kernel_rfl, rfl⟩) (fun _ => ty_ok _ rfl) c152 (fun k => noLoops (by kernel_rfl)) (fun _ => rfl) r152_39 k (fun S => by kernel_rfl)
theorem k152 (k : Nat) : FnOK Tryz.prog gl 8 (s152 k) := mkF (G := g152 k) (ps := (s152 k).ps) (rs := (s152 k).rs) (F := (s152 k).F) mix_ok Tryz.func8 (c := b152) (by kernel_rfl) (by kernel_rfl) ⟨rfl, by kernel_rfl, rfl⟩ (ty_ok _ rfl) (c152 k) (by kernel_rfl) (by kernel_rfl) (fun C h => loops_all (n := 2) (by kernel_rfl) (lt_allS (lt_allS lt_all0 (o152_8 C h k)) (o152_39 C h k))) (r152 k)
theorem ok_isinglasslaw08_RoaringJoins (k : Nat) : FnOK Tryz.prog gl 8 (s152 k) := k152 k
end Go.Rx.Tryz

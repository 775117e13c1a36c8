/- Printed by gen.py: each function comes to its pure function. -/
import Derived.Test.YtmglpacjnppbfaaDoorEqs
import Derived.Test.YtmglpacjnppbfaaDoorWordsF
import Derived.Test.YtmglpacjnppbfaaDoorProg
import Derived.KernelRfl
namespace Go.Rx.Tryd
set_option linter.unusedVariables false
set_option maxRecDepth 100000
noncomputable def bodyOf (f : Func) : Code := match f.body with | some c => c | none => .skip
noncomputable def gl : Nat → Option Tab := fun g => match g with
  | 0 => some ⟨.int .u8, deBruijn64⟩
  | _ => none
def tyL : List (TypeId × TI) := [(3, ⟨.int .i64, (.int .i64), 1, 8, false⟩), (4, ⟨.bool, .bool, 1, 1, false⟩), (5, ⟨.int .u8, (.int .u8), 1, 1, false⟩), (22, ⟨.sl 40, (.sl (.st (.pair (.int .u16) (.int .u16)))), 1, 24, false⟩), (25, ⟨.sl 53, (.sl (.int .u64)), 1, 24, false⟩), (28, ⟨.arr 4 22, .unit, 4, 96, false⟩), (30, ⟨.arr 4 25, .unit, 4, 96, false⟩), (32, ⟨.sl 38, (.sl (.int .u16)), 1, 24, false⟩), (38, ⟨.int .u16, (.int .u16), 1, 2, false⟩), (40, ⟨.st [(0, 38), (1, 38)], (.st (.pair (.int .u16) (.int .u16))), 2, 4, true⟩), (49, ⟨.sl 3, (.sl (.int .i64)), 1, 24, false⟩), (53, ⟨.int .u64, (.int .u64), 1, 8, false⟩), (59, ⟨.arr 64 5, .unit, 64, 64, false⟩)]
def ty : TypeId → Option TI := tyTab tyL
theorem tab_ok : tabB Go.Proofs.Tryd.prog ty tyL = true := by kernel_rfl
theorem mix_ok : Go.Proofs.Tryd.prog.follows .mixedOrders = true := by kernel_rfl
def fzTab : List (Nat × List Bool) := [(4, [true]), (5, []), (6, [true]), (7, [true, true]), (8, [true, true]), (9, [true, true]), (10, [true, true]), (11, [true, true]), (12, [true, true]), (13, [true, true]), (14, [true, true]), (15, [true, true]), (16, [true]), (17, [true]), (18, [true]), (19, [true]), (20, [true]), (21, [true]), (22, [true, true, true]), (23, [true, true]), (24, [true, true]), (25, [true]), (26, [true]), (27, [true, true, true]), (28, [true, true, true]), (29, [true]), (30, [true, true]), (31, [true, true]), (32, [true, true]), (33, [true, true]), (34, [true, true, true]), (35, [true, true]), (36, [true, true]), (37, [true, true]), (38, [true, true]), (39, [true]), (40, [true]), (41, [true]), (42, [true]), (43, [true, true])]
def fz (f : FuncId) : List Bool := match look fzTab f with | some l => l | none => []
theorem eqs_ok : ∀ p, p ∈ tyL → p.2.eqs = true → EqGoal Go.Proofs.Tryd.prog p.1 p.2.size := (all_cons (fun h => nomatch h) (all_cons (fun h => nomatch h) (all_cons (fun h => nomatch h) (all_cons (fun h => nomatch h) (all_cons (fun h => nomatch h) (all_cons (fun h => nomatch h) (all_cons (fun h => nomatch h) (all_cons (fun h => nomatch h) (all_cons (fun h => nomatch h) (all_cons (fun _ => eqs_two (by kernel_rfl) Go.Proofs.Tryd.underlying40 (by kernel_rfl) (by kernel_rfl) (by kernel_rfl) rfl rfl Go.Proofs.Tryd.underlying38 Go.Proofs.Tryd.underlying38) (all_cons (fun h => nomatch h) (all_cons (fun h => nomatch h) (all_cons (fun h => nomatch h) all_nil)))))))))))))
theorem ty_ok (G : Gl) (h : G.ty = ty) : TyOK Go.Proofs.Tryd.prog G := by
  intro t ti ht
  rw [h] at ht ⊢
  exact tiB_ok (tabB_ok tab_ok t ti ht) (fun he => eqs_ok _ (look_mem ht) he)
noncomputable def body_runs_Of : Code := bodyOf Go.Proofs.Tryd.f21
noncomputable def lb_runs_Of_4 : Code := (loops body_runs_Of).getD 0 .skip
noncomputable def ls_runs_Of_4 (k : Nat) : LSig := ⟨⟨[(.tmp 3, .grow false (.st (.pair (.int .u16) (.int .u16))) 40)], [(0, .d (.sl (.int .u16))), (3, .own 0), (6, .d (.sl (.int .u16))), (7, .d (.int .i64)), (8, .d (.int .i64))]⟩, [(.exit 0, ⟨[(.tmp 3, .grow false (.st (.pair (.int .u16) (.int .u16))) 40)], [(3, .own 0)]⟩)], fun x => runs_Of_l0 k x.1 x.2.1 x.2.2.1 x.2.2.2.1 x.2.2.2.2⟩
noncomputable def sig_runs_Of (k : Nat) : Sig := ⟨⟨[], [(0, .d (.sl (.int .u16)))]⟩, ⟨[], [(0, .d (.sl (.st (.pair (.int .u16) (.int .u16)))))]⟩, fun x => runs_Of k x⟩
noncomputable def G_runs_Of (k : Nat) : Gl := { m := 0, n := 42, gl := gl, ty := ty, fz := fz, fn := fnTab [], lp := lpTab 0 [(4, ls_runs_Of_4 k)] }
theorem rfl_runs_Of_4 (k : Nat) (x) : (ls_runs_Of_4 (k + 1)).F x = (ev (G_runs_Of k) lb_runs_Of_4 (head (ls_runs_Of_4 k).hd (ofTup (ls_runs_Of_4 k).hd.shs x))).den (roundEnd 0 (ls_runs_Of_4 k)) := by kernel_rfl
theorem rfl_runs_Of (k : Nat) (x) : (sig_runs_Of k).F x = (ev (G_runs_Of k) body_runs_Of (head (sig_runs_Of k).ps (ofTup (sig_runs_Of k).ps.shs x))).den (funEnd (G_runs_Of k) Go.Proofs.Tryd.f21.results.toList 0 (sig_runs_Of k).rs) := by kernel_rfl
theorem calls_runs_Of (k : Nat) : CallsOK Go.Proofs.Tryd.prog gl (G_runs_Of k) := callsOK_tab (G := G_runs_Of k) (tab := []) all_nil
theorem loop_runs_Of_4 (C : Ctx) (hP : C.P = Go.Proofs.Tryd.prog) (hgl : C.gl = gl) (hm : C.m = 0) (hN : C.N = Go.Proofs.Tryd.f21.ntmps) (k : Nat) : LoopOK C (G_runs_Of k) lb_runs_Of_4 :=
  LoopOK.of (by rw [hP]; exact mix_ok) (hd := (ls_runs_Of_4 0).hd) (ex := (ls_runs_Of_4 0).ex) (F := fun k => (ls_runs_Of_4 k).F) (Gk := G_runs_Of) (fun k => gok hP hgl hm hN rfl (by kernel_rfl) rfl (ty_ok _ rfl) (calls_runs_Of k)) (fun k => loops_all (n := 0) (by kernel_rfl) lt_all0) (fun x => rfl)
    (fun k x => by rw [hm]; exact rfl_runs_Of_4 k x) k (fun S => by rw [hm]; kernel_rfl)
theorem bodyok_runs_Of (k : Nat) : BodyOK Go.Proofs.Tryd.prog gl (G_runs_Of k) Go.Proofs.Tryd.f21 body_runs_Of (sig_runs_Of k).ps (sig_runs_Of k).rs :=
  ⟨rfl, by kernel_rfl, rfl, ty_ok _ rfl, calls_runs_Of k, by kernel_rfl, by kernel_rfl, fun C hP hgl hm hN => loops_all (n := 1) (by kernel_rfl) (lt_allS lt_all0 (loop_runs_Of_4 C hP hgl hm hN k))⟩
theorem ok_runs_Of (k : Nat) : FnOK Go.Proofs.Tryd.prog gl 21 (sig_runs_Of k) :=
  fun_ok (G := G_runs_Of k) (ps := (sig_runs_Of k).ps) (rs := (sig_runs_Of k).rs) (F := (sig_runs_Of k).F) mix_ok Go.Proofs.Tryd.func21 (c := body_runs_Of) (by kernel_rfl) (by kernel_rfl) (bodyok_runs_Of k) (rfl_runs_Of k)

noncomputable def body_slices_Clone_Run : Code := bodyOf Go.Proofs.Tryd.f42
noncomputable def sig_slices_Clone_Run (k : Nat) : Sig := ⟨⟨[], [(0, .d (.sl (.st (.pair (.int .u16) (.int .u16)))))]⟩, ⟨[], [(0, .d (.sl (.st (.pair (.int .u16) (.int .u16)))))]⟩, fun x => slices_Clone_Run k x⟩
noncomputable def G_slices_Clone_Run (k : Nat) : Gl := { m := 0, n := 8, gl := gl, ty := ty, fz := fz, fn := fnTab [], lp := lpTab 0 [] }
theorem rfl_slices_Clone_Run_cons (k : Nat) (x l) : (sig_slices_Clone_Run k).F (x :: l) = (ev (G_slices_Clone_Run k) body_slices_Clone_Run (head (sig_slices_Clone_Run k).ps (ofTup (sig_slices_Clone_Run k).ps.shs (x :: l)))).den (funEnd (G_slices_Clone_Run k) Go.Proofs.Tryd.f42.results.toList 0 (sig_slices_Clone_Run k).rs) := by kernel_rfl
theorem rfl_slices_Clone_Run_nil (k : Nat) : (ev (G_slices_Clone_Run k) (ambR0 body_slices_Clone_Run) (head (sig_slices_Clone_Run k).ps (ofTup (sig_slices_Clone_Run k).ps.shs []))).den (ambMid (G_slices_Clone_Run k) (ambT body_slices_Clone_Run) (ambR1 body_slices_Clone_Run) (ambA body_slices_Clone_Run) (ambB body_slices_Clone_Run) (funEnd (G_slices_Clone_Run k) Go.Proofs.Tryd.f42.results.toList 0 (sig_slices_Clone_Run k).rs)) = some [] := by kernel_rfl
theorem shape_slices_Clone_Run : body_slices_Clone_Run = .seq (ambR0 body_slices_Clone_Run) (.seq (.seq (ambR1 body_slices_Clone_Run) (.cond (.tmp (ambT body_slices_Clone_Run)) (ambA body_slices_Clone_Run) .skip)) (ambB body_slices_Clone_Run)) := by kernel_rfl
theorem calls_slices_Clone_Run (k : Nat) : CallsOK Go.Proofs.Tryd.prog gl (G_slices_Clone_Run k) := callsOK_tab (G := G_slices_Clone_Run k) (tab := []) all_nil
theorem bodyok_slices_Clone_Run (k : Nat) : BodyOK Go.Proofs.Tryd.prog gl (G_slices_Clone_Run k) Go.Proofs.Tryd.f42 body_slices_Clone_Run (sig_slices_Clone_Run k).ps (sig_slices_Clone_Run k).rs :=
  ⟨rfl, by kernel_rfl, rfl, ty_ok _ rfl, calls_slices_Clone_Run k, by kernel_rfl, by kernel_rfl, fun C hP hgl hm hN => loops_all (n := 0) (by kernel_rfl) lt_all0⟩
theorem ok_slices_Clone_Run (k : Nat) : FnOK Go.Proofs.Tryd.prog gl 42 (sig_slices_Clone_Run k) :=
  clone_ok (G := G_slices_Clone_Run k) (e := (.st (.pair (.int .u16) (.int .u16)))) (F := slices_Clone_Run k) mix_ok Go.Proofs.Tryd.func42 (c := body_slices_Clone_Run) (by kernel_rfl) (by kernel_rfl) (bodyok_slices_Clone_Run k) shape_slices_Clone_Run (by kernel_rfl) (by kernel_rfl) (by kernel_rfl) (by kernel_rfl) (rfl_slices_Clone_Run_nil k) (rfl_slices_Clone_Run_cons k) rfl

noncomputable def body_runs_end : Code := bodyOf Go.Proofs.Tryd.f39
noncomputable def sig_runs_end (k : Nat) : Sig := ⟨⟨[], [(0, .d (.st (.pair (.int .u16) (.int .u16))))]⟩, ⟨[], [(0, .d (.int .i64))]⟩, fun x => runs_end k x⟩
noncomputable def G_runs_end (k : Nat) : Gl := { m := 0, n := 11, gl := gl, ty := ty, fz := fz, fn := fnTab [], lp := lpTab 0 [] }
theorem rfl_runs_end (k : Nat) (x) : (sig_runs_end k).F x = (ev (G_runs_end k) body_runs_end (head (sig_runs_end k).ps (ofTup (sig_runs_end k).ps.shs x))).den (funEnd (G_runs_end k) Go.Proofs.Tryd.f39.results.toList 0 (sig_runs_end k).rs) := by kernel_rfl
theorem calls_runs_end (k : Nat) : CallsOK Go.Proofs.Tryd.prog gl (G_runs_end k) := callsOK_tab (G := G_runs_end k) (tab := []) all_nil
theorem bodyok_runs_end (k : Nat) : BodyOK Go.Proofs.Tryd.prog gl (G_runs_end k) Go.Proofs.Tryd.f39 body_runs_end (sig_runs_end k).ps (sig_runs_end k).rs :=
  ⟨rfl, by kernel_rfl, rfl, ty_ok _ rfl, calls_runs_end k, by kernel_rfl, by kernel_rfl, fun C hP hgl hm hN => loops_all (n := 0) (by kernel_rfl) lt_all0⟩
theorem ok_runs_end (k : Nat) : FnOK Go.Proofs.Tryd.prog gl 39 (sig_runs_end k) :=
  fun_ok (G := G_runs_end k) (ps := (sig_runs_end k).ps) (rs := (sig_runs_end k).rs) (F := (sig_runs_end k).F) mix_ok Go.Proofs.Tryd.func39 (c := body_runs_end) (by kernel_rfl) (by kernel_rfl) (bodyok_runs_end k) (rfl_runs_end k)

noncomputable def body_runs_row : Code := bodyOf Go.Proofs.Tryd.f29
noncomputable def lb_runs_row_4 : Code := (loops body_runs_row).getD 0 .skip
noncomputable def ls_runs_row_4 (k : Nat) : LSig := ⟨⟨[(.tmp 3, .grow false (.int .i64) 3)], [(3, .own 0), (6, .d (.sl (.st (.pair (.int .u16) (.int .u16))))), (7, .d (.int .i64)), (8, .d (.int .i64))]⟩, [(.exit 0, ⟨[(.tmp 3, .grow false (.int .i64) 3)], [(3, .own 0)]⟩)], fun x => runs_row_l0 k x.1 x.2.1 x.2.2.1 x.2.2.2⟩
noncomputable def sig_runs_row (k : Nat) : Sig := ⟨⟨[], [(0, .d (.sl (.st (.pair (.int .u16) (.int .u16)))))]⟩, ⟨[], [(0, .d (.sl (.int .i64)))]⟩, fun x => runs_row k x⟩
noncomputable def G_runs_row (k : Nat) : Gl := { m := 0, n := 22, gl := gl, ty := ty, fz := fz, fn := fnTab [(39, sig_runs_end k)], lp := lpTab 0 [(4, ls_runs_row_4 k)] }
theorem rfl_runs_row_4 (k : Nat) (x) : (ls_runs_row_4 (k + 1)).F x = (ev (G_runs_row k) lb_runs_row_4 (head (ls_runs_row_4 k).hd (ofTup (ls_runs_row_4 k).hd.shs x))).den (roundEnd 0 (ls_runs_row_4 k)) := by kernel_rfl
theorem rfl_runs_row (k : Nat) (x) : (sig_runs_row k).F x = (ev (G_runs_row k) body_runs_row (head (sig_runs_row k).ps (ofTup (sig_runs_row k).ps.shs x))).den (funEnd (G_runs_row k) Go.Proofs.Tryd.f29.results.toList 0 (sig_runs_row k).rs) := by kernel_rfl
theorem calls_runs_row (k : Nat) : CallsOK Go.Proofs.Tryd.prog gl (G_runs_row k) := callsOK_tab (G := G_runs_row k) (tab := [(39, sig_runs_end k)]) (all_cons (ok_runs_end k) all_nil)
theorem loop_runs_row_4 (C : Ctx) (hP : C.P = Go.Proofs.Tryd.prog) (hgl : C.gl = gl) (hm : C.m = 0) (hN : C.N = Go.Proofs.Tryd.f29.ntmps) (k : Nat) : LoopOK C (G_runs_row k) lb_runs_row_4 :=
  LoopOK.of (by rw [hP]; exact mix_ok) (hd := (ls_runs_row_4 0).hd) (ex := (ls_runs_row_4 0).ex) (F := fun k => (ls_runs_row_4 k).F) (Gk := G_runs_row) (fun k => gok hP hgl hm hN rfl (by kernel_rfl) rfl (ty_ok _ rfl) (calls_runs_row k)) (fun k => loops_all (n := 0) (by kernel_rfl) lt_all0) (fun x => rfl)
    (fun k x => by rw [hm]; exact rfl_runs_row_4 k x) k (fun S => by rw [hm]; kernel_rfl)
theorem bodyok_runs_row (k : Nat) : BodyOK Go.Proofs.Tryd.prog gl (G_runs_row k) Go.Proofs.Tryd.f29 body_runs_row (sig_runs_row k).ps (sig_runs_row k).rs :=
  ⟨rfl, by kernel_rfl, rfl, ty_ok _ rfl, calls_runs_row k, by kernel_rfl, by kernel_rfl, fun C hP hgl hm hN => loops_all (n := 1) (by kernel_rfl) (lt_allS lt_all0 (loop_runs_row_4 C hP hgl hm hN k))⟩
theorem ok_runs_row (k : Nat) : FnOK Go.Proofs.Tryd.prog gl 29 (sig_runs_row k) :=
  fun_ok (G := G_runs_row k) (ps := (sig_runs_row k).ps) (rs := (sig_runs_row k).rs) (F := (sig_runs_row k).F) mix_ok Go.Proofs.Tryd.func29 (c := body_runs_row) (by kernel_rfl) (by kernel_rfl) (bodyok_runs_row k) (rfl_runs_row k)

noncomputable def body_runs_Flip_1 : Code := bodyOf Go.Proofs.Tryd.f43
noncomputable def sig_runs_Flip_1 (k : Nat) : Sig := ⟨⟨[], [(0, .d .bool), (1, .d .bool)]⟩, ⟨[], [(0, .d .bool)]⟩, fun x => runs_Flip_1 k x.1 x.2⟩
noncomputable def G_runs_Flip_1 (k : Nat) : Gl := { m := 0, n := 8, gl := gl, ty := ty, fz := fz, fn := fnTab [], lp := lpTab 0 [] }
theorem rfl_runs_Flip_1 (k : Nat) (x) : (sig_runs_Flip_1 k).F x = (ev (G_runs_Flip_1 k) body_runs_Flip_1 (head (sig_runs_Flip_1 k).ps (ofTup (sig_runs_Flip_1 k).ps.shs x))).den (funEnd (G_runs_Flip_1 k) Go.Proofs.Tryd.f43.results.toList 0 (sig_runs_Flip_1 k).rs) := by kernel_rfl
theorem calls_runs_Flip_1 (k : Nat) : CallsOK Go.Proofs.Tryd.prog gl (G_runs_Flip_1 k) := callsOK_tab (G := G_runs_Flip_1 k) (tab := []) all_nil
theorem bodyok_runs_Flip_1 (k : Nat) : BodyOK Go.Proofs.Tryd.prog gl (G_runs_Flip_1 k) Go.Proofs.Tryd.f43 body_runs_Flip_1 (sig_runs_Flip_1 k).ps (sig_runs_Flip_1 k).rs :=
  ⟨rfl, by kernel_rfl, rfl, ty_ok _ rfl, calls_runs_Flip_1 k, by kernel_rfl, by kernel_rfl, fun C hP hgl hm hN => loops_all (n := 0) (by kernel_rfl) lt_all0⟩
theorem ok_runs_Flip_1 (k : Nat) : FnOK Go.Proofs.Tryd.prog gl 43 (sig_runs_Flip_1 k) :=
  fun_ok (G := G_runs_Flip_1 k) (ps := (sig_runs_Flip_1 k).ps) (rs := (sig_runs_Flip_1 k).rs) (F := (sig_runs_Flip_1 k).F) mix_ok Go.Proofs.Tryd.func43 (c := body_runs_Flip_1) (by kernel_rfl) (by kernel_rfl) (bodyok_runs_Flip_1 k) (rfl_runs_Flip_1 k)

noncomputable def body_runs_edges_Flip_1 : Code := bodyOf Go.Proofs.Tryd.f28
noncomputable def lb_runs_edges_Flip_1_5 : Code := (loops body_runs_edges_Flip_1).getD 0 .skip
noncomputable def lb_runs_edges_Flip_1_11 : Code := (loops lb_runs_edges_Flip_1_5).getD 0 .skip
noncomputable def lb_runs_edges_Flip_1_13 : Code := (loops lb_runs_edges_Flip_1_5).getD 1 .skip
noncomputable def ls_runs_edges_Flip_1_11 (k : Nat) : LSig := ⟨⟨[(.tmp 7, .grow false (.st (.pair (.int .u16) (.int .u16))) 40)], [(0, .d (.sl (.int .i64))), (1, .d (.sl (.int .i64))), (2, .fn 43 [] []), (7, .own 0), (8, .d .bool), (9, .d (.int .i64)), (10, .d (.int .i64)), (11, .d (.int .i64)), (12, .d (.int .i64))]⟩, [(.exit 2, ⟨[(.tmp 7, .grow false (.st (.pair (.int .u16) (.int .u16))) 40)], [(0, .d (.sl (.int .i64))), (1, .d (.sl (.int .i64))), (2, .fn 43 [] []), (7, .own 0), (8, .d .bool), (9, .d (.int .i64)), (10, .d (.int .i64)), (11, .d (.int .i64)), (12, .d (.int .i64))]⟩)], fun x => runs_edges_Flip_1_l1 k x.1 x.2.1 x.2.2.1 x.2.2.2.1 x.2.2.2.2.1 x.2.2.2.2.2.1 x.2.2.2.2.2.2.1 x.2.2.2.2.2.2.2⟩
noncomputable def ls_runs_edges_Flip_1_13 (k : Nat) : LSig := ⟨⟨[(.tmp 7, .grow false (.st (.pair (.int .u16) (.int .u16))) 40)], [(0, .d (.sl (.int .i64))), (1, .d (.sl (.int .i64))), (2, .fn 43 [] []), (7, .own 0), (8, .d .bool), (9, .d (.int .i64)), (10, .d (.int .i64)), (11, .d (.int .i64)), (12, .d (.int .i64))]⟩, [(.exit 4, ⟨[(.tmp 7, .grow false (.st (.pair (.int .u16) (.int .u16))) 40)], [(0, .d (.sl (.int .i64))), (1, .d (.sl (.int .i64))), (2, .fn 43 [] []), (7, .own 0), (8, .d .bool), (9, .d (.int .i64)), (10, .d (.int .i64)), (11, .d (.int .i64)), (12, .d (.int .i64))]⟩)], fun x => runs_edges_Flip_1_l2 k x.1 x.2.1 x.2.2.1 x.2.2.2.1 x.2.2.2.2.1 x.2.2.2.2.2.1 x.2.2.2.2.2.2.1 x.2.2.2.2.2.2.2⟩
noncomputable def ls_runs_edges_Flip_1_5 (k : Nat) : LSig := ⟨⟨[(.tmp 7, .grow false (.st (.pair (.int .u16) (.int .u16))) 40)], [(0, .d (.sl (.int .i64))), (1, .d (.sl (.int .i64))), (2, .fn 43 [] []), (7, .own 0), (8, .d .bool), (9, .d (.int .i64)), (10, .d (.int .i64)), (11, .d (.int .i64))]⟩, [(.exit 0, ⟨[(.tmp 7, .grow false (.st (.pair (.int .u16) (.int .u16))) 40)], [(7, .own 0)]⟩)], fun x => runs_edges_Flip_1_l0 k x.1 x.2.1 x.2.2.1 x.2.2.2.1 x.2.2.2.2.1 x.2.2.2.2.2.1 x.2.2.2.2.2.2⟩
noncomputable def sig_runs_edges_Flip_1 (k : Nat) : Sig := ⟨⟨[], [(0, .d (.sl (.int .i64))), (1, .d (.sl (.int .i64))), (2, .fn 43 [] [])]⟩, ⟨[], [(0, .d (.sl (.st (.pair (.int .u16) (.int .u16)))))]⟩, fun x => runs_edges_Flip_1 k x.1 x.2⟩
noncomputable def G_runs_edges_Flip_1 (k : Nat) : Gl := { m := 0, n := 96, gl := gl, ty := ty, fz := fz, fn := fnTab [(43, sig_runs_Flip_1 k)], lp := lpTab 0 [(11, ls_runs_edges_Flip_1_11 k), (13, ls_runs_edges_Flip_1_13 k), (5, ls_runs_edges_Flip_1_5 k)] }
theorem rfl_runs_edges_Flip_1_11 (k : Nat) (x) : (ls_runs_edges_Flip_1_11 (k + 1)).F x = (ev (G_runs_edges_Flip_1 k) lb_runs_edges_Flip_1_11 (head (ls_runs_edges_Flip_1_11 k).hd (ofTup (ls_runs_edges_Flip_1_11 k).hd.shs x))).den (roundEnd 0 (ls_runs_edges_Flip_1_11 k)) := by kernel_rfl
theorem rfl_runs_edges_Flip_1_13 (k : Nat) (x) : (ls_runs_edges_Flip_1_13 (k + 1)).F x = (ev (G_runs_edges_Flip_1 k) lb_runs_edges_Flip_1_13 (head (ls_runs_edges_Flip_1_13 k).hd (ofTup (ls_runs_edges_Flip_1_13 k).hd.shs x))).den (roundEnd 0 (ls_runs_edges_Flip_1_13 k)) := by kernel_rfl
theorem rfl_runs_edges_Flip_1_5 (k : Nat) (x) : (ls_runs_edges_Flip_1_5 (k + 1)).F x = (ev (G_runs_edges_Flip_1 k) lb_runs_edges_Flip_1_5 (head (ls_runs_edges_Flip_1_5 k).hd (ofTup (ls_runs_edges_Flip_1_5 k).hd.shs x))).den (roundEnd 0 (ls_runs_edges_Flip_1_5 k)) := by kernel_rfl
theorem rfl_runs_edges_Flip_1 (k : Nat) (x) : (sig_runs_edges_Flip_1 k).F x = (ev (G_runs_edges_Flip_1 k) body_runs_edges_Flip_1 (head (sig_runs_edges_Flip_1 k).ps (ofTup (sig_runs_edges_Flip_1 k).ps.shs x))).den (funEnd (G_runs_edges_Flip_1 k) Go.Proofs.Tryd.f28.results.toList 0 (sig_runs_edges_Flip_1 k).rs) := by kernel_rfl
theorem calls_runs_edges_Flip_1 (k : Nat) : CallsOK Go.Proofs.Tryd.prog gl (G_runs_edges_Flip_1 k) := callsOK_tab (G := G_runs_edges_Flip_1 k) (tab := [(43, sig_runs_Flip_1 k)]) (all_cons (ok_runs_Flip_1 k) all_nil)
theorem loop_runs_edges_Flip_1_11 (C : Ctx) (hP : C.P = Go.Proofs.Tryd.prog) (hgl : C.gl = gl) (hm : C.m = 0) (hN : C.N = Go.Proofs.Tryd.f28.ntmps) (k : Nat) : LoopOK C (G_runs_edges_Flip_1 k) lb_runs_edges_Flip_1_11 :=
  LoopOK.of (by rw [hP]; exact mix_ok) (hd := (ls_runs_edges_Flip_1_11 0).hd) (ex := (ls_runs_edges_Flip_1_11 0).ex) (F := fun k => (ls_runs_edges_Flip_1_11 k).F) (Gk := G_runs_edges_Flip_1) (fun k => gok hP hgl hm hN rfl (by kernel_rfl) rfl (ty_ok _ rfl) (calls_runs_edges_Flip_1 k)) (fun k => loops_all (n := 0) (by kernel_rfl) lt_all0) (fun x => rfl)
    (fun k x => by rw [hm]; exact rfl_runs_edges_Flip_1_11 k x) k (fun S => by rw [hm]; kernel_rfl)
theorem loop_runs_edges_Flip_1_13 (C : Ctx) (hP : C.P = Go.Proofs.Tryd.prog) (hgl : C.gl = gl) (hm : C.m = 0) (hN : C.N = Go.Proofs.Tryd.f28.ntmps) (k : Nat) : LoopOK C (G_runs_edges_Flip_1 k) lb_runs_edges_Flip_1_13 :=
  LoopOK.of (by rw [hP]; exact mix_ok) (hd := (ls_runs_edges_Flip_1_13 0).hd) (ex := (ls_runs_edges_Flip_1_13 0).ex) (F := fun k => (ls_runs_edges_Flip_1_13 k).F) (Gk := G_runs_edges_Flip_1) (fun k => gok hP hgl hm hN rfl (by kernel_rfl) rfl (ty_ok _ rfl) (calls_runs_edges_Flip_1 k)) (fun k => loops_all (n := 0) (by kernel_rfl) lt_all0) (fun x => rfl)
    (fun k x => by rw [hm]; exact rfl_runs_edges_Flip_1_13 k x) k (fun S => by rw [hm]; kernel_rfl)
theorem loop_runs_edges_Flip_1_5 (C : Ctx) (hP : C.P = Go.Proofs.Tryd.prog) (hgl : C.gl = gl) (hm : C.m = 0) (hN : C.N = Go.Proofs.Tryd.f28.ntmps) (k : Nat) : LoopOK C (G_runs_edges_Flip_1 k) lb_runs_edges_Flip_1_5 :=
  LoopOK.of (by rw [hP]; exact mix_ok) (hd := (ls_runs_edges_Flip_1_5 0).hd) (ex := (ls_runs_edges_Flip_1_5 0).ex) (F := fun k => (ls_runs_edges_Flip_1_5 k).F) (Gk := G_runs_edges_Flip_1) (fun k => gok hP hgl hm hN rfl (by kernel_rfl) rfl (ty_ok _ rfl) (calls_runs_edges_Flip_1 k)) (fun k => loops_all (n := 2) (by kernel_rfl) (lt_allS (lt_allS lt_all0 (loop_runs_edges_Flip_1_11 C hP hgl hm hN k)) (loop_runs_edges_Flip_1_13 C hP hgl hm hN k))) (fun x => rfl)
    (fun k x => by rw [hm]; exact rfl_runs_edges_Flip_1_5 k x) k (fun S => by rw [hm]; kernel_rfl)
theorem bodyok_runs_edges_Flip_1 (k : Nat) : BodyOK Go.Proofs.Tryd.prog gl (G_runs_edges_Flip_1 k) Go.Proofs.Tryd.f28 body_runs_edges_Flip_1 (sig_runs_edges_Flip_1 k).ps (sig_runs_edges_Flip_1 k).rs :=
  ⟨rfl, by kernel_rfl, rfl, ty_ok _ rfl, calls_runs_edges_Flip_1 k, by kernel_rfl, by kernel_rfl, fun C hP hgl hm hN => loops_all (n := 1) (by kernel_rfl) (lt_allS lt_all0 (loop_runs_edges_Flip_1_5 C hP hgl hm hN k))⟩
theorem ok_runs_edges_Flip_1 (k : Nat) : FnOK Go.Proofs.Tryd.prog gl 28 (sig_runs_edges_Flip_1 k) :=
  fun_ok (G := G_runs_edges_Flip_1 k) (ps := (sig_runs_edges_Flip_1 k).ps) (rs := (sig_runs_edges_Flip_1 k).rs) (F := (sig_runs_edges_Flip_1 k).F) mix_ok Go.Proofs.Tryd.func28 (c := body_runs_edges_Flip_1) (by kernel_rfl) (by kernel_rfl) (bodyok_runs_edges_Flip_1 k) (rfl_runs_edges_Flip_1 k)

noncomputable def body_runs_Flip : Code := bodyOf Go.Proofs.Tryd.f22
noncomputable def sig_runs_Flip (k : Nat) : Sig := ⟨⟨[], [(0, .d (.sl (.st (.pair (.int .u16) (.int .u16))))), (1, .d (.int .i64)), (2, .d (.int .i64))]⟩, ⟨[], [(0, .d (.sl (.st (.pair (.int .u16) (.int .u16)))))]⟩, fun x => runs_Flip k x.1 x.2.1 x.2.2⟩
noncomputable def G_runs_Flip (k : Nat) : Gl := { m := 0, n := 22, gl := gl, ty := ty, fz := fz, fn := fnTab [(42, sig_slices_Clone_Run k), (29, sig_runs_row k), (28, sig_runs_edges_Flip_1 k)], lp := lpTab 0 [] }
theorem rfl_runs_Flip (k : Nat) (x) : (sig_runs_Flip k).F x = (ev (G_runs_Flip k) body_runs_Flip (head (sig_runs_Flip k).ps (ofTup (sig_runs_Flip k).ps.shs x))).den (funEnd (G_runs_Flip k) Go.Proofs.Tryd.f22.results.toList 0 (sig_runs_Flip k).rs) := by kernel_rfl
theorem calls_runs_Flip (k : Nat) : CallsOK Go.Proofs.Tryd.prog gl (G_runs_Flip k) := callsOK_tab (G := G_runs_Flip k) (tab := [(42, sig_slices_Clone_Run k), (29, sig_runs_row k), (28, sig_runs_edges_Flip_1 k)]) (all_cons (ok_slices_Clone_Run k) (all_cons (ok_runs_row k) (all_cons (ok_runs_edges_Flip_1 k) all_nil)))
theorem bodyok_runs_Flip (k : Nat) : BodyOK Go.Proofs.Tryd.prog gl (G_runs_Flip k) Go.Proofs.Tryd.f22 body_runs_Flip (sig_runs_Flip k).ps (sig_runs_Flip k).rs :=
  ⟨rfl, by kernel_rfl, rfl, ty_ok _ rfl, calls_runs_Flip k, by kernel_rfl, by kernel_rfl, fun C hP hgl hm hN => loops_all (n := 0) (by kernel_rfl) lt_all0⟩
theorem ok_runs_Flip (k : Nat) : FnOK Go.Proofs.Tryd.prog gl 22 (sig_runs_Flip k) :=
  fun_ok (G := G_runs_Flip k) (ps := (sig_runs_Flip k).ps) (rs := (sig_runs_Flip k).rs) (F := (sig_runs_Flip k).F) mix_ok Go.Proofs.Tryd.func22 (c := body_runs_Flip) (by kernel_rfl) (by kernel_rfl) (bodyok_runs_Flip k) (rfl_runs_Flip k)

noncomputable def body_runs_Select : Code := bodyOf Go.Proofs.Tryd.f23
noncomputable def lb_runs_Select_3 : Code := (loops body_runs_Select).getD 0 .skip
noncomputable def ls_runs_Select_3 (k : Nat) : LSig := ⟨⟨[], [(0, .d (.sl (.st (.pair (.int .u16) (.int .u16))))), (1, .d (.int .i64)), (8, .d (.sl (.st (.pair (.int .u16) (.int .u16))))), (9, .d (.int .i64)), (10, .d (.int .i64))]⟩, [(.exit 0, ⟨[], [(0, .d (.sl (.st (.pair (.int .u16) (.int .u16))))), (1, .d (.int .i64))]⟩)], fun x => runs_Select_l0 k x.1 x.2.1 x.2.2.1 x.2.2.2.1 x.2.2.2.2⟩
noncomputable def sig_runs_Select (k : Nat) : Sig := ⟨⟨[], [(0, .d (.sl (.st (.pair (.int .u16) (.int .u16))))), (1, .d (.int .i64))]⟩, ⟨[], [(0, .d (.int .u16)), (1, .d .bool)]⟩, fun x => runs_Select k x.1 x.2⟩
noncomputable def G_runs_Select (k : Nat) : Gl := { m := 0, n := 42, gl := gl, ty := ty, fz := fz, fn := fnTab [], lp := lpTab 0 [(3, ls_runs_Select_3 k)] }
theorem rfl_runs_Select_3 (k : Nat) (x) : (ls_runs_Select_3 (k + 1)).F x = (ev (G_runs_Select k) lb_runs_Select_3 (head (ls_runs_Select_3 k).hd (ofTup (ls_runs_Select_3 k).hd.shs x))).den (roundEnd 0 (ls_runs_Select_3 k)) := by kernel_rfl
theorem rfl_runs_Select (k : Nat) (x) : (sig_runs_Select k).F x = (ev (G_runs_Select k) body_runs_Select (head (sig_runs_Select k).ps (ofTup (sig_runs_Select k).ps.shs x))).den (funEnd (G_runs_Select k) Go.Proofs.Tryd.f23.results.toList 0 (sig_runs_Select k).rs) := by kernel_rfl
theorem calls_runs_Select (k : Nat) : CallsOK Go.Proofs.Tryd.prog gl (G_runs_Select k) := callsOK_tab (G := G_runs_Select k) (tab := []) all_nil
theorem loop_runs_Select_3 (C : Ctx) (hP : C.P = Go.Proofs.Tryd.prog) (hgl : C.gl = gl) (hm : C.m = 0) (hN : C.N = Go.Proofs.Tryd.f23.ntmps) (k : Nat) : LoopOK C (G_runs_Select k) lb_runs_Select_3 :=
  LoopOK.of (by rw [hP]; exact mix_ok) (hd := (ls_runs_Select_3 0).hd) (ex := (ls_runs_Select_3 0).ex) (F := fun k => (ls_runs_Select_3 k).F) (Gk := G_runs_Select) (fun k => gok hP hgl hm hN rfl (by kernel_rfl) rfl (ty_ok _ rfl) (calls_runs_Select k)) (fun k => loops_all (n := 0) (by kernel_rfl) lt_all0) (fun x => rfl)
    (fun k x => by rw [hm]; exact rfl_runs_Select_3 k x) k (fun S => by rw [hm]; kernel_rfl)
theorem bodyok_runs_Select (k : Nat) : BodyOK Go.Proofs.Tryd.prog gl (G_runs_Select k) Go.Proofs.Tryd.f23 body_runs_Select (sig_runs_Select k).ps (sig_runs_Select k).rs :=
  ⟨rfl, by kernel_rfl, rfl, ty_ok _ rfl, calls_runs_Select k, by kernel_rfl, by kernel_rfl, fun C hP hgl hm hN => loops_all (n := 1) (by kernel_rfl) (lt_allS lt_all0 (loop_runs_Select_3 C hP hgl hm hN k))⟩
theorem ok_runs_Select (k : Nat) : FnOK Go.Proofs.Tryd.prog gl 23 (sig_runs_Select k) :=
  fun_ok (G := G_runs_Select k) (ps := (sig_runs_Select k).ps) (rs := (sig_runs_Select k).rs) (F := (sig_runs_Select k).F) mix_ok Go.Proofs.Tryd.func23 (c := body_runs_Select) (by kernel_rfl) (by kernel_rfl) (bodyok_runs_Select k) (rfl_runs_Select k)

noncomputable def body_runs_Rank : Code := bodyOf Go.Proofs.Tryd.f24
noncomputable def lb_runs_Rank_5 : Code := (loops body_runs_Rank).getD 0 .skip
noncomputable def ls_runs_Rank_5 (k : Nat) : LSig := ⟨⟨[], [(1, .d (.int .i64)), (5, .d (.int .i64)), (10, .d (.sl (.st (.pair (.int .u16) (.int .u16))))), (11, .d (.int .i64)), (12, .d (.int .i64))]⟩, [(.exit 0, ⟨[], [(5, .d (.int .i64))]⟩)], fun x => runs_Rank_l0 k x.1 x.2.1 x.2.2.1 x.2.2.2.1 x.2.2.2.2⟩
noncomputable def sig_runs_Rank (k : Nat) : Sig := ⟨⟨[], [(0, .d (.sl (.st (.pair (.int .u16) (.int .u16))))), (1, .d (.int .i64))]⟩, ⟨[], [(0, .d (.int .i64))]⟩, fun x => runs_Rank k x.1 x.2⟩
noncomputable def G_runs_Rank (k : Nat) : Gl := { m := 0, n := 31, gl := gl, ty := ty, fz := fz, fn := fnTab [], lp := lpTab 0 [(5, ls_runs_Rank_5 k)] }
theorem rfl_runs_Rank_5 (k : Nat) (x) : (ls_runs_Rank_5 (k + 1)).F x = (ev (G_runs_Rank k) lb_runs_Rank_5 (head (ls_runs_Rank_5 k).hd (ofTup (ls_runs_Rank_5 k).hd.shs x))).den (roundEnd 0 (ls_runs_Rank_5 k)) := by kernel_rfl
theorem rfl_runs_Rank (k : Nat) (x) : (sig_runs_Rank k).F x = (ev (G_runs_Rank k) body_runs_Rank (head (sig_runs_Rank k).ps (ofTup (sig_runs_Rank k).ps.shs x))).den (funEnd (G_runs_Rank k) Go.Proofs.Tryd.f24.results.toList 0 (sig_runs_Rank k).rs) := by kernel_rfl
theorem calls_runs_Rank (k : Nat) : CallsOK Go.Proofs.Tryd.prog gl (G_runs_Rank k) := callsOK_tab (G := G_runs_Rank k) (tab := []) all_nil
theorem loop_runs_Rank_5 (C : Ctx) (hP : C.P = Go.Proofs.Tryd.prog) (hgl : C.gl = gl) (hm : C.m = 0) (hN : C.N = Go.Proofs.Tryd.f24.ntmps) (k : Nat) : LoopOK C (G_runs_Rank k) lb_runs_Rank_5 :=
  LoopOK.of (by rw [hP]; exact mix_ok) (hd := (ls_runs_Rank_5 0).hd) (ex := (ls_runs_Rank_5 0).ex) (F := fun k => (ls_runs_Rank_5 k).F) (Gk := G_runs_Rank) (fun k => gok hP hgl hm hN rfl (by kernel_rfl) rfl (ty_ok _ rfl) (calls_runs_Rank k)) (fun k => loops_all (n := 0) (by kernel_rfl) lt_all0) (fun x => rfl)
    (fun k x => by rw [hm]; exact rfl_runs_Rank_5 k x) k (fun S => by rw [hm]; kernel_rfl)
theorem bodyok_runs_Rank (k : Nat) : BodyOK Go.Proofs.Tryd.prog gl (G_runs_Rank k) Go.Proofs.Tryd.f24 body_runs_Rank (sig_runs_Rank k).ps (sig_runs_Rank k).rs :=
  ⟨rfl, by kernel_rfl, rfl, ty_ok _ rfl, calls_runs_Rank k, by kernel_rfl, by kernel_rfl, fun C hP hgl hm hN => loops_all (n := 1) (by kernel_rfl) (lt_allS lt_all0 (loop_runs_Rank_5 C hP hgl hm hN k))⟩
theorem ok_runs_Rank (k : Nat) : FnOK Go.Proofs.Tryd.prog gl 24 (sig_runs_Rank k) :=
  fun_ok (G := G_runs_Rank k) (ps := (sig_runs_Rank k).ps) (rs := (sig_runs_Rank k).rs) (F := (sig_runs_Rank k).F) mix_ok Go.Proofs.Tryd.func24 (c := body_runs_Rank) (by kernel_rfl) (by kernel_rfl) (bodyok_runs_Rank k) (rfl_runs_Rank k)

noncomputable def body_runs_May : Code := bodyOf Go.Proofs.Tryd.f25
noncomputable def lb_runs_May_4 : Code := (loops body_runs_May).getD 0 .skip
noncomputable def ls_runs_May_4 (k : Nat) : LSig := ⟨⟨[], [(3, .d (.int .i64)), (6, .d (.sl (.st (.pair (.int .u16) (.int .u16))))), (7, .d (.int .i64)), (8, .d (.int .i64))]⟩, [(.ret, ⟨[], [(2, .d .bool)]⟩), (.exit 0, ⟨[], []⟩)], fun x => runs_May_l0 k x.1 x.2.1 x.2.2.1 x.2.2.2⟩
noncomputable def sig_runs_May (k : Nat) : Sig := ⟨⟨[], [(0, .d (.sl (.st (.pair (.int .u16) (.int .u16)))))]⟩, ⟨[], [(0, .d .bool)]⟩, fun x => runs_May k x⟩
noncomputable def G_runs_May (k : Nat) : Gl := { m := 0, n := 26, gl := gl, ty := ty, fz := fz, fn := fnTab [(39, sig_runs_end k)], lp := lpTab 0 [(4, ls_runs_May_4 k)] }
theorem rfl_runs_May_4 (k : Nat) (x) : (ls_runs_May_4 (k + 1)).F x = (ev (G_runs_May k) lb_runs_May_4 (head (ls_runs_May_4 k).hd (ofTup (ls_runs_May_4 k).hd.shs x))).den (roundEnd 0 (ls_runs_May_4 k)) := by kernel_rfl
theorem rfl_runs_May (k : Nat) (x) : (sig_runs_May k).F x = (ev (G_runs_May k) body_runs_May (head (sig_runs_May k).ps (ofTup (sig_runs_May k).ps.shs x))).den (funEnd (G_runs_May k) Go.Proofs.Tryd.f25.results.toList 0 (sig_runs_May k).rs) := by kernel_rfl
theorem calls_runs_May (k : Nat) : CallsOK Go.Proofs.Tryd.prog gl (G_runs_May k) := callsOK_tab (G := G_runs_May k) (tab := [(39, sig_runs_end k)]) (all_cons (ok_runs_end k) all_nil)
theorem loop_runs_May_4 (C : Ctx) (hP : C.P = Go.Proofs.Tryd.prog) (hgl : C.gl = gl) (hm : C.m = 0) (hN : C.N = Go.Proofs.Tryd.f25.ntmps) (k : Nat) : LoopOK C (G_runs_May k) lb_runs_May_4 :=
  LoopOK.of (by rw [hP]; exact mix_ok) (hd := (ls_runs_May_4 0).hd) (ex := (ls_runs_May_4 0).ex) (F := fun k => (ls_runs_May_4 k).F) (Gk := G_runs_May) (fun k => gok hP hgl hm hN rfl (by kernel_rfl) rfl (ty_ok _ rfl) (calls_runs_May k)) (fun k => loops_all (n := 0) (by kernel_rfl) lt_all0) (fun x => rfl)
    (fun k x => by rw [hm]; exact rfl_runs_May_4 k x) k (fun S => by rw [hm]; kernel_rfl)
theorem bodyok_runs_May (k : Nat) : BodyOK Go.Proofs.Tryd.prog gl (G_runs_May k) Go.Proofs.Tryd.f25 body_runs_May (sig_runs_May k).ps (sig_runs_May k).rs :=
  ⟨rfl, by kernel_rfl, rfl, ty_ok _ rfl, calls_runs_May k, by kernel_rfl, by kernel_rfl, fun C hP hgl hm hN => loops_all (n := 1) (by kernel_rfl) (lt_allS lt_all0 (loop_runs_May_4 C hP hgl hm hN k))⟩
theorem ok_runs_May (k : Nat) : FnOK Go.Proofs.Tryd.prog gl 25 (sig_runs_May k) :=
  fun_ok (G := G_runs_May k) (ps := (sig_runs_May k).ps) (rs := (sig_runs_May k).rs) (F := (sig_runs_May k).F) mix_ok Go.Proofs.Tryd.func25 (c := body_runs_May) (by kernel_rfl) (by kernel_rfl) (bodyok_runs_May k) (rfl_runs_May k)

noncomputable def body_isinglasslaw06_known : Code := bodyOf Go.Proofs.Tryd.f5
noncomputable def sig_isinglasslaw06_known (k : Nat) : Sig := ⟨⟨[], []⟩, ⟨[], [(0, .d .bool)]⟩, fun x => isinglasslaw06_known k⟩
noncomputable def G_isinglasslaw06_known (k : Nat) : Gl := { m := 0, n := 75, gl := gl, ty := ty, fz := fz, fn := fnTab [(21, sig_runs_Of k), (22, sig_runs_Flip k), (23, sig_runs_Select k), (24, sig_runs_Rank k), (25, sig_runs_May k)], lp := lpTab 0 [] }
theorem rfl_isinglasslaw06_known (k : Nat) (x) : (sig_isinglasslaw06_known k).F x = (ev (G_isinglasslaw06_known k) body_isinglasslaw06_known (head (sig_isinglasslaw06_known k).ps (ofTup (sig_isinglasslaw06_known k).ps.shs x))).den (funEnd (G_isinglasslaw06_known k) Go.Proofs.Tryd.f5.results.toList 0 (sig_isinglasslaw06_known k).rs) := by kernel_rfl
theorem calls_isinglasslaw06_known (k : Nat) : CallsOK Go.Proofs.Tryd.prog gl (G_isinglasslaw06_known k) := callsOK_tab (G := G_isinglasslaw06_known k) (tab := [(21, sig_runs_Of k), (22, sig_runs_Flip k), (23, sig_runs_Select k), (24, sig_runs_Rank k), (25, sig_runs_May k)]) (all_cons (ok_runs_Of k) (all_cons (ok_runs_Flip k) (all_cons (ok_runs_Select k) (all_cons (ok_runs_Rank k) (all_cons (ok_runs_May k) all_nil)))))
theorem bodyok_isinglasslaw06_known (k : Nat) : BodyOK Go.Proofs.Tryd.prog gl (G_isinglasslaw06_known k) Go.Proofs.Tryd.f5 body_isinglasslaw06_known (sig_isinglasslaw06_known k).ps (sig_isinglasslaw06_known k).rs :=
  ⟨rfl, by kernel_rfl, rfl, ty_ok _ rfl, calls_isinglasslaw06_known k, by kernel_rfl, by kernel_rfl, fun C hP hgl hm hN => loops_all (n := 0) (by kernel_rfl) lt_all0⟩
theorem ok_isinglasslaw06_known (k : Nat) : FnOK Go.Proofs.Tryd.prog gl 5 (sig_isinglasslaw06_known k) :=
  fun_ok (G := G_isinglasslaw06_known k) (ps := (sig_isinglasslaw06_known k).ps) (rs := (sig_isinglasslaw06_known k).rs) (F := (sig_isinglasslaw06_known k).F) mix_ok Go.Proofs.Tryd.func5 (c := body_isinglasslaw06_known) (by kernel_rfl) (by kernel_rfl) (bodyok_isinglasslaw06_known k) (rfl_isinglasslaw06_known k)

noncomputable def body_isinglassref06_May : Code := bodyOf Go.Proofs.Tryd.f4
noncomputable def lb_isinglassref06_May_4 : Code := (loops body_isinglassref06_May).getD 0 .skip
noncomputable def ls_isinglassref06_May_4 (k : Nat) : LSig := ⟨⟨[], [(0, .d (.sl (.st (.pair (.int .u16) (.int .u16))))), (3, .d (.int .i64)), (4, .d (.int .i64))]⟩, [(.ret, ⟨[], [(2, .d .bool)]⟩), (.exit 0, ⟨[], []⟩)], fun x => isinglassref06_May_l0 k x.1 x.2.1 x.2.2⟩
noncomputable def sig_isinglassref06_May (k : Nat) : Sig := ⟨⟨[], [(0, .d (.sl (.st (.pair (.int .u16) (.int .u16)))))]⟩, ⟨[], [(0, .d .bool)]⟩, fun x => isinglassref06_May k x⟩
noncomputable def G_isinglassref06_May (k : Nat) : Gl := { m := 0, n := 41, gl := gl, ty := ty, fz := fz, fn := fnTab [], lp := lpTab 0 [(4, ls_isinglassref06_May_4 k)] }
theorem rfl_isinglassref06_May_4 (k : Nat) (x) : (ls_isinglassref06_May_4 (k + 1)).F x = (ev (G_isinglassref06_May k) lb_isinglassref06_May_4 (head (ls_isinglassref06_May_4 k).hd (ofTup (ls_isinglassref06_May_4 k).hd.shs x))).den (roundEnd 0 (ls_isinglassref06_May_4 k)) := by kernel_rfl
theorem rfl_isinglassref06_May (k : Nat) (x) : (sig_isinglassref06_May k).F x = (ev (G_isinglassref06_May k) body_isinglassref06_May (head (sig_isinglassref06_May k).ps (ofTup (sig_isinglassref06_May k).ps.shs x))).den (funEnd (G_isinglassref06_May k) Go.Proofs.Tryd.f4.results.toList 0 (sig_isinglassref06_May k).rs) := by kernel_rfl
theorem calls_isinglassref06_May (k : Nat) : CallsOK Go.Proofs.Tryd.prog gl (G_isinglassref06_May k) := callsOK_tab (G := G_isinglassref06_May k) (tab := []) all_nil
theorem loop_isinglassref06_May_4 (C : Ctx) (hP : C.P = Go.Proofs.Tryd.prog) (hgl : C.gl = gl) (hm : C.m = 0) (hN : C.N = Go.Proofs.Tryd.f4.ntmps) (k : Nat) : LoopOK C (G_isinglassref06_May k) lb_isinglassref06_May_4 :=
  LoopOK.of (by rw [hP]; exact mix_ok) (hd := (ls_isinglassref06_May_4 0).hd) (ex := (ls_isinglassref06_May_4 0).ex) (F := fun k => (ls_isinglassref06_May_4 k).F) (Gk := G_isinglassref06_May) (fun k => gok hP hgl hm hN rfl (by kernel_rfl) rfl (ty_ok _ rfl) (calls_isinglassref06_May k)) (fun k => loops_all (n := 0) (by kernel_rfl) lt_all0) (fun x => rfl)
    (fun k x => by rw [hm]; exact rfl_isinglassref06_May_4 k x) k (fun S => by rw [hm]; kernel_rfl)
theorem bodyok_isinglassref06_May (k : Nat) : BodyOK Go.Proofs.Tryd.prog gl (G_isinglassref06_May k) Go.Proofs.Tryd.f4 body_isinglassref06_May (sig_isinglassref06_May k).ps (sig_isinglassref06_May k).rs :=
  ⟨rfl, by kernel_rfl, rfl, ty_ok _ rfl, calls_isinglassref06_May k, by kernel_rfl, by kernel_rfl, fun C hP hgl hm hN => loops_all (n := 1) (by kernel_rfl) (lt_allS lt_all0 (loop_isinglassref06_May_4 C hP hgl hm hN k))⟩
theorem ok_isinglassref06_May (k : Nat) : FnOK Go.Proofs.Tryd.prog gl 4 (sig_isinglassref06_May k) :=
  fun_ok (G := G_isinglassref06_May k) (ps := (sig_isinglassref06_May k).ps) (rs := (sig_isinglassref06_May k).rs) (F := (sig_isinglassref06_May k).F) mix_ok Go.Proofs.Tryd.func4 (c := body_isinglassref06_May) (by kernel_rfl) (by kernel_rfl) (bodyok_isinglassref06_May k) (rfl_isinglassref06_May k)

noncomputable def body_words_Of : Code := bodyOf Go.Proofs.Tryd.f26
noncomputable def lb_words_Of_4 : Code := (loops body_words_Of).getD 0 .skip
noncomputable def ls_words_Of_4 (k : Nat) : LSig := ⟨⟨[(.tmp 3, .grow false (.int .u64) 53)], [(3, .own 0), (7, .d (.sl (.int .u16))), (8, .d (.int .i64)), (9, .d (.int .i64))]⟩, [(.exit 0, ⟨[(.tmp 3, .grow false (.int .u64) 53)], [(3, .own 0)]⟩)], fun x => words_Of_l0 k x.1 x.2.1 x.2.2.1 x.2.2.2⟩
noncomputable def sig_words_Of (k : Nat) : Sig := ⟨⟨[], [(0, .d (.sl (.int .u16)))]⟩, ⟨[], [(0, .d (.sl (.int .u64)))]⟩, fun x => words_Of k x⟩
noncomputable def G_words_Of (k : Nat) : Gl := { m := 0, n := 25, gl := gl, ty := ty, fz := fz, fn := fnTab [], lp := lpTab 0 [(4, ls_words_Of_4 k)] }
theorem rfl_words_Of_4 (k : Nat) (x) : (ls_words_Of_4 (k + 1)).F x = (ev (G_words_Of k) lb_words_Of_4 (head (ls_words_Of_4 k).hd (ofTup (ls_words_Of_4 k).hd.shs x))).den (roundEnd 0 (ls_words_Of_4 k)) := by kernel_rfl
theorem rfl_words_Of (k : Nat) (x) : (sig_words_Of k).F x = (ev (G_words_Of k) body_words_Of (head (sig_words_Of k).ps (ofTup (sig_words_Of k).ps.shs x))).den (funEnd (G_words_Of k) Go.Proofs.Tryd.f26.results.toList 0 (sig_words_Of k).rs) := by kernel_rfl
theorem calls_words_Of (k : Nat) : CallsOK Go.Proofs.Tryd.prog gl (G_words_Of k) := callsOK_tab (G := G_words_Of k) (tab := []) all_nil
theorem loop_words_Of_4 (C : Ctx) (hP : C.P = Go.Proofs.Tryd.prog) (hgl : C.gl = gl) (hm : C.m = 0) (hN : C.N = Go.Proofs.Tryd.f26.ntmps) (k : Nat) : LoopOK C (G_words_Of k) lb_words_Of_4 :=
  LoopOK.of (by rw [hP]; exact mix_ok) (hd := (ls_words_Of_4 0).hd) (ex := (ls_words_Of_4 0).ex) (F := fun k => (ls_words_Of_4 k).F) (Gk := G_words_Of) (fun k => gok hP hgl hm hN rfl (by kernel_rfl) rfl (ty_ok _ rfl) (calls_words_Of k)) (fun k => loops_all (n := 0) (by kernel_rfl) lt_all0) (fun x => rfl)
    (fun k x => by rw [hm]; exact rfl_words_Of_4 k x) k (fun S => by rw [hm]; kernel_rfl)
theorem bodyok_words_Of (k : Nat) : BodyOK Go.Proofs.Tryd.prog gl (G_words_Of k) Go.Proofs.Tryd.f26 body_words_Of (sig_words_Of k).ps (sig_words_Of k).rs :=
  ⟨rfl, by kernel_rfl, rfl, ty_ok _ rfl, calls_words_Of k, by kernel_rfl, by kernel_rfl, fun C hP hgl hm hN => loops_all (n := 1) (by kernel_rfl) (lt_allS lt_all0 (loop_words_Of_4 C hP hgl hm hN k))⟩
theorem ok_words_Of (k : Nat) : FnOK Go.Proofs.Tryd.prog gl 26 (sig_words_Of k) :=
  fun_ok (G := G_words_Of k) (ps := (sig_words_Of k).ps) (rs := (sig_words_Of k).rs) (F := (sig_words_Of k).F) mix_ok Go.Proofs.Tryd.func26 (c := body_words_Of) (by kernel_rfl) (by kernel_rfl) (bodyok_words_Of k) (rfl_words_Of k)

noncomputable def body_words_Flip : Code := bodyOf Go.Proofs.Tryd.f27
noncomputable def lb_words_Flip_6 : Code := (loops body_words_Flip).getD 0 .skip
noncomputable def ls_words_Flip_6 (k : Nat) : LSig := ⟨⟨[(.tmp 7, .grow false (.int .u64) 53)], [(1, .d (.int .i64)), (2, .d (.int .i64)), (7, .own 0), (19, .d (.int .i64))]⟩, [(.exit 0, ⟨[(.tmp 7, .grow false (.int .u64) 53)], [(7, .own 0)]⟩)], fun x => words_Flip_l0 k x.1 x.2.1 x.2.2.1 x.2.2.2⟩
noncomputable def sig_words_Flip (k : Nat) : Sig := ⟨⟨[], [(0, .d (.sl (.int .u64))), (1, .d (.int .i64)), (2, .d (.int .i64))]⟩, ⟨[], [(0, .d (.sl (.int .u64)))]⟩, fun x => words_Flip k x.1 x.2.1 x.2.2⟩
noncomputable def G_words_Flip (k : Nat) : Gl := { m := 0, n := 52, gl := gl, ty := ty, fz := fz, fn := fnTab [], lp := lpTab 0 [(6, ls_words_Flip_6 k)] }
theorem rfl_words_Flip_6 (k : Nat) (x) : (ls_words_Flip_6 (k + 1)).F x = (ev (G_words_Flip k) lb_words_Flip_6 (head (ls_words_Flip_6 k).hd (ofTup (ls_words_Flip_6 k).hd.shs x))).den (roundEnd 0 (ls_words_Flip_6 k)) := by kernel_rfl
theorem rfl_words_Flip (k : Nat) (x) : (sig_words_Flip k).F x = (ev (G_words_Flip k) body_words_Flip (head (sig_words_Flip k).ps (ofTup (sig_words_Flip k).ps.shs x))).den (funEnd (G_words_Flip k) Go.Proofs.Tryd.f27.results.toList 0 (sig_words_Flip k).rs) := by kernel_rfl
theorem calls_words_Flip (k : Nat) : CallsOK Go.Proofs.Tryd.prog gl (G_words_Flip k) := callsOK_tab (G := G_words_Flip k) (tab := []) all_nil
theorem loop_words_Flip_6 (C : Ctx) (hP : C.P = Go.Proofs.Tryd.prog) (hgl : C.gl = gl) (hm : C.m = 0) (hN : C.N = Go.Proofs.Tryd.f27.ntmps) (k : Nat) : LoopOK C (G_words_Flip k) lb_words_Flip_6 :=
  LoopOK.of (by rw [hP]; exact mix_ok) (hd := (ls_words_Flip_6 0).hd) (ex := (ls_words_Flip_6 0).ex) (F := fun k => (ls_words_Flip_6 k).F) (Gk := G_words_Flip) (fun k => gok hP hgl hm hN rfl (by kernel_rfl) rfl (ty_ok _ rfl) (calls_words_Flip k)) (fun k => loops_all (n := 0) (by kernel_rfl) lt_all0) (fun x => rfl)
    (fun k x => by rw [hm]; exact rfl_words_Flip_6 k x) k (fun S => by rw [hm]; kernel_rfl)
theorem bodyok_words_Flip (k : Nat) : BodyOK Go.Proofs.Tryd.prog gl (G_words_Flip k) Go.Proofs.Tryd.f27 body_words_Flip (sig_words_Flip k).ps (sig_words_Flip k).rs :=
  ⟨rfl, by kernel_rfl, rfl, ty_ok _ rfl, calls_words_Flip k, by kernel_rfl, by kernel_rfl, fun C hP hgl hm hN => loops_all (n := 1) (by kernel_rfl) (lt_allS lt_all0 (loop_words_Flip_6 C hP hgl hm hN k))⟩
theorem ok_words_Flip (k : Nat) : FnOK Go.Proofs.Tryd.prog gl 27 (sig_words_Flip k) :=
  fun_ok (G := G_words_Flip k) (ps := (sig_words_Flip k).ps) (rs := (sig_words_Flip k).rs) (F := (sig_words_Flip k).F) mix_ok Go.Proofs.Tryd.func27 (c := body_words_Flip) (by kernel_rfl) (by kernel_rfl) (bodyok_words_Flip k) (rfl_words_Flip k)

noncomputable def body_isinglasslaw06_of : Code := bodyOf Go.Proofs.Tryd.f6
noncomputable def lb_isinglasslaw06_of_4 : Code := (loops body_isinglasslaw06_of).getD 0 .skip
noncomputable def ls_isinglasslaw06_of_4 (k : Nat) : LSig := ⟨⟨[], [(3, .d (.sl (.int .u64))), (7, .d (.sl (.st (.pair (.int .u16) (.int .u16))))), (8, .d (.int .i64)), (9, .d (.int .i64))]⟩, [(.exit 0, ⟨[], [(3, .d (.sl (.int .u64)))]⟩)], fun x => isinglasslaw06_of_l0 k x.1 x.2.1 x.2.2.1 x.2.2.2⟩
noncomputable def sig_isinglasslaw06_of (k : Nat) : Sig := ⟨⟨[], [(0, .d (.sl (.st (.pair (.int .u16) (.int .u16)))))]⟩, ⟨[], [(0, .d (.sl (.int .u64)))]⟩, fun x => isinglasslaw06_of k x⟩
noncomputable def G_isinglasslaw06_of (k : Nat) : Gl := { m := 0, n := 28, gl := gl, ty := ty, fz := fz, fn := fnTab [(26, sig_words_Of k), (27, sig_words_Flip k)], lp := lpTab 0 [(4, ls_isinglasslaw06_of_4 k)] }
theorem rfl_isinglasslaw06_of_4 (k : Nat) (x) : (ls_isinglasslaw06_of_4 (k + 1)).F x = (ev (G_isinglasslaw06_of k) lb_isinglasslaw06_of_4 (head (ls_isinglasslaw06_of_4 k).hd (ofTup (ls_isinglasslaw06_of_4 k).hd.shs x))).den (roundEnd 0 (ls_isinglasslaw06_of_4 k)) := by kernel_rfl
theorem rfl_isinglasslaw06_of (k : Nat) (x) : (sig_isinglasslaw06_of k).F x = (ev (G_isinglasslaw06_of k) body_isinglasslaw06_of (head (sig_isinglasslaw06_of k).ps (ofTup (sig_isinglasslaw06_of k).ps.shs x))).den (funEnd (G_isinglasslaw06_of k) Go.Proofs.Tryd.f6.results.toList 0 (sig_isinglasslaw06_of k).rs) := by kernel_rfl
theorem calls_isinglasslaw06_of (k : Nat) : CallsOK Go.Proofs.Tryd.prog gl (G_isinglasslaw06_of k) := callsOK_tab (G := G_isinglasslaw06_of k) (tab := [(26, sig_words_Of k), (27, sig_words_Flip k)]) (all_cons (ok_words_Of k) (all_cons (ok_words_Flip k) all_nil))
theorem loop_isinglasslaw06_of_4 (C : Ctx) (hP : C.P = Go.Proofs.Tryd.prog) (hgl : C.gl = gl) (hm : C.m = 0) (hN : C.N = Go.Proofs.Tryd.f6.ntmps) (k : Nat) : LoopOK C (G_isinglasslaw06_of k) lb_isinglasslaw06_of_4 :=
  LoopOK.of (by rw [hP]; exact mix_ok) (hd := (ls_isinglasslaw06_of_4 0).hd) (ex := (ls_isinglasslaw06_of_4 0).ex) (F := fun k => (ls_isinglasslaw06_of_4 k).F) (Gk := G_isinglasslaw06_of) (fun k => gok hP hgl hm hN rfl (by kernel_rfl) rfl (ty_ok _ rfl) (calls_isinglasslaw06_of k)) (fun k => loops_all (n := 0) (by kernel_rfl) lt_all0) (fun x => rfl)
    (fun k x => by rw [hm]; exact rfl_isinglasslaw06_of_4 k x) k (fun S => by rw [hm]; kernel_rfl)
theorem bodyok_isinglasslaw06_of (k : Nat) : BodyOK Go.Proofs.Tryd.prog gl (G_isinglasslaw06_of k) Go.Proofs.Tryd.f6 body_isinglasslaw06_of (sig_isinglasslaw06_of k).ps (sig_isinglasslaw06_of k).rs :=
  ⟨rfl, by kernel_rfl, rfl, ty_ok _ rfl, calls_isinglasslaw06_of k, by kernel_rfl, by kernel_rfl, fun C hP hgl hm hN => loops_all (n := 1) (by kernel_rfl) (lt_allS lt_all0 (loop_isinglasslaw06_of_4 C hP hgl hm hN k))⟩
theorem ok_isinglasslaw06_of (k : Nat) : FnOK Go.Proofs.Tryd.prog gl 6 (sig_isinglasslaw06_of k) :=
  fun_ok (G := G_isinglasslaw06_of k) (ps := (sig_isinglasslaw06_of k).ps) (rs := (sig_isinglasslaw06_of k).rs) (F := (sig_isinglasslaw06_of k).F) mix_ok Go.Proofs.Tryd.func6 (c := body_isinglasslaw06_of) (by kernel_rfl) (by kernel_rfl) (bodyok_isinglasslaw06_of k) (rfl_isinglasslaw06_of k)

noncomputable def body_runs_And_1 : Code := bodyOf Go.Proofs.Tryd.f30
noncomputable def sig_runs_And_1 (k : Nat) : Sig := ⟨⟨[], [(0, .d .bool), (1, .d .bool)]⟩, ⟨[], [(0, .d .bool)]⟩, fun x => runs_And_1 k x.1 x.2⟩
noncomputable def G_runs_And_1 (k : Nat) : Gl := { m := 0, n := 9, gl := gl, ty := ty, fz := fz, fn := fnTab [], lp := lpTab 0 [] }
theorem rfl_runs_And_1 (k : Nat) (x) : (sig_runs_And_1 k).F x = (ev (G_runs_And_1 k) body_runs_And_1 (head (sig_runs_And_1 k).ps (ofTup (sig_runs_And_1 k).ps.shs x))).den (funEnd (G_runs_And_1 k) Go.Proofs.Tryd.f30.results.toList 0 (sig_runs_And_1 k).rs) := by kernel_rfl
theorem calls_runs_And_1 (k : Nat) : CallsOK Go.Proofs.Tryd.prog gl (G_runs_And_1 k) := callsOK_tab (G := G_runs_And_1 k) (tab := []) all_nil
theorem bodyok_runs_And_1 (k : Nat) : BodyOK Go.Proofs.Tryd.prog gl (G_runs_And_1 k) Go.Proofs.Tryd.f30 body_runs_And_1 (sig_runs_And_1 k).ps (sig_runs_And_1 k).rs :=
  ⟨rfl, by kernel_rfl, rfl, ty_ok _ rfl, calls_runs_And_1 k, by kernel_rfl, by kernel_rfl, fun C hP hgl hm hN => loops_all (n := 0) (by kernel_rfl) lt_all0⟩
theorem ok_runs_And_1 (k : Nat) : FnOK Go.Proofs.Tryd.prog gl 30 (sig_runs_And_1 k) :=
  fun_ok (G := G_runs_And_1 k) (ps := (sig_runs_And_1 k).ps) (rs := (sig_runs_And_1 k).rs) (F := (sig_runs_And_1 k).F) mix_ok Go.Proofs.Tryd.func30 (c := body_runs_And_1) (by kernel_rfl) (by kernel_rfl) (bodyok_runs_And_1 k) (rfl_runs_And_1 k)

noncomputable def body_runs_edges_And_1 : Code := bodyOf Go.Proofs.Tryd.f28
noncomputable def lb_runs_edges_And_1_5 : Code := (loops body_runs_edges_And_1).getD 0 .skip
noncomputable def lb_runs_edges_And_1_11 : Code := (loops lb_runs_edges_And_1_5).getD 0 .skip
noncomputable def lb_runs_edges_And_1_13 : Code := (loops lb_runs_edges_And_1_5).getD 1 .skip
noncomputable def ls_runs_edges_And_1_11 (k : Nat) : LSig := ⟨⟨[(.tmp 7, .grow false (.st (.pair (.int .u16) (.int .u16))) 40)], [(0, .d (.sl (.int .i64))), (1, .d (.sl (.int .i64))), (2, .fn 30 [] []), (7, .own 0), (8, .d .bool), (9, .d (.int .i64)), (10, .d (.int .i64)), (11, .d (.int .i64)), (12, .d (.int .i64))]⟩, [(.exit 2, ⟨[(.tmp 7, .grow false (.st (.pair (.int .u16) (.int .u16))) 40)], [(0, .d (.sl (.int .i64))), (1, .d (.sl (.int .i64))), (2, .fn 30 [] []), (7, .own 0), (8, .d .bool), (9, .d (.int .i64)), (10, .d (.int .i64)), (11, .d (.int .i64)), (12, .d (.int .i64))]⟩)], fun x => runs_edges_And_1_l1 k x.1 x.2.1 x.2.2.1 x.2.2.2.1 x.2.2.2.2.1 x.2.2.2.2.2.1 x.2.2.2.2.2.2.1 x.2.2.2.2.2.2.2⟩
noncomputable def ls_runs_edges_And_1_13 (k : Nat) : LSig := ⟨⟨[(.tmp 7, .grow false (.st (.pair (.int .u16) (.int .u16))) 40)], [(0, .d (.sl (.int .i64))), (1, .d (.sl (.int .i64))), (2, .fn 30 [] []), (7, .own 0), (8, .d .bool), (9, .d (.int .i64)), (10, .d (.int .i64)), (11, .d (.int .i64)), (12, .d (.int .i64))]⟩, [(.exit 4, ⟨[(.tmp 7, .grow false (.st (.pair (.int .u16) (.int .u16))) 40)], [(0, .d (.sl (.int .i64))), (1, .d (.sl (.int .i64))), (2, .fn 30 [] []), (7, .own 0), (8, .d .bool), (9, .d (.int .i64)), (10, .d (.int .i64)), (11, .d (.int .i64)), (12, .d (.int .i64))]⟩)], fun x => runs_edges_And_1_l2 k x.1 x.2.1 x.2.2.1 x.2.2.2.1 x.2.2.2.2.1 x.2.2.2.2.2.1 x.2.2.2.2.2.2.1 x.2.2.2.2.2.2.2⟩
noncomputable def ls_runs_edges_And_1_5 (k : Nat) : LSig := ⟨⟨[(.tmp 7, .grow false (.st (.pair (.int .u16) (.int .u16))) 40)], [(0, .d (.sl (.int .i64))), (1, .d (.sl (.int .i64))), (2, .fn 30 [] []), (7, .own 0), (8, .d .bool), (9, .d (.int .i64)), (10, .d (.int .i64)), (11, .d (.int .i64))]⟩, [(.exit 0, ⟨[(.tmp 7, .grow false (.st (.pair (.int .u16) (.int .u16))) 40)], [(7, .own 0)]⟩)], fun x => runs_edges_And_1_l0 k x.1 x.2.1 x.2.2.1 x.2.2.2.1 x.2.2.2.2.1 x.2.2.2.2.2.1 x.2.2.2.2.2.2⟩
noncomputable def sig_runs_edges_And_1 (k : Nat) : Sig := ⟨⟨[], [(0, .d (.sl (.int .i64))), (1, .d (.sl (.int .i64))), (2, .fn 30 [] [])]⟩, ⟨[], [(0, .d (.sl (.st (.pair (.int .u16) (.int .u16)))))]⟩, fun x => runs_edges_And_1 k x.1 x.2⟩
noncomputable def G_runs_edges_And_1 (k : Nat) : Gl := { m := 0, n := 96, gl := gl, ty := ty, fz := fz, fn := fnTab [(30, sig_runs_And_1 k)], lp := lpTab 0 [(11, ls_runs_edges_And_1_11 k), (13, ls_runs_edges_And_1_13 k), (5, ls_runs_edges_And_1_5 k)] }
theorem rfl_runs_edges_And_1_11 (k : Nat) (x) : (ls_runs_edges_And_1_11 (k + 1)).F x = (ev (G_runs_edges_And_1 k) lb_runs_edges_And_1_11 (head (ls_runs_edges_And_1_11 k).hd (ofTup (ls_runs_edges_And_1_11 k).hd.shs x))).den (roundEnd 0 (ls_runs_edges_And_1_11 k)) := by kernel_rfl
theorem rfl_runs_edges_And_1_13 (k : Nat) (x) : (ls_runs_edges_And_1_13 (k + 1)).F x = (ev (G_runs_edges_And_1 k) lb_runs_edges_And_1_13 (head (ls_runs_edges_And_1_13 k).hd (ofTup (ls_runs_edges_And_1_13 k).hd.shs x))).den (roundEnd 0 (ls_runs_edges_And_1_13 k)) := by kernel_rfl
theorem rfl_runs_edges_And_1_5 (k : Nat) (x) : (ls_runs_edges_And_1_5 (k + 1)).F x = (ev (G_runs_edges_And_1 k) lb_runs_edges_And_1_5 (head (ls_runs_edges_And_1_5 k).hd (ofTup (ls_runs_edges_And_1_5 k).hd.shs x))).den (roundEnd 0 (ls_runs_edges_And_1_5 k)) := by kernel_rfl
theorem rfl_runs_edges_And_1 (k : Nat) (x) : (sig_runs_edges_And_1 k).F x = (ev (G_runs_edges_And_1 k) body_runs_edges_And_1 (head (sig_runs_edges_And_1 k).ps (ofTup (sig_runs_edges_And_1 k).ps.shs x))).den (funEnd (G_runs_edges_And_1 k) Go.Proofs.Tryd.f28.results.toList 0 (sig_runs_edges_And_1 k).rs) := by kernel_rfl
theorem calls_runs_edges_And_1 (k : Nat) : CallsOK Go.Proofs.Tryd.prog gl (G_runs_edges_And_1 k) := callsOK_tab (G := G_runs_edges_And_1 k) (tab := [(30, sig_runs_And_1 k)]) (all_cons (ok_runs_And_1 k) all_nil)
theorem loop_runs_edges_And_1_11 (C : Ctx) (hP : C.P = Go.Proofs.Tryd.prog) (hgl : C.gl = gl) (hm : C.m = 0) (hN : C.N = Go.Proofs.Tryd.f28.ntmps) (k : Nat) : LoopOK C (G_runs_edges_And_1 k) lb_runs_edges_And_1_11 :=
  LoopOK.of (by rw [hP]; exact mix_ok) (hd := (ls_runs_edges_And_1_11 0).hd) (ex := (ls_runs_edges_And_1_11 0).ex) (F := fun k => (ls_runs_edges_And_1_11 k).F) (Gk := G_runs_edges_And_1) (fun k => gok hP hgl hm hN rfl (by kernel_rfl) rfl (ty_ok _ rfl) (calls_runs_edges_And_1 k)) (fun k => loops_all (n := 0) (by kernel_rfl) lt_all0) (fun x => rfl)
    (fun k x => by rw [hm]; exact rfl_runs_edges_And_1_11 k x) k (fun S => by rw [hm]; kernel_rfl)
theorem loop_runs_edges_And_1_13 (C : Ctx) (hP : C.P = Go.Proofs.Tryd.prog) (hgl : C.gl = gl) (hm : C.m = 0) (hN : C.N = Go.Proofs.Tryd.f28.ntmps) (k : Nat) : LoopOK C (G_runs_edges_And_1 k) lb_runs_edges_And_1_13 :=
  LoopOK.of (by rw [hP]; exact mix_ok) (hd := (ls_runs_edges_And_1_13 0).hd) (ex := (ls_runs_edges_And_1_13 0).ex) (F := fun k => (ls_runs_edges_And_1_13 k).F) (Gk := G_runs_edges_And_1) (fun k => gok hP hgl hm hN rfl (by kernel_rfl) rfl (ty_ok _ rfl) (calls_runs_edges_And_1 k)) (fun k => loops_all (n := 0) (by kernel_rfl) lt_all0) (fun x => rfl)
    (fun k x => by rw [hm]; exact rfl_runs_edges_And_1_13 k x) k (fun S => by rw [hm]; kernel_rfl)
theorem loop_runs_edges_And_1_5 (C : Ctx) (hP : C.P = Go.Proofs.Tryd.prog) (hgl : C.gl = gl) (hm : C.m = 0) (hN : C.N = Go.Proofs.Tryd.f28.ntmps) (k : Nat) : LoopOK C (G_runs_edges_And_1 k) lb_runs_edges_And_1_5 :=
  LoopOK.of (by rw [hP]; exact mix_ok) (hd := (ls_runs_edges_And_1_5 0).hd) (ex := (ls_runs_edges_And_1_5 0).ex) (F := fun k => (ls_runs_edges_And_1_5 k).F) (Gk := G_runs_edges_And_1) (fun k => gok hP hgl hm hN rfl (by kernel_rfl) rfl (ty_ok _ rfl) (calls_runs_edges_And_1 k)) (fun k => loops_all (n := 2) (by kernel_rfl) (lt_allS (lt_allS lt_all0 (loop_runs_edges_And_1_11 C hP hgl hm hN k)) (loop_runs_edges_And_1_13 C hP hgl hm hN k))) (fun x => rfl)
    (fun k x => by rw [hm]; exact rfl_runs_edges_And_1_5 k x) k (fun S => by rw [hm]; kernel_rfl)
theorem bodyok_runs_edges_And_1 (k : Nat) : BodyOK Go.Proofs.Tryd.prog gl (G_runs_edges_And_1 k) Go.Proofs.Tryd.f28 body_runs_edges_And_1 (sig_runs_edges_And_1 k).ps (sig_runs_edges_And_1 k).rs :=
  ⟨rfl, by kernel_rfl, rfl, ty_ok _ rfl, calls_runs_edges_And_1 k, by kernel_rfl, by kernel_rfl, fun C hP hgl hm hN => loops_all (n := 1) (by kernel_rfl) (lt_allS lt_all0 (loop_runs_edges_And_1_5 C hP hgl hm hN k))⟩
theorem ok_runs_edges_And_1 (k : Nat) : FnOK Go.Proofs.Tryd.prog gl 28 (sig_runs_edges_And_1 k) :=
  fun_ok (G := G_runs_edges_And_1 k) (ps := (sig_runs_edges_And_1 k).ps) (rs := (sig_runs_edges_And_1 k).rs) (F := (sig_runs_edges_And_1 k).F) mix_ok Go.Proofs.Tryd.func28 (c := body_runs_edges_And_1) (by kernel_rfl) (by kernel_rfl) (bodyok_runs_edges_And_1 k) (rfl_runs_edges_And_1 k)

noncomputable def body_runs_And : Code := bodyOf Go.Proofs.Tryd.f7
noncomputable def sig_runs_And (k : Nat) : Sig := ⟨⟨[], [(0, .d (.sl (.st (.pair (.int .u16) (.int .u16))))), (1, .d (.sl (.st (.pair (.int .u16) (.int .u16)))))]⟩, ⟨[], [(0, .d (.sl (.st (.pair (.int .u16) (.int .u16)))))]⟩, fun x => runs_And k x.1 x.2⟩
noncomputable def G_runs_And (k : Nat) : Gl := { m := 0, n := 10, gl := gl, ty := ty, fz := fz, fn := fnTab [(29, sig_runs_row k), (28, sig_runs_edges_And_1 k)], lp := lpTab 0 [] }
theorem rfl_runs_And (k : Nat) (x) : (sig_runs_And k).F x = (ev (G_runs_And k) body_runs_And (head (sig_runs_And k).ps (ofTup (sig_runs_And k).ps.shs x))).den (funEnd (G_runs_And k) Go.Proofs.Tryd.f7.results.toList 0 (sig_runs_And k).rs) := by kernel_rfl
theorem calls_runs_And (k : Nat) : CallsOK Go.Proofs.Tryd.prog gl (G_runs_And k) := callsOK_tab (G := G_runs_And k) (tab := [(29, sig_runs_row k), (28, sig_runs_edges_And_1 k)]) (all_cons (ok_runs_row k) (all_cons (ok_runs_edges_And_1 k) all_nil))
theorem bodyok_runs_And (k : Nat) : BodyOK Go.Proofs.Tryd.prog gl (G_runs_And k) Go.Proofs.Tryd.f7 body_runs_And (sig_runs_And k).ps (sig_runs_And k).rs :=
  ⟨rfl, by kernel_rfl, rfl, ty_ok _ rfl, calls_runs_And k, by kernel_rfl, by kernel_rfl, fun C hP hgl hm hN => loops_all (n := 0) (by kernel_rfl) lt_all0⟩
theorem ok_runs_And (k : Nat) : FnOK Go.Proofs.Tryd.prog gl 7 (sig_runs_And k) :=
  fun_ok (G := G_runs_And k) (ps := (sig_runs_And k).ps) (rs := (sig_runs_And k).rs) (F := (sig_runs_And k).F) mix_ok Go.Proofs.Tryd.func7 (c := body_runs_And) (by kernel_rfl) (by kernel_rfl) (bodyok_runs_And k) (rfl_runs_And k)

noncomputable def body_runs_Or_1 : Code := bodyOf Go.Proofs.Tryd.f31
noncomputable def sig_runs_Or_1 (k : Nat) : Sig := ⟨⟨[], [(0, .d .bool), (1, .d .bool)]⟩, ⟨[], [(0, .d .bool)]⟩, fun x => runs_Or_1 k x.1 x.2⟩
noncomputable def G_runs_Or_1 (k : Nat) : Gl := { m := 0, n := 9, gl := gl, ty := ty, fz := fz, fn := fnTab [], lp := lpTab 0 [] }
theorem rfl_runs_Or_1 (k : Nat) (x) : (sig_runs_Or_1 k).F x = (ev (G_runs_Or_1 k) body_runs_Or_1 (head (sig_runs_Or_1 k).ps (ofTup (sig_runs_Or_1 k).ps.shs x))).den (funEnd (G_runs_Or_1 k) Go.Proofs.Tryd.f31.results.toList 0 (sig_runs_Or_1 k).rs) := by kernel_rfl
theorem calls_runs_Or_1 (k : Nat) : CallsOK Go.Proofs.Tryd.prog gl (G_runs_Or_1 k) := callsOK_tab (G := G_runs_Or_1 k) (tab := []) all_nil
theorem bodyok_runs_Or_1 (k : Nat) : BodyOK Go.Proofs.Tryd.prog gl (G_runs_Or_1 k) Go.Proofs.Tryd.f31 body_runs_Or_1 (sig_runs_Or_1 k).ps (sig_runs_Or_1 k).rs :=
  ⟨rfl, by kernel_rfl, rfl, ty_ok _ rfl, calls_runs_Or_1 k, by kernel_rfl, by kernel_rfl, fun C hP hgl hm hN => loops_all (n := 0) (by kernel_rfl) lt_all0⟩
theorem ok_runs_Or_1 (k : Nat) : FnOK Go.Proofs.Tryd.prog gl 31 (sig_runs_Or_1 k) :=
  fun_ok (G := G_runs_Or_1 k) (ps := (sig_runs_Or_1 k).ps) (rs := (sig_runs_Or_1 k).rs) (F := (sig_runs_Or_1 k).F) mix_ok Go.Proofs.Tryd.func31 (c := body_runs_Or_1) (by kernel_rfl) (by kernel_rfl) (bodyok_runs_Or_1 k) (rfl_runs_Or_1 k)

noncomputable def body_runs_edges_Or_1 : Code := bodyOf Go.Proofs.Tryd.f28
noncomputable def lb_runs_edges_Or_1_5 : Code := (loops body_runs_edges_Or_1).getD 0 .skip
noncomputable def lb_runs_edges_Or_1_11 : Code := (loops lb_runs_edges_Or_1_5).getD 0 .skip
noncomputable def lb_runs_edges_Or_1_13 : Code := (loops lb_runs_edges_Or_1_5).getD 1 .skip
noncomputable def ls_runs_edges_Or_1_11 (k : Nat) : LSig := ⟨⟨[(.tmp 7, .grow false (.st (.pair (.int .u16) (.int .u16))) 40)], [(0, .d (.sl (.int .i64))), (1, .d (.sl (.int .i64))), (2, .fn 31 [] []), (7, .own 0), (8, .d .bool), (9, .d (.int .i64)), (10, .d (.int .i64)), (11, .d (.int .i64)), (12, .d (.int .i64))]⟩, [(.exit 2, ⟨[(.tmp 7, .grow false (.st (.pair (.int .u16) (.int .u16))) 40)], [(0, .d (.sl (.int .i64))), (1, .d (.sl (.int .i64))), (2, .fn 31 [] []), (7, .own 0), (8, .d .bool), (9, .d (.int .i64)), (10, .d (.int .i64)), (11, .d (.int .i64)), (12, .d (.int .i64))]⟩)], fun x => runs_edges_Or_1_l1 k x.1 x.2.1 x.2.2.1 x.2.2.2.1 x.2.2.2.2.1 x.2.2.2.2.2.1 x.2.2.2.2.2.2.1 x.2.2.2.2.2.2.2⟩
noncomputable def ls_runs_edges_Or_1_13 (k : Nat) : LSig := ⟨⟨[(.tmp 7, .grow false (.st (.pair (.int .u16) (.int .u16))) 40)], [(0, .d (.sl (.int .i64))), (1, .d (.sl (.int .i64))), (2, .fn 31 [] []), (7, .own 0), (8, .d .bool), (9, .d (.int .i64)), (10, .d (.int .i64)), (11, .d (.int .i64)), (12, .d (.int .i64))]⟩, [(.exit 4, ⟨[(.tmp 7, .grow false (.st (.pair (.int .u16) (.int .u16))) 40)], [(0, .d (.sl (.int .i64))), (1, .d (.sl (.int .i64))), (2, .fn 31 [] []), (7, .own 0), (8, .d .bool), (9, .d (.int .i64)), (10, .d (.int .i64)), (11, .d (.int .i64)), (12, .d (.int .i64))]⟩)], fun x => runs_edges_Or_1_l2 k x.1 x.2.1 x.2.2.1 x.2.2.2.1 x.2.2.2.2.1 x.2.2.2.2.2.1 x.2.2.2.2.2.2.1 x.2.2.2.2.2.2.2⟩
noncomputable def ls_runs_edges_Or_1_5 (k : Nat) : LSig := ⟨⟨[(.tmp 7, .grow false (.st (.pair (.int .u16) (.int .u16))) 40)], [(0, .d (.sl (.int .i64))), (1, .d (.sl (.int .i64))), (2, .fn 31 [] []), (7, .own 0), (8, .d .bool), (9, .d (.int .i64)), (10, .d (.int .i64)), (11, .d (.int .i64))]⟩, [(.exit 0, ⟨[(.tmp 7, .grow false (.st (.pair (.int .u16) (.int .u16))) 40)], [(7, .own 0)]⟩)], fun x => runs_edges_Or_1_l0 k x.1 x.2.1 x.2.2.1 x.2.2.2.1 x.2.2.2.2.1 x.2.2.2.2.2.1 x.2.2.2.2.2.2⟩
noncomputable def sig_runs_edges_Or_1 (k : Nat) : Sig := ⟨⟨[], [(0, .d (.sl (.int .i64))), (1, .d (.sl (.int .i64))), (2, .fn 31 [] [])]⟩, ⟨[], [(0, .d (.sl (.st (.pair (.int .u16) (.int .u16)))))]⟩, fun x => runs_edges_Or_1 k x.1 x.2⟩
noncomputable def G_runs_edges_Or_1 (k : Nat) : Gl := { m := 0, n := 96, gl := gl, ty := ty, fz := fz, fn := fnTab [(31, sig_runs_Or_1 k)], lp := lpTab 0 [(11, ls_runs_edges_Or_1_11 k), (13, ls_runs_edges_Or_1_13 k), (5, ls_runs_edges_Or_1_5 k)] }
theorem rfl_runs_edges_Or_1_11 (k : Nat) (x) : (ls_runs_edges_Or_1_11 (k + 1)).F x = (ev (G_runs_edges_Or_1 k) lb_runs_edges_Or_1_11 (head (ls_runs_edges_Or_1_11 k).hd (ofTup (ls_runs_edges_Or_1_11 k).hd.shs x))).den (roundEnd 0 (ls_runs_edges_Or_1_11 k)) := by kernel_rfl
theorem rfl_runs_edges_Or_1_13 (k : Nat) (x) : (ls_runs_edges_Or_1_13 (k + 1)).F x = (ev (G_runs_edges_Or_1 k) lb_runs_edges_Or_1_13 (head (ls_runs_edges_Or_1_13 k).hd (ofTup (ls_runs_edges_Or_1_13 k).hd.shs x))).den (roundEnd 0 (ls_runs_edges_Or_1_13 k)) := by kernel_rfl
theorem rfl_runs_edges_Or_1_5 (k : Nat) (x) : (ls_runs_edges_Or_1_5 (k + 1)).F x = (ev (G_runs_edges_Or_1 k) lb_runs_edges_Or_1_5 (head (ls_runs_edges_Or_1_5 k).hd (ofTup (ls_runs_edges_Or_1_5 k).hd.shs x))).den (roundEnd 0 (ls_runs_edges_Or_1_5 k)) := by kernel_rfl
theorem rfl_runs_edges_Or_1 (k : Nat) (x) : (sig_runs_edges_Or_1 k).F x = (ev (G_runs_edges_Or_1 k) body_runs_edges_Or_1 (head (sig_runs_edges_Or_1 k).ps (ofTup (sig_runs_edges_Or_1 k).ps.shs x))).den (funEnd (G_runs_edges_Or_1 k) Go.Proofs.Tryd.f28.results.toList 0 (sig_runs_edges_Or_1 k).rs) := by kernel_rfl
theorem calls_runs_edges_Or_1 (k : Nat) : CallsOK Go.Proofs.Tryd.prog gl (G_runs_edges_Or_1 k) := callsOK_tab (G := G_runs_edges_Or_1 k) (tab := [(31, sig_runs_Or_1 k)]) (all_cons (ok_runs_Or_1 k) all_nil)
theorem loop_runs_edges_Or_1_11 (C : Ctx) (hP : C.P = Go.Proofs.Tryd.prog) (hgl : C.gl = gl) (hm : C.m = 0) (hN : C.N = Go.Proofs.Tryd.f28.ntmps) (k : Nat) : LoopOK C (G_runs_edges_Or_1 k) lb_runs_edges_Or_1_11 :=
  LoopOK.of (by rw [hP]; exact mix_ok) (hd := (ls_runs_edges_Or_1_11 0).hd) (ex := (ls_runs_edges_Or_1_11 0).ex) (F := fun k => (ls_runs_edges_Or_1_11 k).F) (Gk := G_runs_edges_Or_1) (fun k => gok hP hgl hm hN rfl (by kernel_rfl) rfl (ty_ok _ rfl) (calls_runs_edges_Or_1 k)) (fun k => loops_all (n := 0) (by kernel_rfl) lt_all0) (fun x => rfl)
    (fun k x => by rw [hm]; exact rfl_runs_edges_Or_1_11 k x) k (fun S => by rw [hm]; kernel_rfl)
theorem loop_runs_edges_Or_1_13 (C : Ctx) (hP : C.P = Go.Proofs.Tryd.prog) (hgl : C.gl = gl) (hm : C.m = 0) (hN : C.N = Go.Proofs.Tryd.f28.ntmps) (k : Nat) : LoopOK C (G_runs_edges_Or_1 k) lb_runs_edges_Or_1_13 :=
  LoopOK.of (by rw [hP]; exact mix_ok) (hd := (ls_runs_edges_Or_1_13 0).hd) (ex := (ls_runs_edges_Or_1_13 0).ex) (F := fun k => (ls_runs_edges_Or_1_13 k).F) (Gk := G_runs_edges_Or_1) (fun k => gok hP hgl hm hN rfl (by kernel_rfl) rfl (ty_ok _ rfl) (calls_runs_edges_Or_1 k)) (fun k => loops_all (n := 0) (by kernel_rfl) lt_all0) (fun x => rfl)
    (fun k x => by rw [hm]; exact rfl_runs_edges_Or_1_13 k x) k (fun S => by rw [hm]; kernel_rfl)
theorem loop_runs_edges_Or_1_5 (C : Ctx) (hP : C.P = Go.Proofs.Tryd.prog) (hgl : C.gl = gl) (hm : C.m = 0) (hN : C.N = Go.Proofs.Tryd.f28.ntmps) (k : Nat) : LoopOK C (G_runs_edges_Or_1 k) lb_runs_edges_Or_1_5 :=
  LoopOK.of (by rw [hP]; exact mix_ok) (hd := (ls_runs_edges_Or_1_5 0).hd) (ex := (ls_runs_edges_Or_1_5 0).ex) (F := fun k => (ls_runs_edges_Or_1_5 k).F) (Gk := G_runs_edges_Or_1) (fun k => gok hP hgl hm hN rfl (by kernel_rfl) rfl (ty_ok _ rfl) (calls_runs_edges_Or_1 k)) (fun k => loops_all (n := 2) (by kernel_rfl) (lt_allS (lt_allS lt_all0 (loop_runs_edges_Or_1_11 C hP hgl hm hN k)) (loop_runs_edges_Or_1_13 C hP hgl hm hN k))) (fun x => rfl)
    (fun k x => by rw [hm]; exact rfl_runs_edges_Or_1_5 k x) k (fun S => by rw [hm]; kernel_rfl)
theorem bodyok_runs_edges_Or_1 (k : Nat) : BodyOK Go.Proofs.Tryd.prog gl (G_runs_edges_Or_1 k) Go.Proofs.Tryd.f28 body_runs_edges_Or_1 (sig_runs_edges_Or_1 k).ps (sig_runs_edges_Or_1 k).rs :=
  ⟨rfl, by kernel_rfl, rfl, ty_ok _ rfl, calls_runs_edges_Or_1 k, by kernel_rfl, by kernel_rfl, fun C hP hgl hm hN => loops_all (n := 1) (by kernel_rfl) (lt_allS lt_all0 (loop_runs_edges_Or_1_5 C hP hgl hm hN k))⟩
theorem ok_runs_edges_Or_1 (k : Nat) : FnOK Go.Proofs.Tryd.prog gl 28 (sig_runs_edges_Or_1 k) :=
  fun_ok (G := G_runs_edges_Or_1 k) (ps := (sig_runs_edges_Or_1 k).ps) (rs := (sig_runs_edges_Or_1 k).rs) (F := (sig_runs_edges_Or_1 k).F) mix_ok Go.Proofs.Tryd.func28 (c := body_runs_edges_Or_1) (by kernel_rfl) (by kernel_rfl) (bodyok_runs_edges_Or_1 k) (rfl_runs_edges_Or_1 k)

noncomputable def body_runs_Or : Code := bodyOf Go.Proofs.Tryd.f8
noncomputable def sig_runs_Or (k : Nat) : Sig := ⟨⟨[], [(0, .d (.sl (.st (.pair (.int .u16) (.int .u16))))), (1, .d (.sl (.st (.pair (.int .u16) (.int .u16)))))]⟩, ⟨[], [(0, .d (.sl (.st (.pair (.int .u16) (.int .u16)))))]⟩, fun x => runs_Or k x.1 x.2⟩
noncomputable def G_runs_Or (k : Nat) : Gl := { m := 0, n := 10, gl := gl, ty := ty, fz := fz, fn := fnTab [(29, sig_runs_row k), (28, sig_runs_edges_Or_1 k)], lp := lpTab 0 [] }
theorem rfl_runs_Or (k : Nat) (x) : (sig_runs_Or k).F x = (ev (G_runs_Or k) body_runs_Or (head (sig_runs_Or k).ps (ofTup (sig_runs_Or k).ps.shs x))).den (funEnd (G_runs_Or k) Go.Proofs.Tryd.f8.results.toList 0 (sig_runs_Or k).rs) := by kernel_rfl
theorem calls_runs_Or (k : Nat) : CallsOK Go.Proofs.Tryd.prog gl (G_runs_Or k) := callsOK_tab (G := G_runs_Or k) (tab := [(29, sig_runs_row k), (28, sig_runs_edges_Or_1 k)]) (all_cons (ok_runs_row k) (all_cons (ok_runs_edges_Or_1 k) all_nil))
theorem bodyok_runs_Or (k : Nat) : BodyOK Go.Proofs.Tryd.prog gl (G_runs_Or k) Go.Proofs.Tryd.f8 body_runs_Or (sig_runs_Or k).ps (sig_runs_Or k).rs :=
  ⟨rfl, by kernel_rfl, rfl, ty_ok _ rfl, calls_runs_Or k, by kernel_rfl, by kernel_rfl, fun C hP hgl hm hN => loops_all (n := 0) (by kernel_rfl) lt_all0⟩
theorem ok_runs_Or (k : Nat) : FnOK Go.Proofs.Tryd.prog gl 8 (sig_runs_Or k) :=
  fun_ok (G := G_runs_Or k) (ps := (sig_runs_Or k).ps) (rs := (sig_runs_Or k).rs) (F := (sig_runs_Or k).F) mix_ok Go.Proofs.Tryd.func8 (c := body_runs_Or) (by kernel_rfl) (by kernel_rfl) (bodyok_runs_Or k) (rfl_runs_Or k)

noncomputable def body_runs_AndNot_1 : Code := bodyOf Go.Proofs.Tryd.f32
noncomputable def sig_runs_AndNot_1 (k : Nat) : Sig := ⟨⟨[], [(0, .d .bool), (1, .d .bool)]⟩, ⟨[], [(0, .d .bool)]⟩, fun x => runs_AndNot_1 k x.1 x.2⟩
noncomputable def G_runs_AndNot_1 (k : Nat) : Gl := { m := 0, n := 10, gl := gl, ty := ty, fz := fz, fn := fnTab [], lp := lpTab 0 [] }
theorem rfl_runs_AndNot_1 (k : Nat) (x) : (sig_runs_AndNot_1 k).F x = (ev (G_runs_AndNot_1 k) body_runs_AndNot_1 (head (sig_runs_AndNot_1 k).ps (ofTup (sig_runs_AndNot_1 k).ps.shs x))).den (funEnd (G_runs_AndNot_1 k) Go.Proofs.Tryd.f32.results.toList 0 (sig_runs_AndNot_1 k).rs) := by kernel_rfl
theorem calls_runs_AndNot_1 (k : Nat) : CallsOK Go.Proofs.Tryd.prog gl (G_runs_AndNot_1 k) := callsOK_tab (G := G_runs_AndNot_1 k) (tab := []) all_nil
theorem bodyok_runs_AndNot_1 (k : Nat) : BodyOK Go.Proofs.Tryd.prog gl (G_runs_AndNot_1 k) Go.Proofs.Tryd.f32 body_runs_AndNot_1 (sig_runs_AndNot_1 k).ps (sig_runs_AndNot_1 k).rs :=
  ⟨rfl, by kernel_rfl, rfl, ty_ok _ rfl, calls_runs_AndNot_1 k, by kernel_rfl, by kernel_rfl, fun C hP hgl hm hN => loops_all (n := 0) (by kernel_rfl) lt_all0⟩
theorem ok_runs_AndNot_1 (k : Nat) : FnOK Go.Proofs.Tryd.prog gl 32 (sig_runs_AndNot_1 k) :=
  fun_ok (G := G_runs_AndNot_1 k) (ps := (sig_runs_AndNot_1 k).ps) (rs := (sig_runs_AndNot_1 k).rs) (F := (sig_runs_AndNot_1 k).F) mix_ok Go.Proofs.Tryd.func32 (c := body_runs_AndNot_1) (by kernel_rfl) (by kernel_rfl) (bodyok_runs_AndNot_1 k) (rfl_runs_AndNot_1 k)

noncomputable def body_runs_edges_AndNot_1 : Code := bodyOf Go.Proofs.Tryd.f28
noncomputable def lb_runs_edges_AndNot_1_5 : Code := (loops body_runs_edges_AndNot_1).getD 0 .skip
noncomputable def lb_runs_edges_AndNot_1_11 : Code := (loops lb_runs_edges_AndNot_1_5).getD 0 .skip
noncomputable def lb_runs_edges_AndNot_1_13 : Code := (loops lb_runs_edges_AndNot_1_5).getD 1 .skip
noncomputable def ls_runs_edges_AndNot_1_11 (k : Nat) : LSig := ⟨⟨[(.tmp 7, .grow false (.st (.pair (.int .u16) (.int .u16))) 40)], [(0, .d (.sl (.int .i64))), (1, .d (.sl (.int .i64))), (2, .fn 32 [] []), (7, .own 0), (8, .d .bool), (9, .d (.int .i64)), (10, .d (.int .i64)), (11, .d (.int .i64)), (12, .d (.int .i64))]⟩, [(.exit 2, ⟨[(.tmp 7, .grow false (.st (.pair (.int .u16) (.int .u16))) 40)], [(0, .d (.sl (.int .i64))), (1, .d (.sl (.int .i64))), (2, .fn 32 [] []), (7, .own 0), (8, .d .bool), (9, .d (.int .i64)), (10, .d (.int .i64)), (11, .d (.int .i64)), (12, .d (.int .i64))]⟩)], fun x => runs_edges_AndNot_1_l1 k x.1 x.2.1 x.2.2.1 x.2.2.2.1 x.2.2.2.2.1 x.2.2.2.2.2.1 x.2.2.2.2.2.2.1 x.2.2.2.2.2.2.2⟩
noncomputable def ls_runs_edges_AndNot_1_13 (k : Nat) : LSig := ⟨⟨[(.tmp 7, .grow false (.st (.pair (.int .u16) (.int .u16))) 40)], [(0, .d (.sl (.int .i64))), (1, .d (.sl (.int .i64))), (2, .fn 32 [] []), (7, .own 0), (8, .d .bool), (9, .d (.int .i64)), (10, .d (.int .i64)), (11, .d (.int .i64)), (12, .d (.int .i64))]⟩, [(.exit 4, ⟨[(.tmp 7, .grow false (.st (.pair (.int .u16) (.int .u16))) 40)], [(0, .d (.sl (.int .i64))), (1, .d (.sl (.int .i64))), (2, .fn 32 [] []), (7, .own 0), (8, .d .bool), (9, .d (.int .i64)), (10, .d (.int .i64)), (11, .d (.int .i64)), (12, .d (.int .i64))]⟩)], fun x => runs_edges_AndNot_1_l2 k x.1 x.2.1 x.2.2.1 x.2.2.2.1 x.2.2.2.2.1 x.2.2.2.2.2.1 x.2.2.2.2.2.2.1 x.2.2.2.2.2.2.2⟩
noncomputable def ls_runs_edges_AndNot_1_5 (k : Nat) : LSig := ⟨⟨[(.tmp 7, .grow false (.st (.pair (.int .u16) (.int .u16))) 40)], [(0, .d (.sl (.int .i64))), (1, .d (.sl (.int .i64))), (2, .fn 32 [] []), (7, .own 0), (8, .d .bool), (9, .d (.int .i64)), (10, .d (.int .i64)), (11, .d (.int .i64))]⟩, [(.exit 0, ⟨[(.tmp 7, .grow false (.st (.pair (.int .u16) (.int .u16))) 40)], [(7, .own 0)]⟩)], fun x => runs_edges_AndNot_1_l0 k x.1 x.2.1 x.2.2.1 x.2.2.2.1 x.2.2.2.2.1 x.2.2.2.2.2.1 x.2.2.2.2.2.2⟩
noncomputable def sig_runs_edges_AndNot_1 (k : Nat) : Sig := ⟨⟨[], [(0, .d (.sl (.int .i64))), (1, .d (.sl (.int .i64))), (2, .fn 32 [] [])]⟩, ⟨[], [(0, .d (.sl (.st (.pair (.int .u16) (.int .u16)))))]⟩, fun x => runs_edges_AndNot_1 k x.1 x.2⟩
noncomputable def G_runs_edges_AndNot_1 (k : Nat) : Gl := { m := 0, n := 96, gl := gl, ty := ty, fz := fz, fn := fnTab [(32, sig_runs_AndNot_1 k)], lp := lpTab 0 [(11, ls_runs_edges_AndNot_1_11 k), (13, ls_runs_edges_AndNot_1_13 k), (5, ls_runs_edges_AndNot_1_5 k)] }
theorem rfl_runs_edges_AndNot_1_11 (k : Nat) (x) : (ls_runs_edges_AndNot_1_11 (k + 1)).F x = (ev (G_runs_edges_AndNot_1 k) lb_runs_edges_AndNot_1_11 (head (ls_runs_edges_AndNot_1_11 k).hd (ofTup (ls_runs_edges_AndNot_1_11 k).hd.shs x))).den (roundEnd 0 (ls_runs_edges_AndNot_1_11 k)) := by kernel_rfl
theorem rfl_runs_edges_AndNot_1_13 (k : Nat) (x) : (ls_runs_edges_AndNot_1_13 (k + 1)).F x = (ev (G_runs_edges_AndNot_1 k) lb_runs_edges_AndNot_1_13 (head (ls_runs_edges_AndNot_1_13 k).hd (ofTup (ls_runs_edges_AndNot_1_13 k).hd.shs x))).den (roundEnd 0 (ls_runs_edges_AndNot_1_13 k)) := by kernel_rfl
theorem rfl_runs_edges_AndNot_1_5 (k : Nat) (x) : (ls_runs_edges_AndNot_1_5 (k + 1)).F x = (ev (G_runs_edges_AndNot_1 k) lb_runs_edges_AndNot_1_5 (head (ls_runs_edges_AndNot_1_5 k).hd (ofTup (ls_runs_edges_AndNot_1_5 k).hd.shs x))).den (roundEnd 0 (ls_runs_edges_AndNot_1_5 k)) := by kernel_rfl
theorem rfl_runs_edges_AndNot_1 (k : Nat) (x) : (sig_runs_edges_AndNot_1 k).F x = (ev (G_runs_edges_AndNot_1 k) body_runs_edges_AndNot_1 (head (sig_runs_edges_AndNot_1 k).ps (ofTup (sig_runs_edges_AndNot_1 k).ps.shs x))).den (funEnd (G_runs_edges_AndNot_1 k) Go.Proofs.Tryd.f28.results.toList 0 (sig_runs_edges_AndNot_1 k).rs) := by kernel_rfl
theorem calls_runs_edges_AndNot_1 (k : Nat) : CallsOK Go.Proofs.Tryd.prog gl (G_runs_edges_AndNot_1 k) := callsOK_tab (G := G_runs_edges_AndNot_1 k) (tab := [(32, sig_runs_AndNot_1 k)]) (all_cons (ok_runs_AndNot_1 k) all_nil)
theorem loop_runs_edges_AndNot_1_11 (C : Ctx) (hP : C.P = Go.Proofs.Tryd.prog) (hgl : C.gl = gl) (hm : C.m = 0) (hN : C.N = Go.Proofs.Tryd.f28.ntmps) (k : Nat) : LoopOK C (G_runs_edges_AndNot_1 k) lb_runs_edges_AndNot_1_11 :=
  LoopOK.of (by rw [hP]; exact mix_ok) (hd := (ls_runs_edges_AndNot_1_11 0).hd) (ex := (ls_runs_edges_AndNot_1_11 0).ex) (F := fun k => (ls_runs_edges_AndNot_1_11 k).F) (Gk := G_runs_edges_AndNot_1) (fun k => gok hP hgl hm hN rfl (by kernel_rfl) rfl (ty_ok _ rfl) (calls_runs_edges_AndNot_1 k)) (fun k => loops_all (n := 0) (by kernel_rfl) lt_all0) (fun x => rfl)
    (fun k x => by rw [hm]; exact rfl_runs_edges_AndNot_1_11 k x) k (fun S => by rw [hm]; kernel_rfl)
theorem loop_runs_edges_AndNot_1_13 (C : Ctx) (hP : C.P = Go.Proofs.Tryd.prog) (hgl : C.gl = gl) (hm : C.m = 0) (hN : C.N = Go.Proofs.Tryd.f28.ntmps) (k : Nat) : LoopOK C (G_runs_edges_AndNot_1 k) lb_runs_edges_AndNot_1_13 :=
  LoopOK.of (by rw [hP]; exact mix_ok) (hd := (ls_runs_edges_AndNot_1_13 0).hd) (ex := (ls_runs_edges_AndNot_1_13 0).ex) (F := fun k => (ls_runs_edges_AndNot_1_13 k).F) (Gk := G_runs_edges_AndNot_1) (fun k => gok hP hgl hm hN rfl (by kernel_rfl) rfl (ty_ok _ rfl) (calls_runs_edges_AndNot_1 k)) (fun k => loops_all (n := 0) (by kernel_rfl) lt_all0) (fun x => rfl)
    (fun k x => by rw [hm]; exact rfl_runs_edges_AndNot_1_13 k x) k (fun S => by rw [hm]; kernel_rfl)
theorem loop_runs_edges_AndNot_1_5 (C : Ctx) (hP : C.P = Go.Proofs.Tryd.prog) (hgl : C.gl = gl) (hm : C.m = 0) (hN : C.N = Go.Proofs.Tryd.f28.ntmps) (k : Nat) : LoopOK C (G_runs_edges_AndNot_1 k) lb_runs_edges_AndNot_1_5 :=
  LoopOK.of (by rw [hP]; exact mix_ok) (hd := (ls_runs_edges_AndNot_1_5 0).hd) (ex := (ls_runs_edges_AndNot_1_5 0).ex) (F := fun k => (ls_runs_edges_AndNot_1_5 k).F) (Gk := G_runs_edges_AndNot_1) (fun k => gok hP hgl hm hN rfl (by kernel_rfl) rfl (ty_ok _ rfl) (calls_runs_edges_AndNot_1 k)) (fun k => loops_all (n := 2) (by kernel_rfl) (lt_allS (lt_allS lt_all0 (loop_runs_edges_AndNot_1_11 C hP hgl hm hN k)) (loop_runs_edges_AndNot_1_13 C hP hgl hm hN k))) (fun x => rfl)
    (fun k x => by rw [hm]; exact rfl_runs_edges_AndNot_1_5 k x) k (fun S => by rw [hm]; kernel_rfl)
theorem bodyok_runs_edges_AndNot_1 (k : Nat) : BodyOK Go.Proofs.Tryd.prog gl (G_runs_edges_AndNot_1 k) Go.Proofs.Tryd.f28 body_runs_edges_AndNot_1 (sig_runs_edges_AndNot_1 k).ps (sig_runs_edges_AndNot_1 k).rs :=
  ⟨rfl, by kernel_rfl, rfl, ty_ok _ rfl, calls_runs_edges_AndNot_1 k, by kernel_rfl, by kernel_rfl, fun C hP hgl hm hN => loops_all (n := 1) (by kernel_rfl) (lt_allS lt_all0 (loop_runs_edges_AndNot_1_5 C hP hgl hm hN k))⟩
theorem ok_runs_edges_AndNot_1 (k : Nat) : FnOK Go.Proofs.Tryd.prog gl 28 (sig_runs_edges_AndNot_1 k) :=
  fun_ok (G := G_runs_edges_AndNot_1 k) (ps := (sig_runs_edges_AndNot_1 k).ps) (rs := (sig_runs_edges_AndNot_1 k).rs) (F := (sig_runs_edges_AndNot_1 k).F) mix_ok Go.Proofs.Tryd.func28 (c := body_runs_edges_AndNot_1) (by kernel_rfl) (by kernel_rfl) (bodyok_runs_edges_AndNot_1 k) (rfl_runs_edges_AndNot_1 k)

noncomputable def body_runs_AndNot : Code := bodyOf Go.Proofs.Tryd.f9
noncomputable def sig_runs_AndNot (k : Nat) : Sig := ⟨⟨[], [(0, .d (.sl (.st (.pair (.int .u16) (.int .u16))))), (1, .d (.sl (.st (.pair (.int .u16) (.int .u16)))))]⟩, ⟨[], [(0, .d (.sl (.st (.pair (.int .u16) (.int .u16)))))]⟩, fun x => runs_AndNot k x.1 x.2⟩
noncomputable def G_runs_AndNot (k : Nat) : Gl := { m := 0, n := 10, gl := gl, ty := ty, fz := fz, fn := fnTab [(29, sig_runs_row k), (28, sig_runs_edges_AndNot_1 k)], lp := lpTab 0 [] }
theorem rfl_runs_AndNot (k : Nat) (x) : (sig_runs_AndNot k).F x = (ev (G_runs_AndNot k) body_runs_AndNot (head (sig_runs_AndNot k).ps (ofTup (sig_runs_AndNot k).ps.shs x))).den (funEnd (G_runs_AndNot k) Go.Proofs.Tryd.f9.results.toList 0 (sig_runs_AndNot k).rs) := by kernel_rfl
theorem calls_runs_AndNot (k : Nat) : CallsOK Go.Proofs.Tryd.prog gl (G_runs_AndNot k) := callsOK_tab (G := G_runs_AndNot k) (tab := [(29, sig_runs_row k), (28, sig_runs_edges_AndNot_1 k)]) (all_cons (ok_runs_row k) (all_cons (ok_runs_edges_AndNot_1 k) all_nil))
theorem bodyok_runs_AndNot (k : Nat) : BodyOK Go.Proofs.Tryd.prog gl (G_runs_AndNot k) Go.Proofs.Tryd.f9 body_runs_AndNot (sig_runs_AndNot k).ps (sig_runs_AndNot k).rs :=
  ⟨rfl, by kernel_rfl, rfl, ty_ok _ rfl, calls_runs_AndNot k, by kernel_rfl, by kernel_rfl, fun C hP hgl hm hN => loops_all (n := 0) (by kernel_rfl) lt_all0⟩
theorem ok_runs_AndNot (k : Nat) : FnOK Go.Proofs.Tryd.prog gl 9 (sig_runs_AndNot k) :=
  fun_ok (G := G_runs_AndNot k) (ps := (sig_runs_AndNot k).ps) (rs := (sig_runs_AndNot k).rs) (F := (sig_runs_AndNot k).F) mix_ok Go.Proofs.Tryd.func9 (c := body_runs_AndNot) (by kernel_rfl) (by kernel_rfl) (bodyok_runs_AndNot k) (rfl_runs_AndNot k)

noncomputable def body_runs_Xor_1 : Code := bodyOf Go.Proofs.Tryd.f33
noncomputable def sig_runs_Xor_1 (k : Nat) : Sig := ⟨⟨[], [(0, .d .bool), (1, .d .bool)]⟩, ⟨[], [(0, .d .bool)]⟩, fun x => runs_Xor_1 k x.1 x.2⟩
noncomputable def G_runs_Xor_1 (k : Nat) : Gl := { m := 0, n := 8, gl := gl, ty := ty, fz := fz, fn := fnTab [], lp := lpTab 0 [] }
theorem rfl_runs_Xor_1 (k : Nat) (x) : (sig_runs_Xor_1 k).F x = (ev (G_runs_Xor_1 k) body_runs_Xor_1 (head (sig_runs_Xor_1 k).ps (ofTup (sig_runs_Xor_1 k).ps.shs x))).den (funEnd (G_runs_Xor_1 k) Go.Proofs.Tryd.f33.results.toList 0 (sig_runs_Xor_1 k).rs) := by kernel_rfl
theorem calls_runs_Xor_1 (k : Nat) : CallsOK Go.Proofs.Tryd.prog gl (G_runs_Xor_1 k) := callsOK_tab (G := G_runs_Xor_1 k) (tab := []) all_nil
theorem bodyok_runs_Xor_1 (k : Nat) : BodyOK Go.Proofs.Tryd.prog gl (G_runs_Xor_1 k) Go.Proofs.Tryd.f33 body_runs_Xor_1 (sig_runs_Xor_1 k).ps (sig_runs_Xor_1 k).rs :=
  ⟨rfl, by kernel_rfl, rfl, ty_ok _ rfl, calls_runs_Xor_1 k, by kernel_rfl, by kernel_rfl, fun C hP hgl hm hN => loops_all (n := 0) (by kernel_rfl) lt_all0⟩
theorem ok_runs_Xor_1 (k : Nat) : FnOK Go.Proofs.Tryd.prog gl 33 (sig_runs_Xor_1 k) :=
  fun_ok (G := G_runs_Xor_1 k) (ps := (sig_runs_Xor_1 k).ps) (rs := (sig_runs_Xor_1 k).rs) (F := (sig_runs_Xor_1 k).F) mix_ok Go.Proofs.Tryd.func33 (c := body_runs_Xor_1) (by kernel_rfl) (by kernel_rfl) (bodyok_runs_Xor_1 k) (rfl_runs_Xor_1 k)

noncomputable def body_runs_edges_Xor_1 : Code := bodyOf Go.Proofs.Tryd.f28
noncomputable def lb_runs_edges_Xor_1_5 : Code := (loops body_runs_edges_Xor_1).getD 0 .skip
noncomputable def lb_runs_edges_Xor_1_11 : Code := (loops lb_runs_edges_Xor_1_5).getD 0 .skip
noncomputable def lb_runs_edges_Xor_1_13 : Code := (loops lb_runs_edges_Xor_1_5).getD 1 .skip
noncomputable def ls_runs_edges_Xor_1_11 (k : Nat) : LSig := ⟨⟨[(.tmp 7, .grow false (.st (.pair (.int .u16) (.int .u16))) 40)], [(0, .d (.sl (.int .i64))), (1, .d (.sl (.int .i64))), (2, .fn 33 [] []), (7, .own 0), (8, .d .bool), (9, .d (.int .i64)), (10, .d (.int .i64)), (11, .d (.int .i64)), (12, .d (.int .i64))]⟩, [(.exit 2, ⟨[(.tmp 7, .grow false (.st (.pair (.int .u16) (.int .u16))) 40)], [(0, .d (.sl (.int .i64))), (1, .d (.sl (.int .i64))), (2, .fn 33 [] []), (7, .own 0), (8, .d .bool), (9, .d (.int .i64)), (10, .d (.int .i64)), (11, .d (.int .i64)), (12, .d (.int .i64))]⟩)], fun x => runs_edges_Xor_1_l1 k x.1 x.2.1 x.2.2.1 x.2.2.2.1 x.2.2.2.2.1 x.2.2.2.2.2.1 x.2.2.2.2.2.2.1 x.2.2.2.2.2.2.2⟩
noncomputable def ls_runs_edges_Xor_1_13 (k : Nat) : LSig := ⟨⟨[(.tmp 7, .grow false (.st (.pair (.int .u16) (.int .u16))) 40)], [(0, .d (.sl (.int .i64))), (1, .d (.sl (.int .i64))), (2, .fn 33 [] []), (7, .own 0), (8, .d .bool), (9, .d (.int .i64)), (10, .d (.int .i64)), (11, .d (.int .i64)), (12, .d (.int .i64))]⟩, [(.exit 4, ⟨[(.tmp 7, .grow false (.st (.pair (.int .u16) (.int .u16))) 40)], [(0, .d (.sl (.int .i64))), (1, .d (.sl (.int .i64))), (2, .fn 33 [] []), (7, .own 0), (8, .d .bool), (9, .d (.int .i64)), (10, .d (.int .i64)), (11, .d (.int .i64)), (12, .d (.int .i64))]⟩)], fun x => runs_edges_Xor_1_l2 k x.1 x.2.1 x.2.2.1 x.2.2.2.1 x.2.2.2.2.1 x.2.2.2.2.2.1 x.2.2.2.2.2.2.1 x.2.2.2.2.2.2.2⟩
noncomputable def ls_runs_edges_Xor_1_5 (k : Nat) : LSig := ⟨⟨[(.tmp 7, .grow false (.st (.pair (.int .u16) (.int .u16))) 40)], [(0, .d (.sl (.int .i64))), (1, .d (.sl (.int .i64))), (2, .fn 33 [] []), (7, .own 0), (8, .d .bool), (9, .d (.int .i64)), (10, .d (.int .i64)), (11, .d (.int .i64))]⟩, [(.exit 0, ⟨[(.tmp 7, .grow false (.st (.pair (.int .u16) (.int .u16))) 40)], [(7, .own 0)]⟩)], fun x => runs_edges_Xor_1_l0 k x.1 x.2.1 x.2.2.1 x.2.2.2.1 x.2.2.2.2.1 x.2.2.2.2.2.1 x.2.2.2.2.2.2⟩
noncomputable def sig_runs_edges_Xor_1 (k : Nat) : Sig := ⟨⟨[], [(0, .d (.sl (.int .i64))), (1, .d (.sl (.int .i64))), (2, .fn 33 [] [])]⟩, ⟨[], [(0, .d (.sl (.st (.pair (.int .u16) (.int .u16)))))]⟩, fun x => runs_edges_Xor_1 k x.1 x.2⟩
noncomputable def G_runs_edges_Xor_1 (k : Nat) : Gl := { m := 0, n := 96, gl := gl, ty := ty, fz := fz, fn := fnTab [(33, sig_runs_Xor_1 k)], lp := lpTab 0 [(11, ls_runs_edges_Xor_1_11 k), (13, ls_runs_edges_Xor_1_13 k), (5, ls_runs_edges_Xor_1_5 k)] }
theorem rfl_runs_edges_Xor_1_11 (k : Nat) (x) : (ls_runs_edges_Xor_1_11 (k + 1)).F x = (ev (G_runs_edges_Xor_1 k) lb_runs_edges_Xor_1_11 (head (ls_runs_edges_Xor_1_11 k).hd (ofTup (ls_runs_edges_Xor_1_11 k).hd.shs x))).den (roundEnd 0 (ls_runs_edges_Xor_1_11 k)) := by kernel_rfl
theorem rfl_runs_edges_Xor_1_13 (k : Nat) (x) : (ls_runs_edges_Xor_1_13 (k + 1)).F x = (ev (G_runs_edges_Xor_1 k) lb_runs_edges_Xor_1_13 (head (ls_runs_edges_Xor_1_13 k).hd (ofTup (ls_runs_edges_Xor_1_13 k).hd.shs x))).den (roundEnd 0 (ls_runs_edges_Xor_1_13 k)) := by kernel_rfl
theorem rfl_runs_edges_Xor_1_5 (k : Nat) (x) : (ls_runs_edges_Xor_1_5 (k + 1)).F x = (ev (G_runs_edges_Xor_1 k) lb_runs_edges_Xor_1_5 (head (ls_runs_edges_Xor_1_5 k).hd (ofTup (ls_runs_edges_Xor_1_5 k).hd.shs x))).den (roundEnd 0 (ls_runs_edges_Xor_1_5 k)) := by kernel_rfl
theorem rfl_runs_edges_Xor_1 (k : Nat) (x) : (sig_runs_edges_Xor_1 k).F x = (ev (G_runs_edges_Xor_1 k) body_runs_edges_Xor_1 (head (sig_runs_edges_Xor_1 k).ps (ofTup (sig_runs_edges_Xor_1 k).ps.shs x))).den (funEnd (G_runs_edges_Xor_1 k) Go.Proofs.Tryd.f28.results.toList 0 (sig_runs_edges_Xor_1 k).rs) := by kernel_rfl
theorem calls_runs_edges_Xor_1 (k : Nat) : CallsOK Go.Proofs.Tryd.prog gl (G_runs_edges_Xor_1 k) := callsOK_tab (G := G_runs_edges_Xor_1 k) (tab := [(33, sig_runs_Xor_1 k)]) (all_cons (ok_runs_Xor_1 k) all_nil)
theorem loop_runs_edges_Xor_1_11 (C : Ctx) (hP : C.P = Go.Proofs.Tryd.prog) (hgl : C.gl = gl) (hm : C.m = 0) (hN : C.N = Go.Proofs.Tryd.f28.ntmps) (k : Nat) : LoopOK C (G_runs_edges_Xor_1 k) lb_runs_edges_Xor_1_11 :=
  LoopOK.of (by rw [hP]; exact mix_ok) (hd := (ls_runs_edges_Xor_1_11 0).hd) (ex := (ls_runs_edges_Xor_1_11 0).ex) (F := fun k => (ls_runs_edges_Xor_1_11 k).F) (Gk := G_runs_edges_Xor_1) (fun k => gok hP hgl hm hN rfl (by kernel_rfl) rfl (ty_ok _ rfl) (calls_runs_edges_Xor_1 k)) (fun k => loops_all (n := 0) (by kernel_rfl) lt_all0) (fun x => rfl)
    (fun k x => by rw [hm]; exact rfl_runs_edges_Xor_1_11 k x) k (fun S => by rw [hm]; kernel_rfl)
theorem loop_runs_edges_Xor_1_13 (C : Ctx) (hP : C.P = Go.Proofs.Tryd.prog) (hgl : C.gl = gl) (hm : C.m = 0) (hN : C.N = Go.Proofs.Tryd.f28.ntmps) (k : Nat) : LoopOK C (G_runs_edges_Xor_1 k) lb_runs_edges_Xor_1_13 :=
  LoopOK.of (by rw [hP]; exact mix_ok) (hd := (ls_runs_edges_Xor_1_13 0).hd) (ex := (ls_runs_edges_Xor_1_13 0).ex) (F := fun k => (ls_runs_edges_Xor_1_13 k).F) (Gk := G_runs_edges_Xor_1) (fun k => gok hP hgl hm hN rfl (by kernel_rfl) rfl (ty_ok _ rfl) (calls_runs_edges_Xor_1 k)) (fun k => loops_all (n := 0) (by kernel_rfl) lt_all0) (fun x => rfl)
    (fun k x => by rw [hm]; exact rfl_runs_edges_Xor_1_13 k x) k (fun S => by rw [hm]; kernel_rfl)
theorem loop_runs_edges_Xor_1_5 (C : Ctx) (hP : C.P = Go.Proofs.Tryd.prog) (hgl : C.gl = gl) (hm : C.m = 0) (hN : C.N = Go.Proofs.Tryd.f28.ntmps) (k : Nat) : LoopOK C (G_runs_edges_Xor_1 k) lb_runs_edges_Xor_1_5 :=
  LoopOK.of (by rw [hP]; exact mix_ok) (hd := (ls_runs_edges_Xor_1_5 0).hd) (ex := (ls_runs_edges_Xor_1_5 0).ex) (F := fun k => (ls_runs_edges_Xor_1_5 k).F) (Gk := G_runs_edges_Xor_1) (fun k => gok hP hgl hm hN rfl (by kernel_rfl) rfl (ty_ok _ rfl) (calls_runs_edges_Xor_1 k)) (fun k => loops_all (n := 2) (by kernel_rfl) (lt_allS (lt_allS lt_all0 (loop_runs_edges_Xor_1_11 C hP hgl hm hN k)) (loop_runs_edges_Xor_1_13 C hP hgl hm hN k))) (fun x => rfl)
    (fun k x => by rw [hm]; exact rfl_runs_edges_Xor_1_5 k x) k (fun S => by rw [hm]; kernel_rfl)
theorem bodyok_runs_edges_Xor_1 (k : Nat) : BodyOK Go.Proofs.Tryd.prog gl (G_runs_edges_Xor_1 k) Go.Proofs.Tryd.f28 body_runs_edges_Xor_1 (sig_runs_edges_Xor_1 k).ps (sig_runs_edges_Xor_1 k).rs :=
  ⟨rfl, by kernel_rfl, rfl, ty_ok _ rfl, calls_runs_edges_Xor_1 k, by kernel_rfl, by kernel_rfl, fun C hP hgl hm hN => loops_all (n := 1) (by kernel_rfl) (lt_allS lt_all0 (loop_runs_edges_Xor_1_5 C hP hgl hm hN k))⟩
theorem ok_runs_edges_Xor_1 (k : Nat) : FnOK Go.Proofs.Tryd.prog gl 28 (sig_runs_edges_Xor_1 k) :=
  fun_ok (G := G_runs_edges_Xor_1 k) (ps := (sig_runs_edges_Xor_1 k).ps) (rs := (sig_runs_edges_Xor_1 k).rs) (F := (sig_runs_edges_Xor_1 k).F) mix_ok Go.Proofs.Tryd.func28 (c := body_runs_edges_Xor_1) (by kernel_rfl) (by kernel_rfl) (bodyok_runs_edges_Xor_1 k) (rfl_runs_edges_Xor_1 k)

noncomputable def body_runs_Xor : Code := bodyOf Go.Proofs.Tryd.f10
noncomputable def sig_runs_Xor (k : Nat) : Sig := ⟨⟨[], [(0, .d (.sl (.st (.pair (.int .u16) (.int .u16))))), (1, .d (.sl (.st (.pair (.int .u16) (.int .u16)))))]⟩, ⟨[], [(0, .d (.sl (.st (.pair (.int .u16) (.int .u16)))))]⟩, fun x => runs_Xor k x.1 x.2⟩
noncomputable def G_runs_Xor (k : Nat) : Gl := { m := 0, n := 10, gl := gl, ty := ty, fz := fz, fn := fnTab [(29, sig_runs_row k), (28, sig_runs_edges_Xor_1 k)], lp := lpTab 0 [] }
theorem rfl_runs_Xor (k : Nat) (x) : (sig_runs_Xor k).F x = (ev (G_runs_Xor k) body_runs_Xor (head (sig_runs_Xor k).ps (ofTup (sig_runs_Xor k).ps.shs x))).den (funEnd (G_runs_Xor k) Go.Proofs.Tryd.f10.results.toList 0 (sig_runs_Xor k).rs) := by kernel_rfl
theorem calls_runs_Xor (k : Nat) : CallsOK Go.Proofs.Tryd.prog gl (G_runs_Xor k) := callsOK_tab (G := G_runs_Xor k) (tab := [(29, sig_runs_row k), (28, sig_runs_edges_Xor_1 k)]) (all_cons (ok_runs_row k) (all_cons (ok_runs_edges_Xor_1 k) all_nil))
theorem bodyok_runs_Xor (k : Nat) : BodyOK Go.Proofs.Tryd.prog gl (G_runs_Xor k) Go.Proofs.Tryd.f10 body_runs_Xor (sig_runs_Xor k).ps (sig_runs_Xor k).rs :=
  ⟨rfl, by kernel_rfl, rfl, ty_ok _ rfl, calls_runs_Xor k, by kernel_rfl, by kernel_rfl, fun C hP hgl hm hN => loops_all (n := 0) (by kernel_rfl) lt_all0⟩
theorem ok_runs_Xor (k : Nat) : FnOK Go.Proofs.Tryd.prog gl 10 (sig_runs_Xor k) :=
  fun_ok (G := G_runs_Xor k) (ps := (sig_runs_Xor k).ps) (rs := (sig_runs_Xor k).rs) (F := (sig_runs_Xor k).F) mix_ok Go.Proofs.Tryd.func10 (c := body_runs_Xor) (by kernel_rfl) (by kernel_rfl) (bodyok_runs_Xor k) (rfl_runs_Xor k)

noncomputable def body_words_And_1 : Code := bodyOf Go.Proofs.Tryd.f35
noncomputable def sig_words_And_1 (k : Nat) : Sig := ⟨⟨[], [(0, .d (.int .u64)), (1, .d (.int .u64))]⟩, ⟨[], [(0, .d (.int .u64))]⟩, fun x => words_And_1 k x.1 x.2⟩
noncomputable def G_words_And_1 (k : Nat) : Gl := { m := 0, n := 8, gl := gl, ty := ty, fz := fz, fn := fnTab [], lp := lpTab 0 [] }
theorem rfl_words_And_1 (k : Nat) (x) : (sig_words_And_1 k).F x = (ev (G_words_And_1 k) body_words_And_1 (head (sig_words_And_1 k).ps (ofTup (sig_words_And_1 k).ps.shs x))).den (funEnd (G_words_And_1 k) Go.Proofs.Tryd.f35.results.toList 0 (sig_words_And_1 k).rs) := by kernel_rfl
theorem calls_words_And_1 (k : Nat) : CallsOK Go.Proofs.Tryd.prog gl (G_words_And_1 k) := callsOK_tab (G := G_words_And_1 k) (tab := []) all_nil
theorem bodyok_words_And_1 (k : Nat) : BodyOK Go.Proofs.Tryd.prog gl (G_words_And_1 k) Go.Proofs.Tryd.f35 body_words_And_1 (sig_words_And_1 k).ps (sig_words_And_1 k).rs :=
  ⟨rfl, by kernel_rfl, rfl, ty_ok _ rfl, calls_words_And_1 k, by kernel_rfl, by kernel_rfl, fun C hP hgl hm hN => loops_all (n := 0) (by kernel_rfl) lt_all0⟩
theorem ok_words_And_1 (k : Nat) : FnOK Go.Proofs.Tryd.prog gl 35 (sig_words_And_1 k) :=
  fun_ok (G := G_words_And_1 k) (ps := (sig_words_And_1 k).ps) (rs := (sig_words_And_1 k).rs) (F := (sig_words_And_1 k).F) mix_ok Go.Proofs.Tryd.func35 (c := body_words_And_1) (by kernel_rfl) (by kernel_rfl) (bodyok_words_And_1 k) (rfl_words_And_1 k)

noncomputable def body_words_each_And_1 : Code := bodyOf Go.Proofs.Tryd.f34
noncomputable def lb_words_each_And_1_4 : Code := (loops body_words_each_And_1).getD 0 .skip
noncomputable def ls_words_each_And_1_4 (k : Nat) : LSig := ⟨⟨[(.tmp 7, .grow false (.int .u64) 53)], [(0, .d (.sl (.int .u64))), (1, .d (.sl (.int .u64))), (2, .fn 35 [] []), (7, .own 0), (14, .d (.int .i64)), (15, .d (.int .i64))]⟩, [(.exit 0, ⟨[(.tmp 7, .grow false (.int .u64) 53)], [(7, .own 0)]⟩)], fun x => words_each_And_1_l0 k x.1 x.2.1 x.2.2.1 x.2.2.2.1 x.2.2.2.2⟩
noncomputable def sig_words_each_And_1 (k : Nat) : Sig := ⟨⟨[], [(0, .d (.sl (.int .u64))), (1, .d (.sl (.int .u64))), (2, .fn 35 [] [])]⟩, ⟨[], [(0, .d (.sl (.int .u64)))]⟩, fun x => words_each_And_1 k x.1 x.2⟩
noncomputable def G_words_each_And_1 (k : Nat) : Gl := { m := 0, n := 33, gl := gl, ty := ty, fz := fz, fn := fnTab [(35, sig_words_And_1 k)], lp := lpTab 0 [(4, ls_words_each_And_1_4 k)] }
theorem rfl_words_each_And_1_4 (k : Nat) (x) : (ls_words_each_And_1_4 (k + 1)).F x = (ev (G_words_each_And_1 k) lb_words_each_And_1_4 (head (ls_words_each_And_1_4 k).hd (ofTup (ls_words_each_And_1_4 k).hd.shs x))).den (roundEnd 0 (ls_words_each_And_1_4 k)) := by kernel_rfl
theorem rfl_words_each_And_1 (k : Nat) (x) : (sig_words_each_And_1 k).F x = (ev (G_words_each_And_1 k) body_words_each_And_1 (head (sig_words_each_And_1 k).ps (ofTup (sig_words_each_And_1 k).ps.shs x))).den (funEnd (G_words_each_And_1 k) Go.Proofs.Tryd.f34.results.toList 0 (sig_words_each_And_1 k).rs) := by kernel_rfl
theorem calls_words_each_And_1 (k : Nat) : CallsOK Go.Proofs.Tryd.prog gl (G_words_each_And_1 k) := callsOK_tab (G := G_words_each_And_1 k) (tab := [(35, sig_words_And_1 k)]) (all_cons (ok_words_And_1 k) all_nil)
theorem loop_words_each_And_1_4 (C : Ctx) (hP : C.P = Go.Proofs.Tryd.prog) (hgl : C.gl = gl) (hm : C.m = 0) (hN : C.N = Go.Proofs.Tryd.f34.ntmps) (k : Nat) : LoopOK C (G_words_each_And_1 k) lb_words_each_And_1_4 :=
  LoopOK.of (by rw [hP]; exact mix_ok) (hd := (ls_words_each_And_1_4 0).hd) (ex := (ls_words_each_And_1_4 0).ex) (F := fun k => (ls_words_each_And_1_4 k).F) (Gk := G_words_each_And_1) (fun k => gok hP hgl hm hN rfl (by kernel_rfl) rfl (ty_ok _ rfl) (calls_words_each_And_1 k)) (fun k => loops_all (n := 0) (by kernel_rfl) lt_all0) (fun x => rfl)
    (fun k x => by rw [hm]; exact rfl_words_each_And_1_4 k x) k (fun S => by rw [hm]; kernel_rfl)
theorem bodyok_words_each_And_1 (k : Nat) : BodyOK Go.Proofs.Tryd.prog gl (G_words_each_And_1 k) Go.Proofs.Tryd.f34 body_words_each_And_1 (sig_words_each_And_1 k).ps (sig_words_each_And_1 k).rs :=
  ⟨rfl, by kernel_rfl, rfl, ty_ok _ rfl, calls_words_each_And_1 k, by kernel_rfl, by kernel_rfl, fun C hP hgl hm hN => loops_all (n := 1) (by kernel_rfl) (lt_allS lt_all0 (loop_words_each_And_1_4 C hP hgl hm hN k))⟩
theorem ok_words_each_And_1 (k : Nat) : FnOK Go.Proofs.Tryd.prog gl 34 (sig_words_each_And_1 k) :=
  fun_ok (G := G_words_each_And_1 k) (ps := (sig_words_each_And_1 k).ps) (rs := (sig_words_each_And_1 k).rs) (F := (sig_words_each_And_1 k).F) mix_ok Go.Proofs.Tryd.func34 (c := body_words_each_And_1) (by kernel_rfl) (by kernel_rfl) (bodyok_words_each_And_1 k) (rfl_words_each_And_1 k)

noncomputable def body_words_And : Code := bodyOf Go.Proofs.Tryd.f11
noncomputable def sig_words_And (k : Nat) : Sig := ⟨⟨[], [(0, .d (.sl (.int .u64))), (1, .d (.sl (.int .u64)))]⟩, ⟨[], [(0, .d (.sl (.int .u64)))]⟩, fun x => words_And k x.1 x.2⟩
noncomputable def G_words_And (k : Nat) : Gl := { m := 0, n := 8, gl := gl, ty := ty, fz := fz, fn := fnTab [(34, sig_words_each_And_1 k)], lp := lpTab 0 [] }
theorem rfl_words_And (k : Nat) (x) : (sig_words_And k).F x = (ev (G_words_And k) body_words_And (head (sig_words_And k).ps (ofTup (sig_words_And k).ps.shs x))).den (funEnd (G_words_And k) Go.Proofs.Tryd.f11.results.toList 0 (sig_words_And k).rs) := by kernel_rfl
theorem calls_words_And (k : Nat) : CallsOK Go.Proofs.Tryd.prog gl (G_words_And k) := callsOK_tab (G := G_words_And k) (tab := [(34, sig_words_each_And_1 k)]) (all_cons (ok_words_each_And_1 k) all_nil)
theorem bodyok_words_And (k : Nat) : BodyOK Go.Proofs.Tryd.prog gl (G_words_And k) Go.Proofs.Tryd.f11 body_words_And (sig_words_And k).ps (sig_words_And k).rs :=
  ⟨rfl, by kernel_rfl, rfl, ty_ok _ rfl, calls_words_And k, by kernel_rfl, by kernel_rfl, fun C hP hgl hm hN => loops_all (n := 0) (by kernel_rfl) lt_all0⟩
theorem ok_words_And (k : Nat) : FnOK Go.Proofs.Tryd.prog gl 11 (sig_words_And k) :=
  fun_ok (G := G_words_And k) (ps := (sig_words_And k).ps) (rs := (sig_words_And k).rs) (F := (sig_words_And k).F) mix_ok Go.Proofs.Tryd.func11 (c := body_words_And) (by kernel_rfl) (by kernel_rfl) (bodyok_words_And k) (rfl_words_And k)

noncomputable def body_words_Or_1 : Code := bodyOf Go.Proofs.Tryd.f36
noncomputable def sig_words_Or_1 (k : Nat) : Sig := ⟨⟨[], [(0, .d (.int .u64)), (1, .d (.int .u64))]⟩, ⟨[], [(0, .d (.int .u64))]⟩, fun x => words_Or_1 k x.1 x.2⟩
noncomputable def G_words_Or_1 (k : Nat) : Gl := { m := 0, n := 8, gl := gl, ty := ty, fz := fz, fn := fnTab [], lp := lpTab 0 [] }
theorem rfl_words_Or_1 (k : Nat) (x) : (sig_words_Or_1 k).F x = (ev (G_words_Or_1 k) body_words_Or_1 (head (sig_words_Or_1 k).ps (ofTup (sig_words_Or_1 k).ps.shs x))).den (funEnd (G_words_Or_1 k) Go.Proofs.Tryd.f36.results.toList 0 (sig_words_Or_1 k).rs) := by kernel_rfl
theorem calls_words_Or_1 (k : Nat) : CallsOK Go.Proofs.Tryd.prog gl (G_words_Or_1 k) := callsOK_tab (G := G_words_Or_1 k) (tab := []) all_nil
theorem bodyok_words_Or_1 (k : Nat) : BodyOK Go.Proofs.Tryd.prog gl (G_words_Or_1 k) Go.Proofs.Tryd.f36 body_words_Or_1 (sig_words_Or_1 k).ps (sig_words_Or_1 k).rs :=
  ⟨rfl, by kernel_rfl, rfl, ty_ok _ rfl, calls_words_Or_1 k, by kernel_rfl, by kernel_rfl, fun C hP hgl hm hN => loops_all (n := 0) (by kernel_rfl) lt_all0⟩
theorem ok_words_Or_1 (k : Nat) : FnOK Go.Proofs.Tryd.prog gl 36 (sig_words_Or_1 k) :=
  fun_ok (G := G_words_Or_1 k) (ps := (sig_words_Or_1 k).ps) (rs := (sig_words_Or_1 k).rs) (F := (sig_words_Or_1 k).F) mix_ok Go.Proofs.Tryd.func36 (c := body_words_Or_1) (by kernel_rfl) (by kernel_rfl) (bodyok_words_Or_1 k) (rfl_words_Or_1 k)

noncomputable def body_words_each_Or_1 : Code := bodyOf Go.Proofs.Tryd.f34
noncomputable def lb_words_each_Or_1_4 : Code := (loops body_words_each_Or_1).getD 0 .skip
noncomputable def ls_words_each_Or_1_4 (k : Nat) : LSig := ⟨⟨[(.tmp 7, .grow false (.int .u64) 53)], [(0, .d (.sl (.int .u64))), (1, .d (.sl (.int .u64))), (2, .fn 36 [] []), (7, .own 0), (14, .d (.int .i64)), (15, .d (.int .i64))]⟩, [(.exit 0, ⟨[(.tmp 7, .grow false (.int .u64) 53)], [(7, .own 0)]⟩)], fun x => words_each_Or_1_l0 k x.1 x.2.1 x.2.2.1 x.2.2.2.1 x.2.2.2.2⟩
noncomputable def sig_words_each_Or_1 (k : Nat) : Sig := ⟨⟨[], [(0, .d (.sl (.int .u64))), (1, .d (.sl (.int .u64))), (2, .fn 36 [] [])]⟩, ⟨[], [(0, .d (.sl (.int .u64)))]⟩, fun x => words_each_Or_1 k x.1 x.2⟩
noncomputable def G_words_each_Or_1 (k : Nat) : Gl := { m := 0, n := 33, gl := gl, ty := ty, fz := fz, fn := fnTab [(36, sig_words_Or_1 k)], lp := lpTab 0 [(4, ls_words_each_Or_1_4 k)] }
theorem rfl_words_each_Or_1_4 (k : Nat) (x) : (ls_words_each_Or_1_4 (k + 1)).F x = (ev (G_words_each_Or_1 k) lb_words_each_Or_1_4 (head (ls_words_each_Or_1_4 k).hd (ofTup (ls_words_each_Or_1_4 k).hd.shs x))).den (roundEnd 0 (ls_words_each_Or_1_4 k)) := by kernel_rfl
theorem rfl_words_each_Or_1 (k : Nat) (x) : (sig_words_each_Or_1 k).F x = (ev (G_words_each_Or_1 k) body_words_each_Or_1 (head (sig_words_each_Or_1 k).ps (ofTup (sig_words_each_Or_1 k).ps.shs x))).den (funEnd (G_words_each_Or_1 k) Go.Proofs.Tryd.f34.results.toList 0 (sig_words_each_Or_1 k).rs) := by kernel_rfl
theorem calls_words_each_Or_1 (k : Nat) : CallsOK Go.Proofs.Tryd.prog gl (G_words_each_Or_1 k) := callsOK_tab (G := G_words_each_Or_1 k) (tab := [(36, sig_words_Or_1 k)]) (all_cons (ok_words_Or_1 k) all_nil)
theorem loop_words_each_Or_1_4 (C : Ctx) (hP : C.P = Go.Proofs.Tryd.prog) (hgl : C.gl = gl) (hm : C.m = 0) (hN : C.N = Go.Proofs.Tryd.f34.ntmps) (k : Nat) : LoopOK C (G_words_each_Or_1 k) lb_words_each_Or_1_4 :=
  LoopOK.of (by rw [hP]; exact mix_ok) (hd := (ls_words_each_Or_1_4 0).hd) (ex := (ls_words_each_Or_1_4 0).ex) (F := fun k => (ls_words_each_Or_1_4 k).F) (Gk := G_words_each_Or_1) (fun k => gok hP hgl hm hN rfl (by kernel_rfl) rfl (ty_ok _ rfl) (calls_words_each_Or_1 k)) (fun k => loops_all (n := 0) (by kernel_rfl) lt_all0) (fun x => rfl)
    (fun k x => by rw [hm]; exact rfl_words_each_Or_1_4 k x) k (fun S => by rw [hm]; kernel_rfl)
theorem bodyok_words_each_Or_1 (k : Nat) : BodyOK Go.Proofs.Tryd.prog gl (G_words_each_Or_1 k) Go.Proofs.Tryd.f34 body_words_each_Or_1 (sig_words_each_Or_1 k).ps (sig_words_each_Or_1 k).rs :=
  ⟨rfl, by kernel_rfl, rfl, ty_ok _ rfl, calls_words_each_Or_1 k, by kernel_rfl, by kernel_rfl, fun C hP hgl hm hN => loops_all (n := 1) (by kernel_rfl) (lt_allS lt_all0 (loop_words_each_Or_1_4 C hP hgl hm hN k))⟩
theorem ok_words_each_Or_1 (k : Nat) : FnOK Go.Proofs.Tryd.prog gl 34 (sig_words_each_Or_1 k) :=
  fun_ok (G := G_words_each_Or_1 k) (ps := (sig_words_each_Or_1 k).ps) (rs := (sig_words_each_Or_1 k).rs) (F := (sig_words_each_Or_1 k).F) mix_ok Go.Proofs.Tryd.func34 (c := body_words_each_Or_1) (by kernel_rfl) (by kernel_rfl) (bodyok_words_each_Or_1 k) (rfl_words_each_Or_1 k)

noncomputable def body_words_Or : Code := bodyOf Go.Proofs.Tryd.f12
noncomputable def sig_words_Or (k : Nat) : Sig := ⟨⟨[], [(0, .d (.sl (.int .u64))), (1, .d (.sl (.int .u64)))]⟩, ⟨[], [(0, .d (.sl (.int .u64)))]⟩, fun x => words_Or k x.1 x.2⟩
noncomputable def G_words_Or (k : Nat) : Gl := { m := 0, n := 8, gl := gl, ty := ty, fz := fz, fn := fnTab [(34, sig_words_each_Or_1 k)], lp := lpTab 0 [] }
theorem rfl_words_Or (k : Nat) (x) : (sig_words_Or k).F x = (ev (G_words_Or k) body_words_Or (head (sig_words_Or k).ps (ofTup (sig_words_Or k).ps.shs x))).den (funEnd (G_words_Or k) Go.Proofs.Tryd.f12.results.toList 0 (sig_words_Or k).rs) := by kernel_rfl
theorem calls_words_Or (k : Nat) : CallsOK Go.Proofs.Tryd.prog gl (G_words_Or k) := callsOK_tab (G := G_words_Or k) (tab := [(34, sig_words_each_Or_1 k)]) (all_cons (ok_words_each_Or_1 k) all_nil)
theorem bodyok_words_Or (k : Nat) : BodyOK Go.Proofs.Tryd.prog gl (G_words_Or k) Go.Proofs.Tryd.f12 body_words_Or (sig_words_Or k).ps (sig_words_Or k).rs :=
  ⟨rfl, by kernel_rfl, rfl, ty_ok _ rfl, calls_words_Or k, by kernel_rfl, by kernel_rfl, fun C hP hgl hm hN => loops_all (n := 0) (by kernel_rfl) lt_all0⟩
theorem ok_words_Or (k : Nat) : FnOK Go.Proofs.Tryd.prog gl 12 (sig_words_Or k) :=
  fun_ok (G := G_words_Or k) (ps := (sig_words_Or k).ps) (rs := (sig_words_Or k).rs) (F := (sig_words_Or k).F) mix_ok Go.Proofs.Tryd.func12 (c := body_words_Or) (by kernel_rfl) (by kernel_rfl) (bodyok_words_Or k) (rfl_words_Or k)

noncomputable def body_words_AndNot_1 : Code := bodyOf Go.Proofs.Tryd.f37
noncomputable def sig_words_AndNot_1 (k : Nat) : Sig := ⟨⟨[], [(0, .d (.int .u64)), (1, .d (.int .u64))]⟩, ⟨[], [(0, .d (.int .u64))]⟩, fun x => words_AndNot_1 k x.1 x.2⟩
noncomputable def G_words_AndNot_1 (k : Nat) : Gl := { m := 0, n := 8, gl := gl, ty := ty, fz := fz, fn := fnTab [], lp := lpTab 0 [] }
theorem rfl_words_AndNot_1 (k : Nat) (x) : (sig_words_AndNot_1 k).F x = (ev (G_words_AndNot_1 k) body_words_AndNot_1 (head (sig_words_AndNot_1 k).ps (ofTup (sig_words_AndNot_1 k).ps.shs x))).den (funEnd (G_words_AndNot_1 k) Go.Proofs.Tryd.f37.results.toList 0 (sig_words_AndNot_1 k).rs) := by kernel_rfl
theorem calls_words_AndNot_1 (k : Nat) : CallsOK Go.Proofs.Tryd.prog gl (G_words_AndNot_1 k) := callsOK_tab (G := G_words_AndNot_1 k) (tab := []) all_nil
theorem bodyok_words_AndNot_1 (k : Nat) : BodyOK Go.Proofs.Tryd.prog gl (G_words_AndNot_1 k) Go.Proofs.Tryd.f37 body_words_AndNot_1 (sig_words_AndNot_1 k).ps (sig_words_AndNot_1 k).rs :=
  ⟨rfl, by kernel_rfl, rfl, ty_ok _ rfl, calls_words_AndNot_1 k, by kernel_rfl, by kernel_rfl, fun C hP hgl hm hN => loops_all (n := 0) (by kernel_rfl) lt_all0⟩
theorem ok_words_AndNot_1 (k : Nat) : FnOK Go.Proofs.Tryd.prog gl 37 (sig_words_AndNot_1 k) :=
  fun_ok (G := G_words_AndNot_1 k) (ps := (sig_words_AndNot_1 k).ps) (rs := (sig_words_AndNot_1 k).rs) (F := (sig_words_AndNot_1 k).F) mix_ok Go.Proofs.Tryd.func37 (c := body_words_AndNot_1) (by kernel_rfl) (by kernel_rfl) (bodyok_words_AndNot_1 k) (rfl_words_AndNot_1 k)

noncomputable def body_words_each_AndNot_1 : Code := bodyOf Go.Proofs.Tryd.f34
noncomputable def lb_words_each_AndNot_1_4 : Code := (loops body_words_each_AndNot_1).getD 0 .skip
noncomputable def ls_words_each_AndNot_1_4 (k : Nat) : LSig := ⟨⟨[(.tmp 7, .grow false (.int .u64) 53)], [(0, .d (.sl (.int .u64))), (1, .d (.sl (.int .u64))), (2, .fn 37 [] []), (7, .own 0), (14, .d (.int .i64)), (15, .d (.int .i64))]⟩, [(.exit 0, ⟨[(.tmp 7, .grow false (.int .u64) 53)], [(7, .own 0)]⟩)], fun x => words_each_AndNot_1_l0 k x.1 x.2.1 x.2.2.1 x.2.2.2.1 x.2.2.2.2⟩
noncomputable def sig_words_each_AndNot_1 (k : Nat) : Sig := ⟨⟨[], [(0, .d (.sl (.int .u64))), (1, .d (.sl (.int .u64))), (2, .fn 37 [] [])]⟩, ⟨[], [(0, .d (.sl (.int .u64)))]⟩, fun x => words_each_AndNot_1 k x.1 x.2⟩
noncomputable def G_words_each_AndNot_1 (k : Nat) : Gl := { m := 0, n := 33, gl := gl, ty := ty, fz := fz, fn := fnTab [(37, sig_words_AndNot_1 k)], lp := lpTab 0 [(4, ls_words_each_AndNot_1_4 k)] }
theorem rfl_words_each_AndNot_1_4 (k : Nat) (x) : (ls_words_each_AndNot_1_4 (k + 1)).F x = (ev (G_words_each_AndNot_1 k) lb_words_each_AndNot_1_4 (head (ls_words_each_AndNot_1_4 k).hd (ofTup (ls_words_each_AndNot_1_4 k).hd.shs x))).den (roundEnd 0 (ls_words_each_AndNot_1_4 k)) := by kernel_rfl
theorem rfl_words_each_AndNot_1 (k : Nat) (x) : (sig_words_each_AndNot_1 k).F x = (ev (G_words_each_AndNot_1 k) body_words_each_AndNot_1 (head (sig_words_each_AndNot_1 k).ps (ofTup (sig_words_each_AndNot_1 k).ps.shs x))).den (funEnd (G_words_each_AndNot_1 k) Go.Proofs.Tryd.f34.results.toList 0 (sig_words_each_AndNot_1 k).rs) := by kernel_rfl
theorem calls_words_each_AndNot_1 (k : Nat) : CallsOK Go.Proofs.Tryd.prog gl (G_words_each_AndNot_1 k) := callsOK_tab (G := G_words_each_AndNot_1 k) (tab := [(37, sig_words_AndNot_1 k)]) (all_cons (ok_words_AndNot_1 k) all_nil)
theorem loop_words_each_AndNot_1_4 (C : Ctx) (hP : C.P = Go.Proofs.Tryd.prog) (hgl : C.gl = gl) (hm : C.m = 0) (hN : C.N = Go.Proofs.Tryd.f34.ntmps) (k : Nat) : LoopOK C (G_words_each_AndNot_1 k) lb_words_each_AndNot_1_4 :=
  LoopOK.of (by rw [hP]; exact mix_ok) (hd := (ls_words_each_AndNot_1_4 0).hd) (ex := (ls_words_each_AndNot_1_4 0).ex) (F := fun k => (ls_words_each_AndNot_1_4 k).F) (Gk := G_words_each_AndNot_1) (fun k => gok hP hgl hm hN rfl (by kernel_rfl) rfl (ty_ok _ rfl) (calls_words_each_AndNot_1 k)) (fun k => loops_all (n := 0) (by kernel_rfl) lt_all0) (fun x => rfl)
    (fun k x => by rw [hm]; exact rfl_words_each_AndNot_1_4 k x) k (fun S => by rw [hm]; kernel_rfl)
theorem bodyok_words_each_AndNot_1 (k : Nat) : BodyOK Go.Proofs.Tryd.prog gl (G_words_each_AndNot_1 k) Go.Proofs.Tryd.f34 body_words_each_AndNot_1 (sig_words_each_AndNot_1 k).ps (sig_words_each_AndNot_1 k).rs :=
  ⟨rfl, by kernel_rfl, rfl, ty_ok _ rfl, calls_words_each_AndNot_1 k, by kernel_rfl, by kernel_rfl, fun C hP hgl hm hN => loops_all (n := 1) (by kernel_rfl) (lt_allS lt_all0 (loop_words_each_AndNot_1_4 C hP hgl hm hN k))⟩
theorem ok_words_each_AndNot_1 (k : Nat) : FnOK Go.Proofs.Tryd.prog gl 34 (sig_words_each_AndNot_1 k) :=
  fun_ok (G := G_words_each_AndNot_1 k) (ps := (sig_words_each_AndNot_1 k).ps) (rs := (sig_words_each_AndNot_1 k).rs) (F := (sig_words_each_AndNot_1 k).F) mix_ok Go.Proofs.Tryd.func34 (c := body_words_each_AndNot_1) (by kernel_rfl) (by kernel_rfl) (bodyok_words_each_AndNot_1 k) (rfl_words_each_AndNot_1 k)

noncomputable def body_words_AndNot : Code := bodyOf Go.Proofs.Tryd.f13
noncomputable def sig_words_AndNot (k : Nat) : Sig := ⟨⟨[], [(0, .d (.sl (.int .u64))), (1, .d (.sl (.int .u64)))]⟩, ⟨[], [(0, .d (.sl (.int .u64)))]⟩, fun x => words_AndNot k x.1 x.2⟩
noncomputable def G_words_AndNot (k : Nat) : Gl := { m := 0, n := 8, gl := gl, ty := ty, fz := fz, fn := fnTab [(34, sig_words_each_AndNot_1 k)], lp := lpTab 0 [] }
theorem rfl_words_AndNot (k : Nat) (x) : (sig_words_AndNot k).F x = (ev (G_words_AndNot k) body_words_AndNot (head (sig_words_AndNot k).ps (ofTup (sig_words_AndNot k).ps.shs x))).den (funEnd (G_words_AndNot k) Go.Proofs.Tryd.f13.results.toList 0 (sig_words_AndNot k).rs) := by kernel_rfl
theorem calls_words_AndNot (k : Nat) : CallsOK Go.Proofs.Tryd.prog gl (G_words_AndNot k) := callsOK_tab (G := G_words_AndNot k) (tab := [(34, sig_words_each_AndNot_1 k)]) (all_cons (ok_words_each_AndNot_1 k) all_nil)
theorem bodyok_words_AndNot (k : Nat) : BodyOK Go.Proofs.Tryd.prog gl (G_words_AndNot k) Go.Proofs.Tryd.f13 body_words_AndNot (sig_words_AndNot k).ps (sig_words_AndNot k).rs :=
  ⟨rfl, by kernel_rfl, rfl, ty_ok _ rfl, calls_words_AndNot k, by kernel_rfl, by kernel_rfl, fun C hP hgl hm hN => loops_all (n := 0) (by kernel_rfl) lt_all0⟩
theorem ok_words_AndNot (k : Nat) : FnOK Go.Proofs.Tryd.prog gl 13 (sig_words_AndNot k) :=
  fun_ok (G := G_words_AndNot k) (ps := (sig_words_AndNot k).ps) (rs := (sig_words_AndNot k).rs) (F := (sig_words_AndNot k).F) mix_ok Go.Proofs.Tryd.func13 (c := body_words_AndNot) (by kernel_rfl) (by kernel_rfl) (bodyok_words_AndNot k) (rfl_words_AndNot k)

noncomputable def body_words_Xor_1 : Code := bodyOf Go.Proofs.Tryd.f38
noncomputable def sig_words_Xor_1 (k : Nat) : Sig := ⟨⟨[], [(0, .d (.int .u64)), (1, .d (.int .u64))]⟩, ⟨[], [(0, .d (.int .u64))]⟩, fun x => words_Xor_1 k x.1 x.2⟩
noncomputable def G_words_Xor_1 (k : Nat) : Gl := { m := 0, n := 8, gl := gl, ty := ty, fz := fz, fn := fnTab [], lp := lpTab 0 [] }
theorem rfl_words_Xor_1 (k : Nat) (x) : (sig_words_Xor_1 k).F x = (ev (G_words_Xor_1 k) body_words_Xor_1 (head (sig_words_Xor_1 k).ps (ofTup (sig_words_Xor_1 k).ps.shs x))).den (funEnd (G_words_Xor_1 k) Go.Proofs.Tryd.f38.results.toList 0 (sig_words_Xor_1 k).rs) := by kernel_rfl
theorem calls_words_Xor_1 (k : Nat) : CallsOK Go.Proofs.Tryd.prog gl (G_words_Xor_1 k) := callsOK_tab (G := G_words_Xor_1 k) (tab := []) all_nil
theorem bodyok_words_Xor_1 (k : Nat) : BodyOK Go.Proofs.Tryd.prog gl (G_words_Xor_1 k) Go.Proofs.Tryd.f38 body_words_Xor_1 (sig_words_Xor_1 k).ps (sig_words_Xor_1 k).rs :=
  ⟨rfl, by kernel_rfl, rfl, ty_ok _ rfl, calls_words_Xor_1 k, by kernel_rfl, by kernel_rfl, fun C hP hgl hm hN => loops_all (n := 0) (by kernel_rfl) lt_all0⟩
theorem ok_words_Xor_1 (k : Nat) : FnOK Go.Proofs.Tryd.prog gl 38 (sig_words_Xor_1 k) :=
  fun_ok (G := G_words_Xor_1 k) (ps := (sig_words_Xor_1 k).ps) (rs := (sig_words_Xor_1 k).rs) (F := (sig_words_Xor_1 k).F) mix_ok Go.Proofs.Tryd.func38 (c := body_words_Xor_1) (by kernel_rfl) (by kernel_rfl) (bodyok_words_Xor_1 k) (rfl_words_Xor_1 k)

noncomputable def body_words_each_Xor_1 : Code := bodyOf Go.Proofs.Tryd.f34
noncomputable def lb_words_each_Xor_1_4 : Code := (loops body_words_each_Xor_1).getD 0 .skip
noncomputable def ls_words_each_Xor_1_4 (k : Nat) : LSig := ⟨⟨[(.tmp 7, .grow false (.int .u64) 53)], [(0, .d (.sl (.int .u64))), (1, .d (.sl (.int .u64))), (2, .fn 38 [] []), (7, .own 0), (14, .d (.int .i64)), (15, .d (.int .i64))]⟩, [(.exit 0, ⟨[(.tmp 7, .grow false (.int .u64) 53)], [(7, .own 0)]⟩)], fun x => words_each_Xor_1_l0 k x.1 x.2.1 x.2.2.1 x.2.2.2.1 x.2.2.2.2⟩
noncomputable def sig_words_each_Xor_1 (k : Nat) : Sig := ⟨⟨[], [(0, .d (.sl (.int .u64))), (1, .d (.sl (.int .u64))), (2, .fn 38 [] [])]⟩, ⟨[], [(0, .d (.sl (.int .u64)))]⟩, fun x => words_each_Xor_1 k x.1 x.2⟩
noncomputable def G_words_each_Xor_1 (k : Nat) : Gl := { m := 0, n := 33, gl := gl, ty := ty, fz := fz, fn := fnTab [(38, sig_words_Xor_1 k)], lp := lpTab 0 [(4, ls_words_each_Xor_1_4 k)] }
theorem rfl_words_each_Xor_1_4 (k : Nat) (x) : (ls_words_each_Xor_1_4 (k + 1)).F x = (ev (G_words_each_Xor_1 k) lb_words_each_Xor_1_4 (head (ls_words_each_Xor_1_4 k).hd (ofTup (ls_words_each_Xor_1_4 k).hd.shs x))).den (roundEnd 0 (ls_words_each_Xor_1_4 k)) := by kernel_rfl
theorem rfl_words_each_Xor_1 (k : Nat) (x) : (sig_words_each_Xor_1 k).F x = (ev (G_words_each_Xor_1 k) body_words_each_Xor_1 (head (sig_words_each_Xor_1 k).ps (ofTup (sig_words_each_Xor_1 k).ps.shs x))).den (funEnd (G_words_each_Xor_1 k) Go.Proofs.Tryd.f34.results.toList 0 (sig_words_each_Xor_1 k).rs) := by kernel_rfl
theorem calls_words_each_Xor_1 (k : Nat) : CallsOK Go.Proofs.Tryd.prog gl (G_words_each_Xor_1 k) := callsOK_tab (G := G_words_each_Xor_1 k) (tab := [(38, sig_words_Xor_1 k)]) (all_cons (ok_words_Xor_1 k) all_nil)
theorem loop_words_each_Xor_1_4 (C : Ctx) (hP : C.P = Go.Proofs.Tryd.prog) (hgl : C.gl = gl) (hm : C.m = 0) (hN : C.N = Go.Proofs.Tryd.f34.ntmps) (k : Nat) : LoopOK C (G_words_each_Xor_1 k) lb_words_each_Xor_1_4 :=
  LoopOK.of (by rw [hP]; exact mix_ok) (hd := (ls_words_each_Xor_1_4 0).hd) (ex := (ls_words_each_Xor_1_4 0).ex) (F := fun k => (ls_words_each_Xor_1_4 k).F) (Gk := G_words_each_Xor_1) (fun k => gok hP hgl hm hN rfl (by kernel_rfl) rfl (ty_ok _ rfl) (calls_words_each_Xor_1 k)) (fun k => loops_all (n := 0) (by kernel_rfl) lt_all0) (fun x => rfl)
    (fun k x => by rw [hm]; exact rfl_words_each_Xor_1_4 k x) k (fun S => by rw [hm]; kernel_rfl)
theorem bodyok_words_each_Xor_1 (k : Nat) : BodyOK Go.Proofs.Tryd.prog gl (G_words_each_Xor_1 k) Go.Proofs.Tryd.f34 body_words_each_Xor_1 (sig_words_each_Xor_1 k).ps (sig_words_each_Xor_1 k).rs :=
  ⟨rfl, by kernel_rfl, rfl, ty_ok _ rfl, calls_words_each_Xor_1 k, by kernel_rfl, by kernel_rfl, fun C hP hgl hm hN => loops_all (n := 1) (by kernel_rfl) (lt_allS lt_all0 (loop_words_each_Xor_1_4 C hP hgl hm hN k))⟩
theorem ok_words_each_Xor_1 (k : Nat) : FnOK Go.Proofs.Tryd.prog gl 34 (sig_words_each_Xor_1 k) :=
  fun_ok (G := G_words_each_Xor_1 k) (ps := (sig_words_each_Xor_1 k).ps) (rs := (sig_words_each_Xor_1 k).rs) (F := (sig_words_each_Xor_1 k).F) mix_ok Go.Proofs.Tryd.func34 (c := body_words_each_Xor_1) (by kernel_rfl) (by kernel_rfl) (bodyok_words_each_Xor_1 k) (rfl_words_each_Xor_1 k)

noncomputable def body_words_Xor : Code := bodyOf Go.Proofs.Tryd.f14
noncomputable def sig_words_Xor (k : Nat) : Sig := ⟨⟨[], [(0, .d (.sl (.int .u64))), (1, .d (.sl (.int .u64)))]⟩, ⟨[], [(0, .d (.sl (.int .u64)))]⟩, fun x => words_Xor k x.1 x.2⟩
noncomputable def G_words_Xor (k : Nat) : Gl := { m := 0, n := 8, gl := gl, ty := ty, fz := fz, fn := fnTab [(34, sig_words_each_Xor_1 k)], lp := lpTab 0 [] }
theorem rfl_words_Xor (k : Nat) (x) : (sig_words_Xor k).F x = (ev (G_words_Xor k) body_words_Xor (head (sig_words_Xor k).ps (ofTup (sig_words_Xor k).ps.shs x))).den (funEnd (G_words_Xor k) Go.Proofs.Tryd.f14.results.toList 0 (sig_words_Xor k).rs) := by kernel_rfl
theorem calls_words_Xor (k : Nat) : CallsOK Go.Proofs.Tryd.prog gl (G_words_Xor k) := callsOK_tab (G := G_words_Xor k) (tab := [(34, sig_words_each_Xor_1 k)]) (all_cons (ok_words_each_Xor_1 k) all_nil)
theorem bodyok_words_Xor (k : Nat) : BodyOK Go.Proofs.Tryd.prog gl (G_words_Xor k) Go.Proofs.Tryd.f14 body_words_Xor (sig_words_Xor k).ps (sig_words_Xor k).rs :=
  ⟨rfl, by kernel_rfl, rfl, ty_ok _ rfl, calls_words_Xor k, by kernel_rfl, by kernel_rfl, fun C hP hgl hm hN => loops_all (n := 0) (by kernel_rfl) lt_all0⟩
theorem ok_words_Xor (k : Nat) : FnOK Go.Proofs.Tryd.prog gl 14 (sig_words_Xor k) :=
  fun_ok (G := G_words_Xor k) (ps := (sig_words_Xor k).ps) (rs := (sig_words_Xor k).rs) (F := (sig_words_Xor k).F) mix_ok Go.Proofs.Tryd.func14 (c := body_words_Xor) (by kernel_rfl) (by kernel_rfl) (bodyok_words_Xor k) (rfl_words_Xor k)

noncomputable def body_runs_List : Code := bodyOf Go.Proofs.Tryd.f16
noncomputable def lb_runs_List_4 : Code := (loops body_runs_List).getD 0 .skip
noncomputable def lb_runs_List_7 : Code := (loops lb_runs_List_4).getD 0 .skip
noncomputable def ls_runs_List_7 (k : Nat) : LSig := ⟨⟨[(.tmp 3, .grow false (.int .u16) 38), (.tmp 5, .cells [.d (.int .u16), .d (.int .u16)])], [(3, .own 0), (5, .ptr 1 0), (6, .d (.int .i64)), (7, .d (.sl (.st (.pair (.int .u16) (.int .u16))))), (8, .d (.int .i64)), (9, .d (.int .i64))]⟩, [(.exit 2, ⟨[(.tmp 3, .grow false (.int .u16) 38)], [(3, .own 0), (7, .d (.sl (.st (.pair (.int .u16) (.int .u16))))), (8, .d (.int .i64)), (9, .d (.int .i64))]⟩)], fun x => runs_List_l1 k x.1 x.2.1 x.2.2.1 x.2.2.2.1 x.2.2.2.2.1 x.2.2.2.2.2.1 x.2.2.2.2.2.2⟩
noncomputable def ls_runs_List_4 (k : Nat) : LSig := ⟨⟨[(.tmp 3, .grow false (.int .u16) 38)], [(3, .own 0), (7, .d (.sl (.st (.pair (.int .u16) (.int .u16))))), (8, .d (.int .i64)), (9, .d (.int .i64))]⟩, [(.exit 0, ⟨[(.tmp 3, .grow false (.int .u16) 38)], [(3, .own 0)]⟩)], fun x => runs_List_l0 k x.1 x.2.1 x.2.2.1 x.2.2.2⟩
noncomputable def sig_runs_List (k : Nat) : Sig := ⟨⟨[], [(0, .d (.sl (.st (.pair (.int .u16) (.int .u16)))))]⟩, ⟨[], [(0, .d (.sl (.int .u16)))]⟩, fun x => runs_List k x⟩
noncomputable def G_runs_List (k : Nat) : Gl := { m := 0, n := 30, gl := gl, ty := ty, fz := fz, fn := fnTab [(39, sig_runs_end k)], lp := lpTab 0 [(7, ls_runs_List_7 k), (4, ls_runs_List_4 k)] }
theorem rfl_runs_List_7 (k : Nat) (x) : (ls_runs_List_7 (k + 1)).F x = (ev (G_runs_List k) lb_runs_List_7 (head (ls_runs_List_7 k).hd (ofTup (ls_runs_List_7 k).hd.shs x))).den (roundEnd 0 (ls_runs_List_7 k)) := by kernel_rfl
theorem rfl_runs_List_4 (k : Nat) (x) : (ls_runs_List_4 (k + 1)).F x = (ev (G_runs_List k) lb_runs_List_4 (head (ls_runs_List_4 k).hd (ofTup (ls_runs_List_4 k).hd.shs x))).den (roundEnd 0 (ls_runs_List_4 k)) := by kernel_rfl
theorem rfl_runs_List (k : Nat) (x) : (sig_runs_List k).F x = (ev (G_runs_List k) body_runs_List (head (sig_runs_List k).ps (ofTup (sig_runs_List k).ps.shs x))).den (funEnd (G_runs_List k) Go.Proofs.Tryd.f16.results.toList 0 (sig_runs_List k).rs) := by kernel_rfl
theorem calls_runs_List (k : Nat) : CallsOK Go.Proofs.Tryd.prog gl (G_runs_List k) := callsOK_tab (G := G_runs_List k) (tab := [(39, sig_runs_end k)]) (all_cons (ok_runs_end k) all_nil)
theorem loop_runs_List_7 (C : Ctx) (hP : C.P = Go.Proofs.Tryd.prog) (hgl : C.gl = gl) (hm : C.m = 0) (hN : C.N = Go.Proofs.Tryd.f16.ntmps) (k : Nat) : LoopOK C (G_runs_List k) lb_runs_List_7 :=
  LoopOK.of (by rw [hP]; exact mix_ok) (hd := (ls_runs_List_7 0).hd) (ex := (ls_runs_List_7 0).ex) (F := fun k => (ls_runs_List_7 k).F) (Gk := G_runs_List) (fun k => gok hP hgl hm hN rfl (by kernel_rfl) rfl (ty_ok _ rfl) (calls_runs_List k)) (fun k => loops_all (n := 0) (by kernel_rfl) lt_all0) (fun x => rfl)
    (fun k x => by rw [hm]; exact rfl_runs_List_7 k x) k (fun S => by rw [hm]; kernel_rfl)
theorem loop_runs_List_4 (C : Ctx) (hP : C.P = Go.Proofs.Tryd.prog) (hgl : C.gl = gl) (hm : C.m = 0) (hN : C.N = Go.Proofs.Tryd.f16.ntmps) (k : Nat) : LoopOK C (G_runs_List k) lb_runs_List_4 :=
  LoopOK.of (by rw [hP]; exact mix_ok) (hd := (ls_runs_List_4 0).hd) (ex := (ls_runs_List_4 0).ex) (F := fun k => (ls_runs_List_4 k).F) (Gk := G_runs_List) (fun k => gok hP hgl hm hN rfl (by kernel_rfl) rfl (ty_ok _ rfl) (calls_runs_List k)) (fun k => loops_all (n := 1) (by kernel_rfl) (lt_allS lt_all0 (loop_runs_List_7 C hP hgl hm hN k))) (fun x => rfl)
    (fun k x => by rw [hm]; exact rfl_runs_List_4 k x) k (fun S => by rw [hm]; kernel_rfl)
theorem bodyok_runs_List (k : Nat) : BodyOK Go.Proofs.Tryd.prog gl (G_runs_List k) Go.Proofs.Tryd.f16 body_runs_List (sig_runs_List k).ps (sig_runs_List k).rs :=
  ⟨rfl, by kernel_rfl, rfl, ty_ok _ rfl, calls_runs_List k, by kernel_rfl, by kernel_rfl, fun C hP hgl hm hN => loops_all (n := 1) (by kernel_rfl) (lt_allS lt_all0 (loop_runs_List_4 C hP hgl hm hN k))⟩
theorem ok_runs_List (k : Nat) : FnOK Go.Proofs.Tryd.prog gl 16 (sig_runs_List k) :=
  fun_ok (G := G_runs_List k) (ps := (sig_runs_List k).ps) (rs := (sig_runs_List k).rs) (F := (sig_runs_List k).F) mix_ok Go.Proofs.Tryd.func16 (c := body_runs_List) (by kernel_rfl) (by kernel_rfl) (bodyok_runs_List k) (rfl_runs_List k)

noncomputable def body_math_bits_TrailingZeros64 : Code := bodyOf Go.Proofs.Tryd.f40
noncomputable def sig_math_bits_TrailingZeros64 (k : Nat) : Sig := ⟨⟨[], [(0, .d (.int .u64))]⟩, ⟨[], [(0, .d (.int .i64))]⟩, fun x => math_bits_TrailingZeros64 k x⟩
noncomputable def G_math_bits_TrailingZeros64 (k : Nat) : Gl := { m := 0, n := 14, gl := gl, ty := ty, fz := fz, fn := fnTab [], lp := lpTab 0 [] }
theorem rfl_math_bits_TrailingZeros64 (k : Nat) (x) : (sig_math_bits_TrailingZeros64 k).F x = (ev (G_math_bits_TrailingZeros64 k) body_math_bits_TrailingZeros64 (head (sig_math_bits_TrailingZeros64 k).ps (ofTup (sig_math_bits_TrailingZeros64 k).ps.shs x))).den (funEnd (G_math_bits_TrailingZeros64 k) Go.Proofs.Tryd.f40.results.toList 0 (sig_math_bits_TrailingZeros64 k).rs) := by kernel_rfl
theorem calls_math_bits_TrailingZeros64 (k : Nat) : CallsOK Go.Proofs.Tryd.prog gl (G_math_bits_TrailingZeros64 k) := callsOK_tab (G := G_math_bits_TrailingZeros64 k) (tab := []) all_nil
theorem bodyok_math_bits_TrailingZeros64 (k : Nat) : BodyOK Go.Proofs.Tryd.prog gl (G_math_bits_TrailingZeros64 k) Go.Proofs.Tryd.f40 body_math_bits_TrailingZeros64 (sig_math_bits_TrailingZeros64 k).ps (sig_math_bits_TrailingZeros64 k).rs :=
  ⟨rfl, by kernel_rfl, rfl, ty_ok _ rfl, calls_math_bits_TrailingZeros64 k, by kernel_rfl, by kernel_rfl, fun C hP hgl hm hN => loops_all (n := 0) (by kernel_rfl) lt_all0⟩
theorem ok_math_bits_TrailingZeros64 (k : Nat) : FnOK Go.Proofs.Tryd.prog gl 40 (sig_math_bits_TrailingZeros64 k) :=
  fun_ok (G := G_math_bits_TrailingZeros64 k) (ps := (sig_math_bits_TrailingZeros64 k).ps) (rs := (sig_math_bits_TrailingZeros64 k).rs) (F := (sig_math_bits_TrailingZeros64 k).F) mix_ok Go.Proofs.Tryd.func40 (c := body_math_bits_TrailingZeros64) (by kernel_rfl) (by kernel_rfl) (bodyok_math_bits_TrailingZeros64 k) (rfl_math_bits_TrailingZeros64 k)

noncomputable def body_words_List : Code := bodyOf Go.Proofs.Tryd.f17
noncomputable def lb_words_List_4 : Code := (loops body_words_List).getD 0 .skip
noncomputable def lb_words_List_7 : Code := (loops lb_words_List_4).getD 0 .skip
noncomputable def ls_words_List_7 (k : Nat) : LSig := ⟨⟨[(.tmp 3, .grow false (.int .u16) 38)], [(0, .d (.sl (.int .u64))), (3, .own 0), (4, .d (.int .i64)), (5, .d (.int .u64)), (8, .d (.int .i64)), (9, .d (.int .i64))]⟩, [(.exit 2, ⟨[(.tmp 3, .grow false (.int .u16) 38)], [(0, .d (.sl (.int .u64))), (3, .own 0), (8, .d (.int .i64)), (9, .d (.int .i64))]⟩)], fun x => words_List_l1 k x.1 x.2.1 x.2.2.1 x.2.2.2.1 x.2.2.2.2.1 x.2.2.2.2.2⟩
noncomputable def ls_words_List_4 (k : Nat) : LSig := ⟨⟨[(.tmp 3, .grow false (.int .u16) 38)], [(0, .d (.sl (.int .u64))), (3, .own 0), (8, .d (.int .i64)), (9, .d (.int .i64))]⟩, [(.exit 0, ⟨[(.tmp 3, .grow false (.int .u16) 38)], [(3, .own 0)]⟩)], fun x => words_List_l0 k x.1 x.2.1 x.2.2.1 x.2.2.2⟩
noncomputable def sig_words_List (k : Nat) : Sig := ⟨⟨[], [(0, .d (.sl (.int .u64)))]⟩, ⟨[], [(0, .d (.sl (.int .u16)))]⟩, fun x => words_List k x⟩
noncomputable def G_words_List (k : Nat) : Gl := { m := 0, n := 33, gl := gl, ty := ty, fz := fz, fn := fnTab [(40, sig_math_bits_TrailingZeros64 k)], lp := lpTab 0 [(7, ls_words_List_7 k), (4, ls_words_List_4 k)] }
theorem rfl_words_List_7 (k : Nat) (x) : (ls_words_List_7 (k + 1)).F x = (ev (G_words_List k) lb_words_List_7 (head (ls_words_List_7 k).hd (ofTup (ls_words_List_7 k).hd.shs x))).den (roundEnd 0 (ls_words_List_7 k)) := by kernel_rfl
theorem rfl_words_List_4 (k : Nat) (x) : (ls_words_List_4 (k + 1)).F x = (ev (G_words_List k) lb_words_List_4 (head (ls_words_List_4 k).hd (ofTup (ls_words_List_4 k).hd.shs x))).den (roundEnd 0 (ls_words_List_4 k)) := by kernel_rfl
theorem rfl_words_List (k : Nat) (x) : (sig_words_List k).F x = (ev (G_words_List k) body_words_List (head (sig_words_List k).ps (ofTup (sig_words_List k).ps.shs x))).den (funEnd (G_words_List k) Go.Proofs.Tryd.f17.results.toList 0 (sig_words_List k).rs) := by kernel_rfl
theorem calls_words_List (k : Nat) : CallsOK Go.Proofs.Tryd.prog gl (G_words_List k) := callsOK_tab (G := G_words_List k) (tab := [(40, sig_math_bits_TrailingZeros64 k)]) (all_cons (ok_math_bits_TrailingZeros64 k) all_nil)
theorem loop_words_List_7 (C : Ctx) (hP : C.P = Go.Proofs.Tryd.prog) (hgl : C.gl = gl) (hm : C.m = 0) (hN : C.N = Go.Proofs.Tryd.f17.ntmps) (k : Nat) : LoopOK C (G_words_List k) lb_words_List_7 :=
  LoopOK.of (by rw [hP]; exact mix_ok) (hd := (ls_words_List_7 0).hd) (ex := (ls_words_List_7 0).ex) (F := fun k => (ls_words_List_7 k).F) (Gk := G_words_List) (fun k => gok hP hgl hm hN rfl (by kernel_rfl) rfl (ty_ok _ rfl) (calls_words_List k)) (fun k => loops_all (n := 0) (by kernel_rfl) lt_all0) (fun x => rfl)
    (fun k x => by rw [hm]; exact rfl_words_List_7 k x) k (fun S => by rw [hm]; kernel_rfl)
theorem loop_words_List_4 (C : Ctx) (hP : C.P = Go.Proofs.Tryd.prog) (hgl : C.gl = gl) (hm : C.m = 0) (hN : C.N = Go.Proofs.Tryd.f17.ntmps) (k : Nat) : LoopOK C (G_words_List k) lb_words_List_4 :=
  LoopOK.of (by rw [hP]; exact mix_ok) (hd := (ls_words_List_4 0).hd) (ex := (ls_words_List_4 0).ex) (F := fun k => (ls_words_List_4 k).F) (Gk := G_words_List) (fun k => gok hP hgl hm hN rfl (by kernel_rfl) rfl (ty_ok _ rfl) (calls_words_List k)) (fun k => loops_all (n := 1) (by kernel_rfl) (lt_allS lt_all0 (loop_words_List_7 C hP hgl hm hN k))) (fun x => rfl)
    (fun k x => by rw [hm]; exact rfl_words_List_4 k x) k (fun S => by rw [hm]; kernel_rfl)
theorem bodyok_words_List (k : Nat) : BodyOK Go.Proofs.Tryd.prog gl (G_words_List k) Go.Proofs.Tryd.f17 body_words_List (sig_words_List k).ps (sig_words_List k).rs :=
  ⟨rfl, by kernel_rfl, rfl, ty_ok _ rfl, calls_words_List k, by kernel_rfl, by kernel_rfl, fun C hP hgl hm hN => loops_all (n := 1) (by kernel_rfl) (lt_allS lt_all0 (loop_words_List_4 C hP hgl hm hN k))⟩
theorem ok_words_List (k : Nat) : FnOK Go.Proofs.Tryd.prog gl 17 (sig_words_List k) :=
  fun_ok (G := G_words_List k) (ps := (sig_words_List k).ps) (rs := (sig_words_List k).rs) (F := (sig_words_List k).F) mix_ok Go.Proofs.Tryd.func17 (c := body_words_List) (by kernel_rfl) (by kernel_rfl) (bodyok_words_List k) (rfl_words_List k)

noncomputable def body_isinglassref04_Same : Code := bodyOf Go.Proofs.Tryd.f15
noncomputable def lb_isinglassref04_Same_5 : Code := (loops body_isinglassref04_Same).getD 0 .skip
noncomputable def ls_isinglassref04_Same_5 (k : Nat) : LSig := ⟨⟨[], [(0, .d (.sl (.int .u16))), (1, .d (.sl (.int .u16))), (5, .d (.int .i64))]⟩, [(.ret, ⟨[], [(4, .d .bool)]⟩), (.exit 0, ⟨[], []⟩)], fun x => isinglassref04_Same_l0 k x.1 x.2.1 x.2.2⟩
noncomputable def sig_isinglassref04_Same (k : Nat) : Sig := ⟨⟨[], [(0, .d (.sl (.int .u16))), (1, .d (.sl (.int .u16)))]⟩, ⟨[], [(0, .d .bool)]⟩, fun x => isinglassref04_Same k x.1 x.2⟩
noncomputable def G_isinglassref04_Same (k : Nat) : Gl := { m := 0, n := 26, gl := gl, ty := ty, fz := fz, fn := fnTab [], lp := lpTab 0 [(5, ls_isinglassref04_Same_5 k)] }
theorem rfl_isinglassref04_Same_5 (k : Nat) (x) : (ls_isinglassref04_Same_5 (k + 1)).F x = (ev (G_isinglassref04_Same k) lb_isinglassref04_Same_5 (head (ls_isinglassref04_Same_5 k).hd (ofTup (ls_isinglassref04_Same_5 k).hd.shs x))).den (roundEnd 0 (ls_isinglassref04_Same_5 k)) := by kernel_rfl
theorem rfl_isinglassref04_Same (k : Nat) (x) : (sig_isinglassref04_Same k).F x = (ev (G_isinglassref04_Same k) body_isinglassref04_Same (head (sig_isinglassref04_Same k).ps (ofTup (sig_isinglassref04_Same k).ps.shs x))).den (funEnd (G_isinglassref04_Same k) Go.Proofs.Tryd.f15.results.toList 0 (sig_isinglassref04_Same k).rs) := by kernel_rfl
theorem calls_isinglassref04_Same (k : Nat) : CallsOK Go.Proofs.Tryd.prog gl (G_isinglassref04_Same k) := callsOK_tab (G := G_isinglassref04_Same k) (tab := []) all_nil
theorem loop_isinglassref04_Same_5 (C : Ctx) (hP : C.P = Go.Proofs.Tryd.prog) (hgl : C.gl = gl) (hm : C.m = 0) (hN : C.N = Go.Proofs.Tryd.f15.ntmps) (k : Nat) : LoopOK C (G_isinglassref04_Same k) lb_isinglassref04_Same_5 :=
  LoopOK.of (by rw [hP]; exact mix_ok) (hd := (ls_isinglassref04_Same_5 0).hd) (ex := (ls_isinglassref04_Same_5 0).ex) (F := fun k => (ls_isinglassref04_Same_5 k).F) (Gk := G_isinglassref04_Same) (fun k => gok hP hgl hm hN rfl (by kernel_rfl) rfl (ty_ok _ rfl) (calls_isinglassref04_Same k)) (fun k => loops_all (n := 0) (by kernel_rfl) lt_all0) (fun x => rfl)
    (fun k x => by rw [hm]; exact rfl_isinglassref04_Same_5 k x) k (fun S => by rw [hm]; kernel_rfl)
theorem bodyok_isinglassref04_Same (k : Nat) : BodyOK Go.Proofs.Tryd.prog gl (G_isinglassref04_Same k) Go.Proofs.Tryd.f15 body_isinglassref04_Same (sig_isinglassref04_Same k).ps (sig_isinglassref04_Same k).rs :=
  ⟨rfl, by kernel_rfl, rfl, ty_ok _ rfl, calls_isinglassref04_Same k, by kernel_rfl, by kernel_rfl, fun C hP hgl hm hN => loops_all (n := 1) (by kernel_rfl) (lt_allS lt_all0 (loop_isinglassref04_Same_5 C hP hgl hm hN k))⟩
theorem ok_isinglassref04_Same (k : Nat) : FnOK Go.Proofs.Tryd.prog gl 15 (sig_isinglassref04_Same k) :=
  fun_ok (G := G_isinglassref04_Same k) (ps := (sig_isinglassref04_Same k).ps) (rs := (sig_isinglassref04_Same k).rs) (F := (sig_isinglassref04_Same k).F) mix_ok Go.Proofs.Tryd.func15 (c := body_isinglassref04_Same) (by kernel_rfl) (by kernel_rfl) (bodyok_isinglassref04_Same k) (rfl_isinglassref04_Same k)

noncomputable def body_math_bits_OnesCount64 : Code := bodyOf Go.Proofs.Tryd.f41
noncomputable def sig_math_bits_OnesCount64 (k : Nat) : Sig := ⟨⟨[], [(0, .d (.int .u64))]⟩, ⟨[], [(0, .d (.int .i64))]⟩, fun x => math_bits_OnesCount64 k x⟩
noncomputable def G_math_bits_OnesCount64 (k : Nat) : Gl := { m := 0, n := 35, gl := gl, ty := ty, fz := fz, fn := fnTab [], lp := lpTab 0 [] }
theorem rfl_math_bits_OnesCount64 (k : Nat) (x) : (sig_math_bits_OnesCount64 k).F x = (ev (G_math_bits_OnesCount64 k) body_math_bits_OnesCount64 (head (sig_math_bits_OnesCount64 k).ps (ofTup (sig_math_bits_OnesCount64 k).ps.shs x))).den (funEnd (G_math_bits_OnesCount64 k) Go.Proofs.Tryd.f41.results.toList 0 (sig_math_bits_OnesCount64 k).rs) := by kernel_rfl
theorem calls_math_bits_OnesCount64 (k : Nat) : CallsOK Go.Proofs.Tryd.prog gl (G_math_bits_OnesCount64 k) := callsOK_tab (G := G_math_bits_OnesCount64 k) (tab := []) all_nil
theorem bodyok_math_bits_OnesCount64 (k : Nat) : BodyOK Go.Proofs.Tryd.prog gl (G_math_bits_OnesCount64 k) Go.Proofs.Tryd.f41 body_math_bits_OnesCount64 (sig_math_bits_OnesCount64 k).ps (sig_math_bits_OnesCount64 k).rs :=
  ⟨rfl, by kernel_rfl, rfl, ty_ok _ rfl, calls_math_bits_OnesCount64 k, by kernel_rfl, by kernel_rfl, fun C hP hgl hm hN => loops_all (n := 0) (by kernel_rfl) lt_all0⟩
theorem ok_math_bits_OnesCount64 (k : Nat) : FnOK Go.Proofs.Tryd.prog gl 41 (sig_math_bits_OnesCount64 k) :=
  fun_ok (G := G_math_bits_OnesCount64 k) (ps := (sig_math_bits_OnesCount64 k).ps) (rs := (sig_math_bits_OnesCount64 k).rs) (F := (sig_math_bits_OnesCount64 k).F) mix_ok Go.Proofs.Tryd.func41 (c := body_math_bits_OnesCount64) (by kernel_rfl) (by kernel_rfl) (bodyok_math_bits_OnesCount64 k) (rfl_math_bits_OnesCount64 k)

noncomputable def body_words_Runs : Code := bodyOf Go.Proofs.Tryd.f18
noncomputable def lb_words_Runs_4 : Code := (loops body_words_Runs).getD 0 .skip
noncomputable def ls_words_Runs_4 (k : Nat) : LSig := ⟨⟨[], [(3, .d (.int .i64)), (4, .d (.int .u64)), (7, .d (.sl (.int .u64))), (8, .d (.int .i64)), (9, .d (.int .i64))]⟩, [(.exit 0, ⟨[], [(3, .d (.int .i64))]⟩)], fun x => words_Runs_l0 k x.1 x.2.1 x.2.2.1 x.2.2.2.1 x.2.2.2.2⟩
noncomputable def sig_words_Runs (k : Nat) : Sig := ⟨⟨[], [(0, .d (.sl (.int .u64)))]⟩, ⟨[], [(0, .d (.int .i64))]⟩, fun x => words_Runs k x⟩
noncomputable def G_words_Runs (k : Nat) : Gl := { m := 0, n := 26, gl := gl, ty := ty, fz := fz, fn := fnTab [(41, sig_math_bits_OnesCount64 k)], lp := lpTab 0 [(4, ls_words_Runs_4 k)] }
theorem rfl_words_Runs_4 (k : Nat) (x) : (ls_words_Runs_4 (k + 1)).F x = (ev (G_words_Runs k) lb_words_Runs_4 (head (ls_words_Runs_4 k).hd (ofTup (ls_words_Runs_4 k).hd.shs x))).den (roundEnd 0 (ls_words_Runs_4 k)) := by kernel_rfl
theorem rfl_words_Runs (k : Nat) (x) : (sig_words_Runs k).F x = (ev (G_words_Runs k) body_words_Runs (head (sig_words_Runs k).ps (ofTup (sig_words_Runs k).ps.shs x))).den (funEnd (G_words_Runs k) Go.Proofs.Tryd.f18.results.toList 0 (sig_words_Runs k).rs) := by kernel_rfl
theorem calls_words_Runs (k : Nat) : CallsOK Go.Proofs.Tryd.prog gl (G_words_Runs k) := callsOK_tab (G := G_words_Runs k) (tab := [(41, sig_math_bits_OnesCount64 k)]) (all_cons (ok_math_bits_OnesCount64 k) all_nil)
theorem loop_words_Runs_4 (C : Ctx) (hP : C.P = Go.Proofs.Tryd.prog) (hgl : C.gl = gl) (hm : C.m = 0) (hN : C.N = Go.Proofs.Tryd.f18.ntmps) (k : Nat) : LoopOK C (G_words_Runs k) lb_words_Runs_4 :=
  LoopOK.of (by rw [hP]; exact mix_ok) (hd := (ls_words_Runs_4 0).hd) (ex := (ls_words_Runs_4 0).ex) (F := fun k => (ls_words_Runs_4 k).F) (Gk := G_words_Runs) (fun k => gok hP hgl hm hN rfl (by kernel_rfl) rfl (ty_ok _ rfl) (calls_words_Runs k)) (fun k => loops_all (n := 0) (by kernel_rfl) lt_all0) (fun x => rfl)
    (fun k x => by rw [hm]; exact rfl_words_Runs_4 k x) k (fun S => by rw [hm]; kernel_rfl)
theorem bodyok_words_Runs (k : Nat) : BodyOK Go.Proofs.Tryd.prog gl (G_words_Runs k) Go.Proofs.Tryd.f18 body_words_Runs (sig_words_Runs k).ps (sig_words_Runs k).rs :=
  ⟨rfl, by kernel_rfl, rfl, ty_ok _ rfl, calls_words_Runs k, by kernel_rfl, by kernel_rfl, fun C hP hgl hm hN => loops_all (n := 1) (by kernel_rfl) (lt_allS lt_all0 (loop_words_Runs_4 C hP hgl hm hN k))⟩
theorem ok_words_Runs (k : Nat) : FnOK Go.Proofs.Tryd.prog gl 18 (sig_words_Runs k) :=
  fun_ok (G := G_words_Runs k) (ps := (sig_words_Runs k).ps) (rs := (sig_words_Runs k).rs) (F := (sig_words_Runs k).F) mix_ok Go.Proofs.Tryd.func18 (c := body_words_Runs) (by kernel_rfl) (by kernel_rfl) (bodyok_words_Runs k) (rfl_words_Runs k)

noncomputable def body_runs_Len : Code := bodyOf Go.Proofs.Tryd.f19
noncomputable def lb_runs_Len_4 : Code := (loops body_runs_Len).getD 0 .skip
noncomputable def ls_runs_Len_4 (k : Nat) : LSig := ⟨⟨[], [(3, .d (.int .i64)), (6, .d (.sl (.st (.pair (.int .u16) (.int .u16))))), (7, .d (.int .i64)), (8, .d (.int .i64))]⟩, [(.exit 0, ⟨[], [(3, .d (.int .i64))]⟩)], fun x => runs_Len_l0 k x.1 x.2.1 x.2.2.1 x.2.2.2⟩
noncomputable def sig_runs_Len (k : Nat) : Sig := ⟨⟨[], [(0, .d (.sl (.st (.pair (.int .u16) (.int .u16)))))]⟩, ⟨[], [(0, .d (.int .i64))]⟩, fun x => runs_Len k x⟩
noncomputable def G_runs_Len (k : Nat) : Gl := { m := 0, n := 20, gl := gl, ty := ty, fz := fz, fn := fnTab [], lp := lpTab 0 [(4, ls_runs_Len_4 k)] }
theorem rfl_runs_Len_4 (k : Nat) (x) : (ls_runs_Len_4 (k + 1)).F x = (ev (G_runs_Len k) lb_runs_Len_4 (head (ls_runs_Len_4 k).hd (ofTup (ls_runs_Len_4 k).hd.shs x))).den (roundEnd 0 (ls_runs_Len_4 k)) := by kernel_rfl
theorem rfl_runs_Len (k : Nat) (x) : (sig_runs_Len k).F x = (ev (G_runs_Len k) body_runs_Len (head (sig_runs_Len k).ps (ofTup (sig_runs_Len k).ps.shs x))).den (funEnd (G_runs_Len k) Go.Proofs.Tryd.f19.results.toList 0 (sig_runs_Len k).rs) := by kernel_rfl
theorem calls_runs_Len (k : Nat) : CallsOK Go.Proofs.Tryd.prog gl (G_runs_Len k) := callsOK_tab (G := G_runs_Len k) (tab := []) all_nil
theorem loop_runs_Len_4 (C : Ctx) (hP : C.P = Go.Proofs.Tryd.prog) (hgl : C.gl = gl) (hm : C.m = 0) (hN : C.N = Go.Proofs.Tryd.f19.ntmps) (k : Nat) : LoopOK C (G_runs_Len k) lb_runs_Len_4 :=
  LoopOK.of (by rw [hP]; exact mix_ok) (hd := (ls_runs_Len_4 0).hd) (ex := (ls_runs_Len_4 0).ex) (F := fun k => (ls_runs_Len_4 k).F) (Gk := G_runs_Len) (fun k => gok hP hgl hm hN rfl (by kernel_rfl) rfl (ty_ok _ rfl) (calls_runs_Len k)) (fun k => loops_all (n := 0) (by kernel_rfl) lt_all0) (fun x => rfl)
    (fun k x => by rw [hm]; exact rfl_runs_Len_4 k x) k (fun S => by rw [hm]; kernel_rfl)
theorem bodyok_runs_Len (k : Nat) : BodyOK Go.Proofs.Tryd.prog gl (G_runs_Len k) Go.Proofs.Tryd.f19 body_runs_Len (sig_runs_Len k).ps (sig_runs_Len k).rs :=
  ⟨rfl, by kernel_rfl, rfl, ty_ok _ rfl, calls_runs_Len k, by kernel_rfl, by kernel_rfl, fun C hP hgl hm hN => loops_all (n := 1) (by kernel_rfl) (lt_allS lt_all0 (loop_runs_Len_4 C hP hgl hm hN k))⟩
theorem ok_runs_Len (k : Nat) : FnOK Go.Proofs.Tryd.prog gl 19 (sig_runs_Len k) :=
  fun_ok (G := G_runs_Len k) (ps := (sig_runs_Len k).ps) (rs := (sig_runs_Len k).rs) (F := (sig_runs_Len k).F) mix_ok Go.Proofs.Tryd.func19 (c := body_runs_Len) (by kernel_rfl) (by kernel_rfl) (bodyok_runs_Len k) (rfl_runs_Len k)

noncomputable def body_words_Len : Code := bodyOf Go.Proofs.Tryd.f20
noncomputable def lb_words_Len_4 : Code := (loops body_words_Len).getD 0 .skip
noncomputable def ls_words_Len_4 (k : Nat) : LSig := ⟨⟨[], [(3, .d (.int .i64)), (6, .d (.sl (.int .u64))), (7, .d (.int .i64)), (8, .d (.int .i64))]⟩, [(.exit 0, ⟨[], [(3, .d (.int .i64))]⟩)], fun x => words_Len_l0 k x.1 x.2.1 x.2.2.1 x.2.2.2⟩
noncomputable def sig_words_Len (k : Nat) : Sig := ⟨⟨[], [(0, .d (.sl (.int .u64)))]⟩, ⟨[], [(0, .d (.int .i64))]⟩, fun x => words_Len k x⟩
noncomputable def G_words_Len (k : Nat) : Gl := { m := 0, n := 18, gl := gl, ty := ty, fz := fz, fn := fnTab [(41, sig_math_bits_OnesCount64 k)], lp := lpTab 0 [(4, ls_words_Len_4 k)] }
theorem rfl_words_Len_4 (k : Nat) (x) : (ls_words_Len_4 (k + 1)).F x = (ev (G_words_Len k) lb_words_Len_4 (head (ls_words_Len_4 k).hd (ofTup (ls_words_Len_4 k).hd.shs x))).den (roundEnd 0 (ls_words_Len_4 k)) := by kernel_rfl
theorem rfl_words_Len (k : Nat) (x) : (sig_words_Len k).F x = (ev (G_words_Len k) body_words_Len (head (sig_words_Len k).ps (ofTup (sig_words_Len k).ps.shs x))).den (funEnd (G_words_Len k) Go.Proofs.Tryd.f20.results.toList 0 (sig_words_Len k).rs) := by kernel_rfl
theorem calls_words_Len (k : Nat) : CallsOK Go.Proofs.Tryd.prog gl (G_words_Len k) := callsOK_tab (G := G_words_Len k) (tab := [(41, sig_math_bits_OnesCount64 k)]) (all_cons (ok_math_bits_OnesCount64 k) all_nil)
theorem loop_words_Len_4 (C : Ctx) (hP : C.P = Go.Proofs.Tryd.prog) (hgl : C.gl = gl) (hm : C.m = 0) (hN : C.N = Go.Proofs.Tryd.f20.ntmps) (k : Nat) : LoopOK C (G_words_Len k) lb_words_Len_4 :=
  LoopOK.of (by rw [hP]; exact mix_ok) (hd := (ls_words_Len_4 0).hd) (ex := (ls_words_Len_4 0).ex) (F := fun k => (ls_words_Len_4 k).F) (Gk := G_words_Len) (fun k => gok hP hgl hm hN rfl (by kernel_rfl) rfl (ty_ok _ rfl) (calls_words_Len k)) (fun k => loops_all (n := 0) (by kernel_rfl) lt_all0) (fun x => rfl)
    (fun k x => by rw [hm]; exact rfl_words_Len_4 k x) k (fun S => by rw [hm]; kernel_rfl)
theorem bodyok_words_Len (k : Nat) : BodyOK Go.Proofs.Tryd.prog gl (G_words_Len k) Go.Proofs.Tryd.f20 body_words_Len (sig_words_Len k).ps (sig_words_Len k).rs :=
  ⟨rfl, by kernel_rfl, rfl, ty_ok _ rfl, calls_words_Len k, by kernel_rfl, by kernel_rfl, fun C hP hgl hm hN => loops_all (n := 1) (by kernel_rfl) (lt_allS lt_all0 (loop_words_Len_4 C hP hgl hm hN k))⟩
theorem ok_words_Len (k : Nat) : FnOK Go.Proofs.Tryd.prog gl 20 (sig_words_Len k) :=
  fun_ok (G := G_words_Len k) (ps := (sig_words_Len k).ps) (rs := (sig_words_Len k).rs) (F := (sig_words_Len k).F) mix_ok Go.Proofs.Tryd.func20 (c := body_words_Len) (by kernel_rfl) (by kernel_rfl) (bodyok_words_Len k) (rfl_words_Len k)

noncomputable def body_isinglasslaw06_RunsWords : Code := bodyOf Go.Proofs.Tryd.f3
noncomputable def lb_isinglasslaw06_RunsWords_8 : Code := (loops body_isinglasslaw06_RunsWords).getD 0 .skip
noncomputable def ls_isinglasslaw06_RunsWords_8 (k : Nat) : LSig := ⟨⟨[(.tmp 7, .arr (.sl (.st (.pair (.int .u16) (.int .u16))))), (.tmp 8, .arr (.sl (.int .u64)))], [(7, .ptr 0 0), (8, .ptr 1 0), (59, .d (.int .i64))]⟩, [(.ret, ⟨[], [(4, .d .bool)]⟩), (.exit 0, ⟨[], []⟩)], fun x => isinglasslaw06_RunsWords_l0 k x.1 x.2.1 x.2.2⟩
noncomputable def sig_isinglasslaw06_RunsWords (k : Nat) : Sig := ⟨⟨[], [(0, .d (.sl (.st (.pair (.int .u16) (.int .u16))))), (1, .d (.sl (.st (.pair (.int .u16) (.int .u16)))))]⟩, ⟨[], [(0, .d .bool)]⟩, fun x => isinglasslaw06_RunsWords k x.1 x.2⟩
noncomputable def G_isinglasslaw06_RunsWords (k : Nat) : Gl := { m := 0, n := 96, gl := gl, ty := ty, fz := fz, fn := fnTab [(5, sig_isinglasslaw06_known k), (4, sig_isinglassref06_May k), (6, sig_isinglasslaw06_of k), (7, sig_runs_And k), (8, sig_runs_Or k), (9, sig_runs_AndNot k), (10, sig_runs_Xor k), (11, sig_words_And k), (12, sig_words_Or k), (13, sig_words_AndNot k), (14, sig_words_Xor k), (16, sig_runs_List k), (17, sig_words_List k), (15, sig_isinglassref04_Same k), (18, sig_words_Runs k), (19, sig_runs_Len k), (20, sig_words_Len k)], lp := lpTab 0 [(8, ls_isinglasslaw06_RunsWords_8 k)] }
theorem rfl_isinglasslaw06_RunsWords_8 (k : Nat) (x) : (ls_isinglasslaw06_RunsWords_8 (k + 1)).F x = (ev (G_isinglasslaw06_RunsWords k) lb_isinglasslaw06_RunsWords_8 (head (ls_isinglasslaw06_RunsWords_8 k).hd (ofTup (ls_isinglasslaw06_RunsWords_8 k).hd.shs x))).den (roundEnd 0 (ls_isinglasslaw06_RunsWords_8 k)) := by kernel_rfl
theorem rfl_isinglasslaw06_RunsWords (k : Nat) (x) : (sig_isinglasslaw06_RunsWords k).F x = (ev (G_isinglasslaw06_RunsWords k) body_isinglasslaw06_RunsWords (head (sig_isinglasslaw06_RunsWords k).ps (ofTup (sig_isinglasslaw06_RunsWords k).ps.shs x))).den (funEnd (G_isinglasslaw06_RunsWords k) Go.Proofs.Tryd.f3.results.toList 0 (sig_isinglasslaw06_RunsWords k).rs) := by kernel_rfl
theorem calls_isinglasslaw06_RunsWords (k : Nat) : CallsOK Go.Proofs.Tryd.prog gl (G_isinglasslaw06_RunsWords k) := callsOK_tab (G := G_isinglasslaw06_RunsWords k) (tab := [(5, sig_isinglasslaw06_known k), (4, sig_isinglassref06_May k), (6, sig_isinglasslaw06_of k), (7, sig_runs_And k), (8, sig_runs_Or k), (9, sig_runs_AndNot k), (10, sig_runs_Xor k), (11, sig_words_And k), (12, sig_words_Or k), (13, sig_words_AndNot k), (14, sig_words_Xor k), (16, sig_runs_List k), (17, sig_words_List k), (15, sig_isinglassref04_Same k), (18, sig_words_Runs k), (19, sig_runs_Len k), (20, sig_words_Len k)]) (all_cons (ok_isinglasslaw06_known k) (all_cons (ok_isinglassref06_May k) (all_cons (ok_isinglasslaw06_of k) (all_cons (ok_runs_And k) (all_cons (ok_runs_Or k) (all_cons (ok_runs_AndNot k) (all_cons (ok_runs_Xor k) (all_cons (ok_words_And k) (all_cons (ok_words_Or k) (all_cons (ok_words_AndNot k) (all_cons (ok_words_Xor k) (all_cons (ok_runs_List k) (all_cons (ok_words_List k) (all_cons (ok_isinglassref04_Same k) (all_cons (ok_words_Runs k) (all_cons (ok_runs_Len k) (all_cons (ok_words_Len k) all_nil)))))))))))))))))
theorem loop_isinglasslaw06_RunsWords_8 (C : Ctx) (hP : C.P = Go.Proofs.Tryd.prog) (hgl : C.gl = gl) (hm : C.m = 0) (hN : C.N = Go.Proofs.Tryd.f3.ntmps) (k : Nat) : LoopOK C (G_isinglasslaw06_RunsWords k) lb_isinglasslaw06_RunsWords_8 :=
  LoopOK.of (by rw [hP]; exact mix_ok) (hd := (ls_isinglasslaw06_RunsWords_8 0).hd) (ex := (ls_isinglasslaw06_RunsWords_8 0).ex) (F := fun k => (ls_isinglasslaw06_RunsWords_8 k).F) (Gk := G_isinglasslaw06_RunsWords) (fun k => gok hP hgl hm hN rfl (by kernel_rfl) rfl (ty_ok _ rfl) (calls_isinglasslaw06_RunsWords k)) (fun k => loops_all (n := 0) (by kernel_rfl) lt_all0) (fun x => rfl)
    (fun k x => by rw [hm]; exact rfl_isinglasslaw06_RunsWords_8 k x) k (fun S => by rw [hm]; kernel_rfl)
theorem bodyok_isinglasslaw06_RunsWords (k : Nat) : BodyOK Go.Proofs.Tryd.prog gl (G_isinglasslaw06_RunsWords k) Go.Proofs.Tryd.f3 body_isinglasslaw06_RunsWords (sig_isinglasslaw06_RunsWords k).ps (sig_isinglasslaw06_RunsWords k).rs :=
  ⟨rfl, by kernel_rfl, rfl, ty_ok _ rfl, calls_isinglasslaw06_RunsWords k, by kernel_rfl, by kernel_rfl, fun C hP hgl hm hN => loops_all (n := 1) (by kernel_rfl) (lt_allS lt_all0 (loop_isinglasslaw06_RunsWords_8 C hP hgl hm hN k))⟩
theorem ok_isinglasslaw06_RunsWords (k : Nat) : FnOK Go.Proofs.Tryd.prog gl 3 (sig_isinglasslaw06_RunsWords k) :=
  fun_ok (G := G_isinglasslaw06_RunsWords k) (ps := (sig_isinglasslaw06_RunsWords k).ps) (rs := (sig_isinglasslaw06_RunsWords k).rs) (F := (sig_isinglasslaw06_RunsWords k).F) mix_ok Go.Proofs.Tryd.func3 (c := body_isinglasslaw06_RunsWords) (by kernel_rfl) (by kernel_rfl) (bodyok_isinglasslaw06_RunsWords k) (rfl_isinglasslaw06_RunsWords k)

end Go.Rx.Tryd

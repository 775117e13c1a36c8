/- Printed by gen.py: each function comes to its pure function. -/
import Derived.Test.YtmglpacjnppbfaaEqs
import Derived.Test.YtmglpacjnppbfaaLawsF
import Derived.Test.YtmglpacjnppbfaaProg
import Derived.KernelRfl
namespace Go.Rx.Try
set_option linter.unusedVariables false
noncomputable def bodyOf (f : Func) : Code := match f.body with | some c => c | none => .skip
def gl : Nat → Option Tab := fun _ => none
def tyL : List (TypeId × TI) := [(3, ⟨.int .i64, (.int .i64), 1, 8, false⟩), (4, ⟨.bool, .bool, 1, 1, false⟩), (22, ⟨.int .u16, (.int .u16), 1, 2, false⟩), (25, ⟨.st [(0, 22), (1, 22)], (.st (.pair (.int .u16) (.int .u16))), 2, 4, true⟩), (26, ⟨.sl 25, (.sl (.st (.pair (.int .u16) (.int .u16)))), 1, 24, false⟩), (32, ⟨.arr 4 26, .unit, 4, 96, false⟩), (40, ⟨.sl 22, (.sl (.int .u16)), 1, 24, false⟩), (42, ⟨.sl 3, (.sl (.int .i64)), 1, 24, false⟩), (50, ⟨.int .u64, (.int .u64), 1, 8, false⟩)]
def ty : TypeId → Option TI := tyTab tyL
theorem tab_ok : tabB Go.Proofs.Try.prog ty tyL = true := by kernel_rfl
theorem mix_ok : Go.Proofs.Try.prog.follows .mixedOrders = true := by kernel_rfl
def fzTab : List (Nat × List Bool) := [(5, []), (6, [true, true]), (7, [true]), (8, [true, true]), (9, [true, true]), (10, [true, true]), (11, [true, true]), (12, [true, true, true]), (13, [true, true]), (14, [true, true]), (15, [true, true]), (16, [true]), (17, [true]), (18, [true, true, true]), (19, [true]), (20, [true, true]), (21, [true]), (22, [true, true]), (23, [true, true]), (24, [true, true]), (25, [true]), (26, [true, true]), (27, [true, true, true]), (28, [true, true])]
def fz (f : FuncId) : List Bool := match look fzTab f with | some l => l | none => []
theorem eqs_ok : ∀ p, p ∈ tyL → p.2.eqs = true → EqGoal Go.Proofs.Try.prog p.1 p.2.size := (all_cons (fun h => nomatch h) (all_cons (fun h => nomatch h) (all_cons (fun h => nomatch h) (all_cons (fun _ => eqs_two (by kernel_rfl) Go.Proofs.Try.underlying25 (by kernel_rfl) (by kernel_rfl) (by kernel_rfl) rfl rfl Go.Proofs.Try.underlying22 Go.Proofs.Try.underlying22) (all_cons (fun h => nomatch h) (all_cons (fun h => nomatch h) (all_cons (fun h => nomatch h) (all_cons (fun h => nomatch h) (all_cons (fun h => nomatch h) all_nil)))))))))
theorem ty_ok (G : Gl) (h : G.ty = ty) : TyOK Go.Proofs.Try.prog G := by
  intro t ti ht
  rw [h] at ht ⊢
  exact tiB_ok (tabB_ok tab_ok t ti ht) (fun he => eqs_ok _ (look_mem ht) he)
noncomputable def body_runs_Of : Code := bodyOf Go.Proofs.Try.f17
noncomputable def lb_runs_Of_4 : Code := (loops body_runs_Of).getD 0 .skip
noncomputable def ls_runs_Of_4 (k : Nat) : LSig := ⟨⟨[(.tmp 3, .grow false (.st (.pair (.int .u16) (.int .u16))) 25)], [(0, .d (.sl (.int .u16))), (3, .own 0), (6, .d (.sl (.int .u16))), (7, .d (.int .i64)), (8, .d (.int .i64))]⟩, [(.exit 0, ⟨[(.tmp 3, .grow false (.st (.pair (.int .u16) (.int .u16))) 25)], [(3, .own 0)]⟩)], fun x => runs_Of_l0 k x.1 x.2.1 x.2.2.1 x.2.2.2.1 x.2.2.2.2⟩
noncomputable def sig_runs_Of (k : Nat) : Sig := ⟨⟨[], [(0, .d (.sl (.int .u16)))]⟩, ⟨[], [(0, .d (.sl (.st (.pair (.int .u16) (.int .u16)))))]⟩, fun x => runs_Of k x⟩
noncomputable def G_runs_Of (k : Nat) : Gl := { m := 0, n := 42, gl := gl, ty := ty, fz := fz, fn := fnTab [], lp := lpTab 0 [(4, ls_runs_Of_4 k)] }
theorem rfl_runs_Of_4 (k : Nat) (x) : (ls_runs_Of_4 (k + 1)).F x = (ev (G_runs_Of k) lb_runs_Of_4 (head (ls_runs_Of_4 k).hd (ofTup (ls_runs_Of_4 k).hd.shs x))).den (roundEnd 0 (ls_runs_Of_4 k)) := by kernel_rfl
theorem rfl_runs_Of (k : Nat) (x) : (sig_runs_Of k).F x = (ev (G_runs_Of k) body_runs_Of (head (sig_runs_Of k).ps (ofTup (sig_runs_Of k).ps.shs x))).den (funEnd (G_runs_Of k) Go.Proofs.Try.f17.results.toList 0 (sig_runs_Of k).rs) := by kernel_rfl
theorem calls_runs_Of (k : Nat) : CallsOK Go.Proofs.Try.prog gl (G_runs_Of k) := callsOK_tab (G := G_runs_Of k) (tab := []) all_nil
theorem loop_runs_Of_4 (C : Ctx) (hP : C.P = Go.Proofs.Try.prog) (hgl : C.gl = gl) (hm : C.m = 0) (hN : C.N = Go.Proofs.Try.f17.ntmps) (k : Nat) : LoopOK C (G_runs_Of k) lb_runs_Of_4 :=
  LoopOK.of (by rw [hP]; exact mix_ok) (hd := (ls_runs_Of_4 0).hd) (ex := (ls_runs_Of_4 0).ex) (F := fun k => (ls_runs_Of_4 k).F) (Gk := G_runs_Of) (fun k => gok hP hgl hm hN rfl (by kernel_rfl) rfl (ty_ok _ rfl) (calls_runs_Of k)) (fun k => loops_all (n := 0) (by kernel_rfl) lt_all0) (fun x => rfl)
    (fun k x => by rw [hm]; exact rfl_runs_Of_4 k x) k (fun S => by rw [hm]; kernel_rfl)
theorem bodyok_runs_Of (k : Nat) : BodyOK Go.Proofs.Try.prog gl (G_runs_Of k) Go.Proofs.Try.f17 body_runs_Of (sig_runs_Of k).ps (sig_runs_Of k).rs :=
  ⟨rfl, by kernel_rfl, rfl, ty_ok _ rfl, calls_runs_Of k, by kernel_rfl, by kernel_rfl, fun C hP hgl hm hN => loops_all (n := 1) (by kernel_rfl) (lt_allS lt_all0 (loop_runs_Of_4 C hP hgl hm hN k))⟩
theorem ok_runs_Of (k : Nat) : FnOK Go.Proofs.Try.prog gl 17 (sig_runs_Of k) :=
  fun_ok (G := G_runs_Of k) (ps := (sig_runs_Of k).ps) (rs := (sig_runs_Of k).rs) (F := (sig_runs_Of k).F) mix_ok Go.Proofs.Try.func17 (c := body_runs_Of) (by kernel_rfl) (by kernel_rfl) (bodyok_runs_Of k) (rfl_runs_Of k)

noncomputable def body_slices_Clone_Run : Code := bodyOf Go.Proofs.Try.f25
noncomputable def sig_slices_Clone_Run (k : Nat) : Sig := ⟨⟨[], [(0, .d (.sl (.st (.pair (.int .u16) (.int .u16)))))]⟩, ⟨[], [(0, .d (.sl (.st (.pair (.int .u16) (.int .u16)))))]⟩, fun x => slices_Clone_Run k x⟩
noncomputable def G_slices_Clone_Run (k : Nat) : Gl := { m := 0, n := 8, gl := gl, ty := ty, fz := fz, fn := fnTab [], lp := lpTab 0 [] }
theorem rfl_slices_Clone_Run_cons (k : Nat) (x l) : (sig_slices_Clone_Run k).F (x :: l) = (ev (G_slices_Clone_Run k) body_slices_Clone_Run (head (sig_slices_Clone_Run k).ps (ofTup (sig_slices_Clone_Run k).ps.shs (x :: l)))).den (funEnd (G_slices_Clone_Run k) Go.Proofs.Try.f25.results.toList 0 (sig_slices_Clone_Run k).rs) := by kernel_rfl
theorem rfl_slices_Clone_Run_nil (k : Nat) : (ev (G_slices_Clone_Run k) (ambR0 body_slices_Clone_Run) (head (sig_slices_Clone_Run k).ps (ofTup (sig_slices_Clone_Run k).ps.shs []))).den (ambMid (G_slices_Clone_Run k) (ambT body_slices_Clone_Run) (ambR1 body_slices_Clone_Run) (ambA body_slices_Clone_Run) (ambB body_slices_Clone_Run) (funEnd (G_slices_Clone_Run k) Go.Proofs.Try.f25.results.toList 0 (sig_slices_Clone_Run k).rs)) = some [] := by kernel_rfl
theorem shape_slices_Clone_Run : body_slices_Clone_Run = .seq (ambR0 body_slices_Clone_Run) (.seq (.seq (ambR1 body_slices_Clone_Run) (.cond (.tmp (ambT body_slices_Clone_Run)) (ambA body_slices_Clone_Run) .skip)) (ambB body_slices_Clone_Run)) := by kernel_rfl
theorem calls_slices_Clone_Run (k : Nat) : CallsOK Go.Proofs.Try.prog gl (G_slices_Clone_Run k) := callsOK_tab (G := G_slices_Clone_Run k) (tab := []) all_nil
theorem bodyok_slices_Clone_Run (k : Nat) : BodyOK Go.Proofs.Try.prog gl (G_slices_Clone_Run k) Go.Proofs.Try.f25 body_slices_Clone_Run (sig_slices_Clone_Run k).ps (sig_slices_Clone_Run k).rs :=
  ⟨rfl, by kernel_rfl, rfl, ty_ok _ rfl, calls_slices_Clone_Run k, by kernel_rfl, by kernel_rfl, fun C hP hgl hm hN => loops_all (n := 0) (by kernel_rfl) lt_all0⟩
theorem ok_slices_Clone_Run (k : Nat) : FnOK Go.Proofs.Try.prog gl 25 (sig_slices_Clone_Run k) :=
  clone_ok (G := G_slices_Clone_Run k) (e := (.st (.pair (.int .u16) (.int .u16)))) (F := slices_Clone_Run k) mix_ok Go.Proofs.Try.func25 (c := body_slices_Clone_Run) (by kernel_rfl) (by kernel_rfl) (bodyok_slices_Clone_Run k) shape_slices_Clone_Run (by kernel_rfl) (by kernel_rfl) (by kernel_rfl) (by kernel_rfl) (rfl_slices_Clone_Run_nil k) (rfl_slices_Clone_Run_cons k) rfl

noncomputable def body_runs_end : Code := bodyOf Go.Proofs.Try.f21
noncomputable def sig_runs_end (k : Nat) : Sig := ⟨⟨[], [(0, .d (.st (.pair (.int .u16) (.int .u16))))]⟩, ⟨[], [(0, .d (.int .i64))]⟩, fun x => runs_end k x⟩
noncomputable def G_runs_end (k : Nat) : Gl := { m := 0, n := 11, gl := gl, ty := ty, fz := fz, fn := fnTab [], lp := lpTab 0 [] }
theorem rfl_runs_end (k : Nat) (x) : (sig_runs_end k).F x = (ev (G_runs_end k) body_runs_end (head (sig_runs_end k).ps (ofTup (sig_runs_end k).ps.shs x))).den (funEnd (G_runs_end k) Go.Proofs.Try.f21.results.toList 0 (sig_runs_end k).rs) := by kernel_rfl
theorem calls_runs_end (k : Nat) : CallsOK Go.Proofs.Try.prog gl (G_runs_end k) := callsOK_tab (G := G_runs_end k) (tab := []) all_nil
theorem bodyok_runs_end (k : Nat) : BodyOK Go.Proofs.Try.prog gl (G_runs_end k) Go.Proofs.Try.f21 body_runs_end (sig_runs_end k).ps (sig_runs_end k).rs :=
  ⟨rfl, by kernel_rfl, rfl, ty_ok _ rfl, calls_runs_end k, by kernel_rfl, by kernel_rfl, fun C hP hgl hm hN => loops_all (n := 0) (by kernel_rfl) lt_all0⟩
theorem ok_runs_end (k : Nat) : FnOK Go.Proofs.Try.prog gl 21 (sig_runs_end k) :=
  fun_ok (G := G_runs_end k) (ps := (sig_runs_end k).ps) (rs := (sig_runs_end k).rs) (F := (sig_runs_end k).F) mix_ok Go.Proofs.Try.func21 (c := body_runs_end) (by kernel_rfl) (by kernel_rfl) (bodyok_runs_end k) (rfl_runs_end k)

noncomputable def body_runs_row : Code := bodyOf Go.Proofs.Try.f19
noncomputable def lb_runs_row_4 : Code := (loops body_runs_row).getD 0 .skip
noncomputable def ls_runs_row_4 (k : Nat) : LSig := ⟨⟨[(.tmp 3, .grow false (.int .i64) 3)], [(3, .own 0), (6, .d (.sl (.st (.pair (.int .u16) (.int .u16))))), (7, .d (.int .i64)), (8, .d (.int .i64))]⟩, [(.exit 0, ⟨[(.tmp 3, .grow false (.int .i64) 3)], [(3, .own 0)]⟩)], fun x => runs_row_l0 k x.1 x.2.1 x.2.2.1 x.2.2.2⟩
noncomputable def sig_runs_row (k : Nat) : Sig := ⟨⟨[], [(0, .d (.sl (.st (.pair (.int .u16) (.int .u16)))))]⟩, ⟨[], [(0, .d (.sl (.int .i64)))]⟩, fun x => runs_row k x⟩
noncomputable def G_runs_row (k : Nat) : Gl := { m := 0, n := 22, gl := gl, ty := ty, fz := fz, fn := fnTab [(21, sig_runs_end k)], lp := lpTab 0 [(4, ls_runs_row_4 k)] }
theorem rfl_runs_row_4 (k : Nat) (x) : (ls_runs_row_4 (k + 1)).F x = (ev (G_runs_row k) lb_runs_row_4 (head (ls_runs_row_4 k).hd (ofTup (ls_runs_row_4 k).hd.shs x))).den (roundEnd 0 (ls_runs_row_4 k)) := by kernel_rfl
theorem rfl_runs_row (k : Nat) (x) : (sig_runs_row k).F x = (ev (G_runs_row k) body_runs_row (head (sig_runs_row k).ps (ofTup (sig_runs_row k).ps.shs x))).den (funEnd (G_runs_row k) Go.Proofs.Try.f19.results.toList 0 (sig_runs_row k).rs) := by kernel_rfl
theorem calls_runs_row (k : Nat) : CallsOK Go.Proofs.Try.prog gl (G_runs_row k) := callsOK_tab (G := G_runs_row k) (tab := [(21, sig_runs_end k)]) (all_cons (ok_runs_end k) all_nil)
theorem loop_runs_row_4 (C : Ctx) (hP : C.P = Go.Proofs.Try.prog) (hgl : C.gl = gl) (hm : C.m = 0) (hN : C.N = Go.Proofs.Try.f19.ntmps) (k : Nat) : LoopOK C (G_runs_row k) lb_runs_row_4 :=
  LoopOK.of (by rw [hP]; exact mix_ok) (hd := (ls_runs_row_4 0).hd) (ex := (ls_runs_row_4 0).ex) (F := fun k => (ls_runs_row_4 k).F) (Gk := G_runs_row) (fun k => gok hP hgl hm hN rfl (by kernel_rfl) rfl (ty_ok _ rfl) (calls_runs_row k)) (fun k => loops_all (n := 0) (by kernel_rfl) lt_all0) (fun x => rfl)
    (fun k x => by rw [hm]; exact rfl_runs_row_4 k x) k (fun S => by rw [hm]; kernel_rfl)
theorem bodyok_runs_row (k : Nat) : BodyOK Go.Proofs.Try.prog gl (G_runs_row k) Go.Proofs.Try.f19 body_runs_row (sig_runs_row k).ps (sig_runs_row k).rs :=
  ⟨rfl, by kernel_rfl, rfl, ty_ok _ rfl, calls_runs_row k, by kernel_rfl, by kernel_rfl, fun C hP hgl hm hN => loops_all (n := 1) (by kernel_rfl) (lt_allS lt_all0 (loop_runs_row_4 C hP hgl hm hN k))⟩
theorem ok_runs_row (k : Nat) : FnOK Go.Proofs.Try.prog gl 19 (sig_runs_row k) :=
  fun_ok (G := G_runs_row k) (ps := (sig_runs_row k).ps) (rs := (sig_runs_row k).rs) (F := (sig_runs_row k).F) mix_ok Go.Proofs.Try.func19 (c := body_runs_row) (by kernel_rfl) (by kernel_rfl) (bodyok_runs_row k) (rfl_runs_row k)

noncomputable def body_runs_Flip_1 : Code := bodyOf Go.Proofs.Try.f26
noncomputable def sig_runs_Flip_1 (k : Nat) : Sig := ⟨⟨[], [(0, .d .bool), (1, .d .bool)]⟩, ⟨[], [(0, .d .bool)]⟩, fun x => runs_Flip_1 k x.1 x.2⟩
noncomputable def G_runs_Flip_1 (k : Nat) : Gl := { m := 0, n := 8, gl := gl, ty := ty, fz := fz, fn := fnTab [], lp := lpTab 0 [] }
theorem rfl_runs_Flip_1 (k : Nat) (x) : (sig_runs_Flip_1 k).F x = (ev (G_runs_Flip_1 k) body_runs_Flip_1 (head (sig_runs_Flip_1 k).ps (ofTup (sig_runs_Flip_1 k).ps.shs x))).den (funEnd (G_runs_Flip_1 k) Go.Proofs.Try.f26.results.toList 0 (sig_runs_Flip_1 k).rs) := by kernel_rfl
theorem calls_runs_Flip_1 (k : Nat) : CallsOK Go.Proofs.Try.prog gl (G_runs_Flip_1 k) := callsOK_tab (G := G_runs_Flip_1 k) (tab := []) all_nil
theorem bodyok_runs_Flip_1 (k : Nat) : BodyOK Go.Proofs.Try.prog gl (G_runs_Flip_1 k) Go.Proofs.Try.f26 body_runs_Flip_1 (sig_runs_Flip_1 k).ps (sig_runs_Flip_1 k).rs :=
  ⟨rfl, by kernel_rfl, rfl, ty_ok _ rfl, calls_runs_Flip_1 k, by kernel_rfl, by kernel_rfl, fun C hP hgl hm hN => loops_all (n := 0) (by kernel_rfl) lt_all0⟩
theorem ok_runs_Flip_1 (k : Nat) : FnOK Go.Proofs.Try.prog gl 26 (sig_runs_Flip_1 k) :=
  fun_ok (G := G_runs_Flip_1 k) (ps := (sig_runs_Flip_1 k).ps) (rs := (sig_runs_Flip_1 k).rs) (F := (sig_runs_Flip_1 k).F) mix_ok Go.Proofs.Try.func26 (c := body_runs_Flip_1) (by kernel_rfl) (by kernel_rfl) (bodyok_runs_Flip_1 k) (rfl_runs_Flip_1 k)

noncomputable def body_runs_edges_Flip_1 : Code := bodyOf Go.Proofs.Try.f18
noncomputable def lb_runs_edges_Flip_1_5 : Code := (loops body_runs_edges_Flip_1).getD 0 .skip
noncomputable def lb_runs_edges_Flip_1_11 : Code := (loops lb_runs_edges_Flip_1_5).getD 0 .skip
noncomputable def lb_runs_edges_Flip_1_13 : Code := (loops lb_runs_edges_Flip_1_5).getD 1 .skip
noncomputable def ls_runs_edges_Flip_1_11 (k : Nat) : LSig := ⟨⟨[(.tmp 7, .grow false (.st (.pair (.int .u16) (.int .u16))) 25)], [(0, .d (.sl (.int .i64))), (1, .d (.sl (.int .i64))), (2, .fn 26 [] []), (7, .own 0), (8, .d .bool), (9, .d (.int .i64)), (10, .d (.int .i64)), (11, .d (.int .i64)), (12, .d (.int .i64))]⟩, [(.exit 2, ⟨[(.tmp 7, .grow false (.st (.pair (.int .u16) (.int .u16))) 25)], [(0, .d (.sl (.int .i64))), (1, .d (.sl (.int .i64))), (2, .fn 26 [] []), (7, .own 0), (8, .d .bool), (9, .d (.int .i64)), (10, .d (.int .i64)), (11, .d (.int .i64)), (12, .d (.int .i64))]⟩)], fun x => runs_edges_Flip_1_l1 k x.1 x.2.1 x.2.2.1 x.2.2.2.1 x.2.2.2.2.1 x.2.2.2.2.2.1 x.2.2.2.2.2.2.1 x.2.2.2.2.2.2.2⟩
noncomputable def ls_runs_edges_Flip_1_13 (k : Nat) : LSig := ⟨⟨[(.tmp 7, .grow false (.st (.pair (.int .u16) (.int .u16))) 25)], [(0, .d (.sl (.int .i64))), (1, .d (.sl (.int .i64))), (2, .fn 26 [] []), (7, .own 0), (8, .d .bool), (9, .d (.int .i64)), (10, .d (.int .i64)), (11, .d (.int .i64)), (12, .d (.int .i64))]⟩, [(.exit 4, ⟨[(.tmp 7, .grow false (.st (.pair (.int .u16) (.int .u16))) 25)], [(0, .d (.sl (.int .i64))), (1, .d (.sl (.int .i64))), (2, .fn 26 [] []), (7, .own 0), (8, .d .bool), (9, .d (.int .i64)), (10, .d (.int .i64)), (11, .d (.int .i64)), (12, .d (.int .i64))]⟩)], fun x => runs_edges_Flip_1_l2 k x.1 x.2.1 x.2.2.1 x.2.2.2.1 x.2.2.2.2.1 x.2.2.2.2.2.1 x.2.2.2.2.2.2.1 x.2.2.2.2.2.2.2⟩
noncomputable def ls_runs_edges_Flip_1_5 (k : Nat) : LSig := ⟨⟨[(.tmp 7, .grow false (.st (.pair (.int .u16) (.int .u16))) 25)], [(0, .d (.sl (.int .i64))), (1, .d (.sl (.int .i64))), (2, .fn 26 [] []), (7, .own 0), (8, .d .bool), (9, .d (.int .i64)), (10, .d (.int .i64)), (11, .d (.int .i64))]⟩, [(.exit 0, ⟨[(.tmp 7, .grow false (.st (.pair (.int .u16) (.int .u16))) 25)], [(7, .own 0)]⟩)], fun x => runs_edges_Flip_1_l0 k x.1 x.2.1 x.2.2.1 x.2.2.2.1 x.2.2.2.2.1 x.2.2.2.2.2.1 x.2.2.2.2.2.2⟩
noncomputable def sig_runs_edges_Flip_1 (k : Nat) : Sig := ⟨⟨[], [(0, .d (.sl (.int .i64))), (1, .d (.sl (.int .i64))), (2, .fn 26 [] [])]⟩, ⟨[], [(0, .d (.sl (.st (.pair (.int .u16) (.int .u16)))))]⟩, fun x => runs_edges_Flip_1 k x.1 x.2⟩
noncomputable def G_runs_edges_Flip_1 (k : Nat) : Gl := { m := 0, n := 96, gl := gl, ty := ty, fz := fz, fn := fnTab [(26, sig_runs_Flip_1 k)], lp := lpTab 0 [(11, ls_runs_edges_Flip_1_11 k), (13, ls_runs_edges_Flip_1_13 k), (5, ls_runs_edges_Flip_1_5 k)] }
theorem rfl_runs_edges_Flip_1_11 (k : Nat) (x) : (ls_runs_edges_Flip_1_11 (k + 1)).F x = (ev (G_runs_edges_Flip_1 k) lb_runs_edges_Flip_1_11 (head (ls_runs_edges_Flip_1_11 k).hd (ofTup (ls_runs_edges_Flip_1_11 k).hd.shs x))).den (roundEnd 0 (ls_runs_edges_Flip_1_11 k)) := by kernel_rfl
theorem rfl_runs_edges_Flip_1_13 (k : Nat) (x) : (ls_runs_edges_Flip_1_13 (k + 1)).F x = (ev (G_runs_edges_Flip_1 k) lb_runs_edges_Flip_1_13 (head (ls_runs_edges_Flip_1_13 k).hd (ofTup (ls_runs_edges_Flip_1_13 k).hd.shs x))).den (roundEnd 0 (ls_runs_edges_Flip_1_13 k)) := by kernel_rfl
theorem rfl_runs_edges_Flip_1_5 (k : Nat) (x) : (ls_runs_edges_Flip_1_5 (k + 1)).F x = (ev (G_runs_edges_Flip_1 k) lb_runs_edges_Flip_1_5 (head (ls_runs_edges_Flip_1_5 k).hd (ofTup (ls_runs_edges_Flip_1_5 k).hd.shs x))).den (roundEnd 0 (ls_runs_edges_Flip_1_5 k)) := by kernel_rfl
theorem rfl_runs_edges_Flip_1 (k : Nat) (x) : (sig_runs_edges_Flip_1 k).F x = (ev (G_runs_edges_Flip_1 k) body_runs_edges_Flip_1 (head (sig_runs_edges_Flip_1 k).ps (ofTup (sig_runs_edges_Flip_1 k).ps.shs x))).den (funEnd (G_runs_edges_Flip_1 k) Go.Proofs.Try.f18.results.toList 0 (sig_runs_edges_Flip_1 k).rs) := by kernel_rfl
theorem calls_runs_edges_Flip_1 (k : Nat) : CallsOK Go.Proofs.Try.prog gl (G_runs_edges_Flip_1 k) := callsOK_tab (G := G_runs_edges_Flip_1 k) (tab := [(26, sig_runs_Flip_1 k)]) (all_cons (ok_runs_Flip_1 k) all_nil)
theorem loop_runs_edges_Flip_1_11 (C : Ctx) (hP : C.P = Go.Proofs.Try.prog) (hgl : C.gl = gl) (hm : C.m = 0) (hN : C.N = Go.Proofs.Try.f18.ntmps) (k : Nat) : LoopOK C (G_runs_edges_Flip_1 k) lb_runs_edges_Flip_1_11 :=
  LoopOK.of (by rw [hP]; exact mix_ok) (hd := (ls_runs_edges_Flip_1_11 0).hd) (ex := (ls_runs_edges_Flip_1_11 0).ex) (F := fun k => (ls_runs_edges_Flip_1_11 k).F) (Gk := G_runs_edges_Flip_1) (fun k => gok hP hgl hm hN rfl (by kernel_rfl) rfl (ty_ok _ rfl) (calls_runs_edges_Flip_1 k)) (fun k => loops_all (n := 0) (by kernel_rfl) lt_all0) (fun x => rfl)
    (fun k x => by rw [hm]; exact rfl_runs_edges_Flip_1_11 k x) k (fun S => by rw [hm]; kernel_rfl)
theorem loop_runs_edges_Flip_1_13 (C : Ctx) (hP : C.P = Go.Proofs.Try.prog) (hgl : C.gl = gl) (hm : C.m = 0) (hN : C.N = Go.Proofs.Try.f18.ntmps) (k : Nat) : LoopOK C (G_runs_edges_Flip_1 k) lb_runs_edges_Flip_1_13 :=
  LoopOK.of (by rw [hP]; exact mix_ok) (hd := (ls_runs_edges_Flip_1_13 0).hd) (ex := (ls_runs_edges_Flip_1_13 0).ex) (F := fun k => (ls_runs_edges_Flip_1_13 k).F) (Gk := G_runs_edges_Flip_1) (fun k => gok hP hgl hm hN rfl (by kernel_rfl) rfl (ty_ok _ rfl) (calls_runs_edges_Flip_1 k)) (fun k => loops_all (n := 0) (by kernel_rfl) lt_all0) (fun x => rfl)
    (fun k x => by rw [hm]; exact rfl_runs_edges_Flip_1_13 k x) k (fun S => by rw [hm]; kernel_rfl)
theorem loop_runs_edges_Flip_1_5 (C : Ctx) (hP : C.P = Go.Proofs.Try.prog) (hgl : C.gl = gl) (hm : C.m = 0) (hN : C.N = Go.Proofs.Try.f18.ntmps) (k : Nat) : LoopOK C (G_runs_edges_Flip_1 k) lb_runs_edges_Flip_1_5 :=
  LoopOK.of (by rw [hP]; exact mix_ok) (hd := (ls_runs_edges_Flip_1_5 0).hd) (ex := (ls_runs_edges_Flip_1_5 0).ex) (F := fun k => (ls_runs_edges_Flip_1_5 k).F) (Gk := G_runs_edges_Flip_1) (fun k => gok hP hgl hm hN rfl (by kernel_rfl) rfl (ty_ok _ rfl) (calls_runs_edges_Flip_1 k)) (fun k => loops_all (n := 2) (by kernel_rfl) (lt_allS (lt_allS lt_all0 (loop_runs_edges_Flip_1_11 C hP hgl hm hN k)) (loop_runs_edges_Flip_1_13 C hP hgl hm hN k))) (fun x => rfl)
    (fun k x => by rw [hm]; exact rfl_runs_edges_Flip_1_5 k x) k (fun S => by rw [hm]; kernel_rfl)
theorem bodyok_runs_edges_Flip_1 (k : Nat) : BodyOK Go.Proofs.Try.prog gl (G_runs_edges_Flip_1 k) Go.Proofs.Try.f18 body_runs_edges_Flip_1 (sig_runs_edges_Flip_1 k).ps (sig_runs_edges_Flip_1 k).rs :=
  ⟨rfl, by kernel_rfl, rfl, ty_ok _ rfl, calls_runs_edges_Flip_1 k, by kernel_rfl, by kernel_rfl, fun C hP hgl hm hN => loops_all (n := 1) (by kernel_rfl) (lt_allS lt_all0 (loop_runs_edges_Flip_1_5 C hP hgl hm hN k))⟩
theorem ok_runs_edges_Flip_1 (k : Nat) : FnOK Go.Proofs.Try.prog gl 18 (sig_runs_edges_Flip_1 k) :=
  fun_ok (G := G_runs_edges_Flip_1 k) (ps := (sig_runs_edges_Flip_1 k).ps) (rs := (sig_runs_edges_Flip_1 k).rs) (F := (sig_runs_edges_Flip_1 k).F) mix_ok Go.Proofs.Try.func18 (c := body_runs_edges_Flip_1) (by kernel_rfl) (by kernel_rfl) (bodyok_runs_edges_Flip_1 k) (rfl_runs_edges_Flip_1 k)

noncomputable def body_runs_Flip : Code := bodyOf Go.Proofs.Try.f12
noncomputable def sig_runs_Flip (k : Nat) : Sig := ⟨⟨[], [(0, .d (.sl (.st (.pair (.int .u16) (.int .u16))))), (1, .d (.int .i64)), (2, .d (.int .i64))]⟩, ⟨[], [(0, .d (.sl (.st (.pair (.int .u16) (.int .u16)))))]⟩, fun x => runs_Flip k x.1 x.2.1 x.2.2⟩
noncomputable def G_runs_Flip (k : Nat) : Gl := { m := 0, n := 22, gl := gl, ty := ty, fz := fz, fn := fnTab [(25, sig_slices_Clone_Run k), (19, sig_runs_row k), (18, sig_runs_edges_Flip_1 k)], lp := lpTab 0 [] }
theorem rfl_runs_Flip (k : Nat) (x) : (sig_runs_Flip k).F x = (ev (G_runs_Flip k) body_runs_Flip (head (sig_runs_Flip k).ps (ofTup (sig_runs_Flip k).ps.shs x))).den (funEnd (G_runs_Flip k) Go.Proofs.Try.f12.results.toList 0 (sig_runs_Flip k).rs) := by kernel_rfl
theorem calls_runs_Flip (k : Nat) : CallsOK Go.Proofs.Try.prog gl (G_runs_Flip k) := callsOK_tab (G := G_runs_Flip k) (tab := [(25, sig_slices_Clone_Run k), (19, sig_runs_row k), (18, sig_runs_edges_Flip_1 k)]) (all_cons (ok_slices_Clone_Run k) (all_cons (ok_runs_row k) (all_cons (ok_runs_edges_Flip_1 k) all_nil)))
theorem bodyok_runs_Flip (k : Nat) : BodyOK Go.Proofs.Try.prog gl (G_runs_Flip k) Go.Proofs.Try.f12 body_runs_Flip (sig_runs_Flip k).ps (sig_runs_Flip k).rs :=
  ⟨rfl, by kernel_rfl, rfl, ty_ok _ rfl, calls_runs_Flip k, by kernel_rfl, by kernel_rfl, fun C hP hgl hm hN => loops_all (n := 0) (by kernel_rfl) lt_all0⟩
theorem ok_runs_Flip (k : Nat) : FnOK Go.Proofs.Try.prog gl 12 (sig_runs_Flip k) :=
  fun_ok (G := G_runs_Flip k) (ps := (sig_runs_Flip k).ps) (rs := (sig_runs_Flip k).rs) (F := (sig_runs_Flip k).F) mix_ok Go.Proofs.Try.func12 (c := body_runs_Flip) (by kernel_rfl) (by kernel_rfl) (bodyok_runs_Flip k) (rfl_runs_Flip k)

noncomputable def body_runs_Select : Code := bodyOf Go.Proofs.Try.f13
noncomputable def lb_runs_Select_3 : Code := (loops body_runs_Select).getD 0 .skip
noncomputable def ls_runs_Select_3 (k : Nat) : LSig := ⟨⟨[], [(0, .d (.sl (.st (.pair (.int .u16) (.int .u16))))), (1, .d (.int .i64)), (8, .d (.sl (.st (.pair (.int .u16) (.int .u16))))), (9, .d (.int .i64)), (10, .d (.int .i64))]⟩, [(.exit 0, ⟨[], [(0, .d (.sl (.st (.pair (.int .u16) (.int .u16))))), (1, .d (.int .i64))]⟩)], fun x => runs_Select_l0 k x.1 x.2.1 x.2.2.1 x.2.2.2.1 x.2.2.2.2⟩
noncomputable def sig_runs_Select (k : Nat) : Sig := ⟨⟨[], [(0, .d (.sl (.st (.pair (.int .u16) (.int .u16))))), (1, .d (.int .i64))]⟩, ⟨[], [(0, .d (.int .u16)), (1, .d .bool)]⟩, fun x => runs_Select k x.1 x.2⟩
noncomputable def G_runs_Select (k : Nat) : Gl := { m := 0, n := 42, gl := gl, ty := ty, fz := fz, fn := fnTab [], lp := lpTab 0 [(3, ls_runs_Select_3 k)] }
theorem rfl_runs_Select_3 (k : Nat) (x) : (ls_runs_Select_3 (k + 1)).F x = (ev (G_runs_Select k) lb_runs_Select_3 (head (ls_runs_Select_3 k).hd (ofTup (ls_runs_Select_3 k).hd.shs x))).den (roundEnd 0 (ls_runs_Select_3 k)) := by kernel_rfl
theorem rfl_runs_Select (k : Nat) (x) : (sig_runs_Select k).F x = (ev (G_runs_Select k) body_runs_Select (head (sig_runs_Select k).ps (ofTup (sig_runs_Select k).ps.shs x))).den (funEnd (G_runs_Select k) Go.Proofs.Try.f13.results.toList 0 (sig_runs_Select k).rs) := by kernel_rfl
theorem calls_runs_Select (k : Nat) : CallsOK Go.Proofs.Try.prog gl (G_runs_Select k) := callsOK_tab (G := G_runs_Select k) (tab := []) all_nil
theorem loop_runs_Select_3 (C : Ctx) (hP : C.P = Go.Proofs.Try.prog) (hgl : C.gl = gl) (hm : C.m = 0) (hN : C.N = Go.Proofs.Try.f13.ntmps) (k : Nat) : LoopOK C (G_runs_Select k) lb_runs_Select_3 :=
  LoopOK.of (by rw [hP]; exact mix_ok) (hd := (ls_runs_Select_3 0).hd) (ex := (ls_runs_Select_3 0).ex) (F := fun k => (ls_runs_Select_3 k).F) (Gk := G_runs_Select) (fun k => gok hP hgl hm hN rfl (by kernel_rfl) rfl (ty_ok _ rfl) (calls_runs_Select k)) (fun k => loops_all (n := 0) (by kernel_rfl) lt_all0) (fun x => rfl)
    (fun k x => by rw [hm]; exact rfl_runs_Select_3 k x) k (fun S => by rw [hm]; kernel_rfl)
theorem bodyok_runs_Select (k : Nat) : BodyOK Go.Proofs.Try.prog gl (G_runs_Select k) Go.Proofs.Try.f13 body_runs_Select (sig_runs_Select k).ps (sig_runs_Select k).rs :=
  ⟨rfl, by kernel_rfl, rfl, ty_ok _ rfl, calls_runs_Select k, by kernel_rfl, by kernel_rfl, fun C hP hgl hm hN => loops_all (n := 1) (by kernel_rfl) (lt_allS lt_all0 (loop_runs_Select_3 C hP hgl hm hN k))⟩
theorem ok_runs_Select (k : Nat) : FnOK Go.Proofs.Try.prog gl 13 (sig_runs_Select k) :=
  fun_ok (G := G_runs_Select k) (ps := (sig_runs_Select k).ps) (rs := (sig_runs_Select k).rs) (F := (sig_runs_Select k).F) mix_ok Go.Proofs.Try.func13 (c := body_runs_Select) (by kernel_rfl) (by kernel_rfl) (bodyok_runs_Select k) (rfl_runs_Select k)

noncomputable def body_runs_Rank : Code := bodyOf Go.Proofs.Try.f14
noncomputable def lb_runs_Rank_5 : Code := (loops body_runs_Rank).getD 0 .skip
noncomputable def ls_runs_Rank_5 (k : Nat) : LSig := ⟨⟨[], [(1, .d (.int .i64)), (5, .d (.int .i64)), (10, .d (.sl (.st (.pair (.int .u16) (.int .u16))))), (11, .d (.int .i64)), (12, .d (.int .i64))]⟩, [(.exit 0, ⟨[], [(5, .d (.int .i64))]⟩)], fun x => runs_Rank_l0 k x.1 x.2.1 x.2.2.1 x.2.2.2.1 x.2.2.2.2⟩
noncomputable def sig_runs_Rank (k : Nat) : Sig := ⟨⟨[], [(0, .d (.sl (.st (.pair (.int .u16) (.int .u16))))), (1, .d (.int .i64))]⟩, ⟨[], [(0, .d (.int .i64))]⟩, fun x => runs_Rank k x.1 x.2⟩
noncomputable def G_runs_Rank (k : Nat) : Gl := { m := 0, n := 31, gl := gl, ty := ty, fz := fz, fn := fnTab [], lp := lpTab 0 [(5, ls_runs_Rank_5 k)] }
theorem rfl_runs_Rank_5 (k : Nat) (x) : (ls_runs_Rank_5 (k + 1)).F x = (ev (G_runs_Rank k) lb_runs_Rank_5 (head (ls_runs_Rank_5 k).hd (ofTup (ls_runs_Rank_5 k).hd.shs x))).den (roundEnd 0 (ls_runs_Rank_5 k)) := by kernel_rfl
theorem rfl_runs_Rank (k : Nat) (x) : (sig_runs_Rank k).F x = (ev (G_runs_Rank k) body_runs_Rank (head (sig_runs_Rank k).ps (ofTup (sig_runs_Rank k).ps.shs x))).den (funEnd (G_runs_Rank k) Go.Proofs.Try.f14.results.toList 0 (sig_runs_Rank k).rs) := by kernel_rfl
theorem calls_runs_Rank (k : Nat) : CallsOK Go.Proofs.Try.prog gl (G_runs_Rank k) := callsOK_tab (G := G_runs_Rank k) (tab := []) all_nil
theorem loop_runs_Rank_5 (C : Ctx) (hP : C.P = Go.Proofs.Try.prog) (hgl : C.gl = gl) (hm : C.m = 0) (hN : C.N = Go.Proofs.Try.f14.ntmps) (k : Nat) : LoopOK C (G_runs_Rank k) lb_runs_Rank_5 :=
  LoopOK.of (by rw [hP]; exact mix_ok) (hd := (ls_runs_Rank_5 0).hd) (ex := (ls_runs_Rank_5 0).ex) (F := fun k => (ls_runs_Rank_5 k).F) (Gk := G_runs_Rank) (fun k => gok hP hgl hm hN rfl (by kernel_rfl) rfl (ty_ok _ rfl) (calls_runs_Rank k)) (fun k => loops_all (n := 0) (by kernel_rfl) lt_all0) (fun x => rfl)
    (fun k x => by rw [hm]; exact rfl_runs_Rank_5 k x) k (fun S => by rw [hm]; kernel_rfl)
theorem bodyok_runs_Rank (k : Nat) : BodyOK Go.Proofs.Try.prog gl (G_runs_Rank k) Go.Proofs.Try.f14 body_runs_Rank (sig_runs_Rank k).ps (sig_runs_Rank k).rs :=
  ⟨rfl, by kernel_rfl, rfl, ty_ok _ rfl, calls_runs_Rank k, by kernel_rfl, by kernel_rfl, fun C hP hgl hm hN => loops_all (n := 1) (by kernel_rfl) (lt_allS lt_all0 (loop_runs_Rank_5 C hP hgl hm hN k))⟩
theorem ok_runs_Rank (k : Nat) : FnOK Go.Proofs.Try.prog gl 14 (sig_runs_Rank k) :=
  fun_ok (G := G_runs_Rank k) (ps := (sig_runs_Rank k).ps) (rs := (sig_runs_Rank k).rs) (F := (sig_runs_Rank k).F) mix_ok Go.Proofs.Try.func14 (c := body_runs_Rank) (by kernel_rfl) (by kernel_rfl) (bodyok_runs_Rank k) (rfl_runs_Rank k)

noncomputable def body_runs_May : Code := bodyOf Go.Proofs.Try.f7
noncomputable def lb_runs_May_4 : Code := (loops body_runs_May).getD 0 .skip
noncomputable def ls_runs_May_4 (k : Nat) : LSig := ⟨⟨[], [(3, .d (.int .i64)), (6, .d (.sl (.st (.pair (.int .u16) (.int .u16))))), (7, .d (.int .i64)), (8, .d (.int .i64))]⟩, [(.ret, ⟨[], [(2, .d .bool)]⟩), (.exit 0, ⟨[], []⟩)], fun x => runs_May_l0 k x.1 x.2.1 x.2.2.1 x.2.2.2⟩
noncomputable def sig_runs_May (k : Nat) : Sig := ⟨⟨[], [(0, .d (.sl (.st (.pair (.int .u16) (.int .u16)))))]⟩, ⟨[], [(0, .d .bool)]⟩, fun x => runs_May k x⟩
noncomputable def G_runs_May (k : Nat) : Gl := { m := 0, n := 26, gl := gl, ty := ty, fz := fz, fn := fnTab [(21, sig_runs_end k)], lp := lpTab 0 [(4, ls_runs_May_4 k)] }
theorem rfl_runs_May_4 (k : Nat) (x) : (ls_runs_May_4 (k + 1)).F x = (ev (G_runs_May k) lb_runs_May_4 (head (ls_runs_May_4 k).hd (ofTup (ls_runs_May_4 k).hd.shs x))).den (roundEnd 0 (ls_runs_May_4 k)) := by kernel_rfl
theorem rfl_runs_May (k : Nat) (x) : (sig_runs_May k).F x = (ev (G_runs_May k) body_runs_May (head (sig_runs_May k).ps (ofTup (sig_runs_May k).ps.shs x))).den (funEnd (G_runs_May k) Go.Proofs.Try.f7.results.toList 0 (sig_runs_May k).rs) := by kernel_rfl
theorem calls_runs_May (k : Nat) : CallsOK Go.Proofs.Try.prog gl (G_runs_May k) := callsOK_tab (G := G_runs_May k) (tab := [(21, sig_runs_end k)]) (all_cons (ok_runs_end k) all_nil)
theorem loop_runs_May_4 (C : Ctx) (hP : C.P = Go.Proofs.Try.prog) (hgl : C.gl = gl) (hm : C.m = 0) (hN : C.N = Go.Proofs.Try.f7.ntmps) (k : Nat) : LoopOK C (G_runs_May k) lb_runs_May_4 :=
  LoopOK.of (by rw [hP]; exact mix_ok) (hd := (ls_runs_May_4 0).hd) (ex := (ls_runs_May_4 0).ex) (F := fun k => (ls_runs_May_4 k).F) (Gk := G_runs_May) (fun k => gok hP hgl hm hN rfl (by kernel_rfl) rfl (ty_ok _ rfl) (calls_runs_May k)) (fun k => loops_all (n := 0) (by kernel_rfl) lt_all0) (fun x => rfl)
    (fun k x => by rw [hm]; exact rfl_runs_May_4 k x) k (fun S => by rw [hm]; kernel_rfl)
theorem bodyok_runs_May (k : Nat) : BodyOK Go.Proofs.Try.prog gl (G_runs_May k) Go.Proofs.Try.f7 body_runs_May (sig_runs_May k).ps (sig_runs_May k).rs :=
  ⟨rfl, by kernel_rfl, rfl, ty_ok _ rfl, calls_runs_May k, by kernel_rfl, by kernel_rfl, fun C hP hgl hm hN => loops_all (n := 1) (by kernel_rfl) (lt_allS lt_all0 (loop_runs_May_4 C hP hgl hm hN k))⟩
theorem ok_runs_May (k : Nat) : FnOK Go.Proofs.Try.prog gl 7 (sig_runs_May k) :=
  fun_ok (G := G_runs_May k) (ps := (sig_runs_May k).ps) (rs := (sig_runs_May k).rs) (F := (sig_runs_May k).F) mix_ok Go.Proofs.Try.func7 (c := body_runs_May) (by kernel_rfl) (by kernel_rfl) (bodyok_runs_May k) (rfl_runs_May k)

noncomputable def body_isinglasslaw06_known : Code := bodyOf Go.Proofs.Try.f5
noncomputable def sig_isinglasslaw06_known (k : Nat) : Sig := ⟨⟨[], []⟩, ⟨[], [(0, .d .bool)]⟩, fun x => isinglasslaw06_known k⟩
noncomputable def G_isinglasslaw06_known (k : Nat) : Gl := { m := 0, n := 75, gl := gl, ty := ty, fz := fz, fn := fnTab [(17, sig_runs_Of k), (12, sig_runs_Flip k), (13, sig_runs_Select k), (14, sig_runs_Rank k), (7, sig_runs_May k)], lp := lpTab 0 [] }
theorem rfl_isinglasslaw06_known (k : Nat) (x) : (sig_isinglasslaw06_known k).F x = (ev (G_isinglasslaw06_known k) body_isinglasslaw06_known (head (sig_isinglasslaw06_known k).ps (ofTup (sig_isinglasslaw06_known k).ps.shs x))).den (funEnd (G_isinglasslaw06_known k) Go.Proofs.Try.f5.results.toList 0 (sig_isinglasslaw06_known k).rs) := by kernel_rfl
theorem calls_isinglasslaw06_known (k : Nat) : CallsOK Go.Proofs.Try.prog gl (G_isinglasslaw06_known k) := callsOK_tab (G := G_isinglasslaw06_known k) (tab := [(17, sig_runs_Of k), (12, sig_runs_Flip k), (13, sig_runs_Select k), (14, sig_runs_Rank k), (7, sig_runs_May k)]) (all_cons (ok_runs_Of k) (all_cons (ok_runs_Flip k) (all_cons (ok_runs_Select k) (all_cons (ok_runs_Rank k) (all_cons (ok_runs_May k) all_nil)))))
theorem bodyok_isinglasslaw06_known (k : Nat) : BodyOK Go.Proofs.Try.prog gl (G_isinglasslaw06_known k) Go.Proofs.Try.f5 body_isinglasslaw06_known (sig_isinglasslaw06_known k).ps (sig_isinglasslaw06_known k).rs :=
  ⟨rfl, by kernel_rfl, rfl, ty_ok _ rfl, calls_isinglasslaw06_known k, by kernel_rfl, by kernel_rfl, fun C hP hgl hm hN => loops_all (n := 0) (by kernel_rfl) lt_all0⟩
theorem ok_isinglasslaw06_known (k : Nat) : FnOK Go.Proofs.Try.prog gl 5 (sig_isinglasslaw06_known k) :=
  fun_ok (G := G_isinglasslaw06_known k) (ps := (sig_isinglasslaw06_known k).ps) (rs := (sig_isinglasslaw06_known k).rs) (F := (sig_isinglasslaw06_known k).F) mix_ok Go.Proofs.Try.func5 (c := body_isinglasslaw06_known) (by kernel_rfl) (by kernel_rfl) (bodyok_isinglasslaw06_known k) (rfl_isinglasslaw06_known k)

noncomputable def body_runs_Or_1 : Code := bodyOf Go.Proofs.Try.f20
noncomputable def sig_runs_Or_1 (k : Nat) : Sig := ⟨⟨[], [(0, .d .bool), (1, .d .bool)]⟩, ⟨[], [(0, .d .bool)]⟩, fun x => runs_Or_1 k x.1 x.2⟩
noncomputable def G_runs_Or_1 (k : Nat) : Gl := { m := 0, n := 9, gl := gl, ty := ty, fz := fz, fn := fnTab [], lp := lpTab 0 [] }
theorem rfl_runs_Or_1 (k : Nat) (x) : (sig_runs_Or_1 k).F x = (ev (G_runs_Or_1 k) body_runs_Or_1 (head (sig_runs_Or_1 k).ps (ofTup (sig_runs_Or_1 k).ps.shs x))).den (funEnd (G_runs_Or_1 k) Go.Proofs.Try.f20.results.toList 0 (sig_runs_Or_1 k).rs) := by kernel_rfl
theorem calls_runs_Or_1 (k : Nat) : CallsOK Go.Proofs.Try.prog gl (G_runs_Or_1 k) := callsOK_tab (G := G_runs_Or_1 k) (tab := []) all_nil
theorem bodyok_runs_Or_1 (k : Nat) : BodyOK Go.Proofs.Try.prog gl (G_runs_Or_1 k) Go.Proofs.Try.f20 body_runs_Or_1 (sig_runs_Or_1 k).ps (sig_runs_Or_1 k).rs :=
  ⟨rfl, by kernel_rfl, rfl, ty_ok _ rfl, calls_runs_Or_1 k, by kernel_rfl, by kernel_rfl, fun C hP hgl hm hN => loops_all (n := 0) (by kernel_rfl) lt_all0⟩
theorem ok_runs_Or_1 (k : Nat) : FnOK Go.Proofs.Try.prog gl 20 (sig_runs_Or_1 k) :=
  fun_ok (G := G_runs_Or_1 k) (ps := (sig_runs_Or_1 k).ps) (rs := (sig_runs_Or_1 k).rs) (F := (sig_runs_Or_1 k).F) mix_ok Go.Proofs.Try.func20 (c := body_runs_Or_1) (by kernel_rfl) (by kernel_rfl) (bodyok_runs_Or_1 k) (rfl_runs_Or_1 k)

noncomputable def body_runs_edges_Or_1 : Code := bodyOf Go.Proofs.Try.f18
noncomputable def lb_runs_edges_Or_1_5 : Code := (loops body_runs_edges_Or_1).getD 0 .skip
noncomputable def lb_runs_edges_Or_1_11 : Code := (loops lb_runs_edges_Or_1_5).getD 0 .skip
noncomputable def lb_runs_edges_Or_1_13 : Code := (loops lb_runs_edges_Or_1_5).getD 1 .skip
noncomputable def ls_runs_edges_Or_1_11 (k : Nat) : LSig := ⟨⟨[(.tmp 7, .grow false (.st (.pair (.int .u16) (.int .u16))) 25)], [(0, .d (.sl (.int .i64))), (1, .d (.sl (.int .i64))), (2, .fn 20 [] []), (7, .own 0), (8, .d .bool), (9, .d (.int .i64)), (10, .d (.int .i64)), (11, .d (.int .i64)), (12, .d (.int .i64))]⟩, [(.exit 2, ⟨[(.tmp 7, .grow false (.st (.pair (.int .u16) (.int .u16))) 25)], [(0, .d (.sl (.int .i64))), (1, .d (.sl (.int .i64))), (2, .fn 20 [] []), (7, .own 0), (8, .d .bool), (9, .d (.int .i64)), (10, .d (.int .i64)), (11, .d (.int .i64)), (12, .d (.int .i64))]⟩)], fun x => runs_edges_Or_1_l1 k x.1 x.2.1 x.2.2.1 x.2.2.2.1 x.2.2.2.2.1 x.2.2.2.2.2.1 x.2.2.2.2.2.2.1 x.2.2.2.2.2.2.2⟩
noncomputable def ls_runs_edges_Or_1_13 (k : Nat) : LSig := ⟨⟨[(.tmp 7, .grow false (.st (.pair (.int .u16) (.int .u16))) 25)], [(0, .d (.sl (.int .i64))), (1, .d (.sl (.int .i64))), (2, .fn 20 [] []), (7, .own 0), (8, .d .bool), (9, .d (.int .i64)), (10, .d (.int .i64)), (11, .d (.int .i64)), (12, .d (.int .i64))]⟩, [(.exit 4, ⟨[(.tmp 7, .grow false (.st (.pair (.int .u16) (.int .u16))) 25)], [(0, .d (.sl (.int .i64))), (1, .d (.sl (.int .i64))), (2, .fn 20 [] []), (7, .own 0), (8, .d .bool), (9, .d (.int .i64)), (10, .d (.int .i64)), (11, .d (.int .i64)), (12, .d (.int .i64))]⟩)], fun x => runs_edges_Or_1_l2 k x.1 x.2.1 x.2.2.1 x.2.2.2.1 x.2.2.2.2.1 x.2.2.2.2.2.1 x.2.2.2.2.2.2.1 x.2.2.2.2.2.2.2⟩
noncomputable def ls_runs_edges_Or_1_5 (k : Nat) : LSig := ⟨⟨[(.tmp 7, .grow false (.st (.pair (.int .u16) (.int .u16))) 25)], [(0, .d (.sl (.int .i64))), (1, .d (.sl (.int .i64))), (2, .fn 20 [] []), (7, .own 0), (8, .d .bool), (9, .d (.int .i64)), (10, .d (.int .i64)), (11, .d (.int .i64))]⟩, [(.exit 0, ⟨[(.tmp 7, .grow false (.st (.pair (.int .u16) (.int .u16))) 25)], [(7, .own 0)]⟩)], fun x => runs_edges_Or_1_l0 k x.1 x.2.1 x.2.2.1 x.2.2.2.1 x.2.2.2.2.1 x.2.2.2.2.2.1 x.2.2.2.2.2.2⟩
noncomputable def sig_runs_edges_Or_1 (k : Nat) : Sig := ⟨⟨[], [(0, .d (.sl (.int .i64))), (1, .d (.sl (.int .i64))), (2, .fn 20 [] [])]⟩, ⟨[], [(0, .d (.sl (.st (.pair (.int .u16) (.int .u16)))))]⟩, fun x => runs_edges_Or_1 k x.1 x.2⟩
noncomputable def G_runs_edges_Or_1 (k : Nat) : Gl := { m := 0, n := 96, gl := gl, ty := ty, fz := fz, fn := fnTab [(20, sig_runs_Or_1 k)], lp := lpTab 0 [(11, ls_runs_edges_Or_1_11 k), (13, ls_runs_edges_Or_1_13 k), (5, ls_runs_edges_Or_1_5 k)] }
theorem rfl_runs_edges_Or_1_11 (k : Nat) (x) : (ls_runs_edges_Or_1_11 (k + 1)).F x = (ev (G_runs_edges_Or_1 k) lb_runs_edges_Or_1_11 (head (ls_runs_edges_Or_1_11 k).hd (ofTup (ls_runs_edges_Or_1_11 k).hd.shs x))).den (roundEnd 0 (ls_runs_edges_Or_1_11 k)) := by kernel_rfl
theorem rfl_runs_edges_Or_1_13 (k : Nat) (x) : (ls_runs_edges_Or_1_13 (k + 1)).F x = (ev (G_runs_edges_Or_1 k) lb_runs_edges_Or_1_13 (head (ls_runs_edges_Or_1_13 k).hd (ofTup (ls_runs_edges_Or_1_13 k).hd.shs x))).den (roundEnd 0 (ls_runs_edges_Or_1_13 k)) := by kernel_rfl
theorem rfl_runs_edges_Or_1_5 (k : Nat) (x) : (ls_runs_edges_Or_1_5 (k + 1)).F x = (ev (G_runs_edges_Or_1 k) lb_runs_edges_Or_1_5 (head (ls_runs_edges_Or_1_5 k).hd (ofTup (ls_runs_edges_Or_1_5 k).hd.shs x))).den (roundEnd 0 (ls_runs_edges_Or_1_5 k)) := by kernel_rfl
theorem rfl_runs_edges_Or_1 (k : Nat) (x) : (sig_runs_edges_Or_1 k).F x = (ev (G_runs_edges_Or_1 k) body_runs_edges_Or_1 (head (sig_runs_edges_Or_1 k).ps (ofTup (sig_runs_edges_Or_1 k).ps.shs x))).den (funEnd (G_runs_edges_Or_1 k) Go.Proofs.Try.f18.results.toList 0 (sig_runs_edges_Or_1 k).rs) := by kernel_rfl
theorem calls_runs_edges_Or_1 (k : Nat) : CallsOK Go.Proofs.Try.prog gl (G_runs_edges_Or_1 k) := callsOK_tab (G := G_runs_edges_Or_1 k) (tab := [(20, sig_runs_Or_1 k)]) (all_cons (ok_runs_Or_1 k) all_nil)
theorem loop_runs_edges_Or_1_11 (C : Ctx) (hP : C.P = Go.Proofs.Try.prog) (hgl : C.gl = gl) (hm : C.m = 0) (hN : C.N = Go.Proofs.Try.f18.ntmps) (k : Nat) : LoopOK C (G_runs_edges_Or_1 k) lb_runs_edges_Or_1_11 :=
  LoopOK.of (by rw [hP]; exact mix_ok) (hd := (ls_runs_edges_Or_1_11 0).hd) (ex := (ls_runs_edges_Or_1_11 0).ex) (F := fun k => (ls_runs_edges_Or_1_11 k).F) (Gk := G_runs_edges_Or_1) (fun k => gok hP hgl hm hN rfl (by kernel_rfl) rfl (ty_ok _ rfl) (calls_runs_edges_Or_1 k)) (fun k => loops_all (n := 0) (by kernel_rfl) lt_all0) (fun x => rfl)
    (fun k x => by rw [hm]; exact rfl_runs_edges_Or_1_11 k x) k (fun S => by rw [hm]; kernel_rfl)
theorem loop_runs_edges_Or_1_13 (C : Ctx) (hP : C.P = Go.Proofs.Try.prog) (hgl : C.gl = gl) (hm : C.m = 0) (hN : C.N = Go.Proofs.Try.f18.ntmps) (k : Nat) : LoopOK C (G_runs_edges_Or_1 k) lb_runs_edges_Or_1_13 :=
  LoopOK.of (by rw [hP]; exact mix_ok) (hd := (ls_runs_edges_Or_1_13 0).hd) (ex := (ls_runs_edges_Or_1_13 0).ex) (F := fun k => (ls_runs_edges_Or_1_13 k).F) (Gk := G_runs_edges_Or_1) (fun k => gok hP hgl hm hN rfl (by kernel_rfl) rfl (ty_ok _ rfl) (calls_runs_edges_Or_1 k)) (fun k => loops_all (n := 0) (by kernel_rfl) lt_all0) (fun x => rfl)
    (fun k x => by rw [hm]; exact rfl_runs_edges_Or_1_13 k x) k (fun S => by rw [hm]; kernel_rfl)
theorem loop_runs_edges_Or_1_5 (C : Ctx) (hP : C.P = Go.Proofs.Try.prog) (hgl : C.gl = gl) (hm : C.m = 0) (hN : C.N = Go.Proofs.Try.f18.ntmps) (k : Nat) : LoopOK C (G_runs_edges_Or_1 k) lb_runs_edges_Or_1_5 :=
  LoopOK.of (by rw [hP]; exact mix_ok) (hd := (ls_runs_edges_Or_1_5 0).hd) (ex := (ls_runs_edges_Or_1_5 0).ex) (F := fun k => (ls_runs_edges_Or_1_5 k).F) (Gk := G_runs_edges_Or_1) (fun k => gok hP hgl hm hN rfl (by kernel_rfl) rfl (ty_ok _ rfl) (calls_runs_edges_Or_1 k)) (fun k => loops_all (n := 2) (by kernel_rfl) (lt_allS (lt_allS lt_all0 (loop_runs_edges_Or_1_11 C hP hgl hm hN k)) (loop_runs_edges_Or_1_13 C hP hgl hm hN k))) (fun x => rfl)
    (fun k x => by rw [hm]; exact rfl_runs_edges_Or_1_5 k x) k (fun S => by rw [hm]; kernel_rfl)
theorem bodyok_runs_edges_Or_1 (k : Nat) : BodyOK Go.Proofs.Try.prog gl (G_runs_edges_Or_1 k) Go.Proofs.Try.f18 body_runs_edges_Or_1 (sig_runs_edges_Or_1 k).ps (sig_runs_edges_Or_1 k).rs :=
  ⟨rfl, by kernel_rfl, rfl, ty_ok _ rfl, calls_runs_edges_Or_1 k, by kernel_rfl, by kernel_rfl, fun C hP hgl hm hN => loops_all (n := 1) (by kernel_rfl) (lt_allS lt_all0 (loop_runs_edges_Or_1_5 C hP hgl hm hN k))⟩
theorem ok_runs_edges_Or_1 (k : Nat) : FnOK Go.Proofs.Try.prog gl 18 (sig_runs_edges_Or_1 k) :=
  fun_ok (G := G_runs_edges_Or_1 k) (ps := (sig_runs_edges_Or_1 k).ps) (rs := (sig_runs_edges_Or_1 k).rs) (F := (sig_runs_edges_Or_1 k).F) mix_ok Go.Proofs.Try.func18 (c := body_runs_edges_Or_1) (by kernel_rfl) (by kernel_rfl) (bodyok_runs_edges_Or_1 k) (rfl_runs_edges_Or_1 k)

noncomputable def body_runs_Or : Code := bodyOf Go.Proofs.Try.f6
noncomputable def sig_runs_Or (k : Nat) : Sig := ⟨⟨[], [(0, .d (.sl (.st (.pair (.int .u16) (.int .u16))))), (1, .d (.sl (.st (.pair (.int .u16) (.int .u16)))))]⟩, ⟨[], [(0, .d (.sl (.st (.pair (.int .u16) (.int .u16)))))]⟩, fun x => runs_Or k x.1 x.2⟩
noncomputable def G_runs_Or (k : Nat) : Gl := { m := 0, n := 10, gl := gl, ty := ty, fz := fz, fn := fnTab [(19, sig_runs_row k), (18, sig_runs_edges_Or_1 k)], lp := lpTab 0 [] }
theorem rfl_runs_Or (k : Nat) (x) : (sig_runs_Or k).F x = (ev (G_runs_Or k) body_runs_Or (head (sig_runs_Or k).ps (ofTup (sig_runs_Or k).ps.shs x))).den (funEnd (G_runs_Or k) Go.Proofs.Try.f6.results.toList 0 (sig_runs_Or k).rs) := by kernel_rfl
theorem calls_runs_Or (k : Nat) : CallsOK Go.Proofs.Try.prog gl (G_runs_Or k) := callsOK_tab (G := G_runs_Or k) (tab := [(19, sig_runs_row k), (18, sig_runs_edges_Or_1 k)]) (all_cons (ok_runs_row k) (all_cons (ok_runs_edges_Or_1 k) all_nil))
theorem bodyok_runs_Or (k : Nat) : BodyOK Go.Proofs.Try.prog gl (G_runs_Or k) Go.Proofs.Try.f6 body_runs_Or (sig_runs_Or k).ps (sig_runs_Or k).rs :=
  ⟨rfl, by kernel_rfl, rfl, ty_ok _ rfl, calls_runs_Or k, by kernel_rfl, by kernel_rfl, fun C hP hgl hm hN => loops_all (n := 0) (by kernel_rfl) lt_all0⟩
theorem ok_runs_Or (k : Nat) : FnOK Go.Proofs.Try.prog gl 6 (sig_runs_Or k) :=
  fun_ok (G := G_runs_Or k) (ps := (sig_runs_Or k).ps) (rs := (sig_runs_Or k).rs) (F := (sig_runs_Or k).F) mix_ok Go.Proofs.Try.func6 (c := body_runs_Or) (by kernel_rfl) (by kernel_rfl) (bodyok_runs_Or k) (rfl_runs_Or k)

noncomputable def body_isinglasslaw06_RunsTouch : Code := bodyOf Go.Proofs.Try.f3
noncomputable def sig_isinglasslaw06_RunsTouch (k : Nat) : Sig := ⟨⟨[], [(0, .d (.int .u16)), (1, .d (.int .u16)), (2, .d (.int .u16))]⟩, ⟨[], [(0, .d .bool)]⟩, fun x => isinglasslaw06_RunsTouch k x.1 x.2.1 x.2.2⟩
noncomputable def G_isinglasslaw06_RunsTouch (k : Nat) : Gl := { m := 0, n := 103, gl := gl, ty := ty, fz := fz, fn := fnTab [(5, sig_isinglasslaw06_known k), (6, sig_runs_Or k), (7, sig_runs_May k)], lp := lpTab 0 [] }
theorem rfl_isinglasslaw06_RunsTouch (k : Nat) (x) : (sig_isinglasslaw06_RunsTouch k).F x = (ev (G_isinglasslaw06_RunsTouch k) body_isinglasslaw06_RunsTouch (head (sig_isinglasslaw06_RunsTouch k).ps (ofTup (sig_isinglasslaw06_RunsTouch k).ps.shs x))).den (funEnd (G_isinglasslaw06_RunsTouch k) Go.Proofs.Try.f3.results.toList 0 (sig_isinglasslaw06_RunsTouch k).rs) := by kernel_rfl
theorem calls_isinglasslaw06_RunsTouch (k : Nat) : CallsOK Go.Proofs.Try.prog gl (G_isinglasslaw06_RunsTouch k) := callsOK_tab (G := G_isinglasslaw06_RunsTouch k) (tab := [(5, sig_isinglasslaw06_known k), (6, sig_runs_Or k), (7, sig_runs_May k)]) (all_cons (ok_isinglasslaw06_known k) (all_cons (ok_runs_Or k) (all_cons (ok_runs_May k) all_nil)))
theorem bodyok_isinglasslaw06_RunsTouch (k : Nat) : BodyOK Go.Proofs.Try.prog gl (G_isinglasslaw06_RunsTouch k) Go.Proofs.Try.f3 body_isinglasslaw06_RunsTouch (sig_isinglasslaw06_RunsTouch k).ps (sig_isinglasslaw06_RunsTouch k).rs :=
  ⟨rfl, by kernel_rfl, rfl, ty_ok _ rfl, calls_isinglasslaw06_RunsTouch k, by kernel_rfl, by kernel_rfl, fun C hP hgl hm hN => loops_all (n := 0) (by kernel_rfl) lt_all0⟩
theorem ok_isinglasslaw06_RunsTouch (k : Nat) : FnOK Go.Proofs.Try.prog gl 3 (sig_isinglasslaw06_RunsTouch k) :=
  fun_ok (G := G_isinglasslaw06_RunsTouch k) (ps := (sig_isinglasslaw06_RunsTouch k).ps) (rs := (sig_isinglasslaw06_RunsTouch k).rs) (F := (sig_isinglasslaw06_RunsTouch k).F) mix_ok Go.Proofs.Try.func3 (c := body_isinglasslaw06_RunsTouch) (by kernel_rfl) (by kernel_rfl) (bodyok_isinglasslaw06_RunsTouch k) (rfl_isinglasslaw06_RunsTouch k)

noncomputable def body_runs_AndNot_1 : Code := bodyOf Go.Proofs.Try.f22
noncomputable def sig_runs_AndNot_1 (k : Nat) : Sig := ⟨⟨[], [(0, .d .bool), (1, .d .bool)]⟩, ⟨[], [(0, .d .bool)]⟩, fun x => runs_AndNot_1 k x.1 x.2⟩
noncomputable def G_runs_AndNot_1 (k : Nat) : Gl := { m := 0, n := 10, gl := gl, ty := ty, fz := fz, fn := fnTab [], lp := lpTab 0 [] }
theorem rfl_runs_AndNot_1 (k : Nat) (x) : (sig_runs_AndNot_1 k).F x = (ev (G_runs_AndNot_1 k) body_runs_AndNot_1 (head (sig_runs_AndNot_1 k).ps (ofTup (sig_runs_AndNot_1 k).ps.shs x))).den (funEnd (G_runs_AndNot_1 k) Go.Proofs.Try.f22.results.toList 0 (sig_runs_AndNot_1 k).rs) := by kernel_rfl
theorem calls_runs_AndNot_1 (k : Nat) : CallsOK Go.Proofs.Try.prog gl (G_runs_AndNot_1 k) := callsOK_tab (G := G_runs_AndNot_1 k) (tab := []) all_nil
theorem bodyok_runs_AndNot_1 (k : Nat) : BodyOK Go.Proofs.Try.prog gl (G_runs_AndNot_1 k) Go.Proofs.Try.f22 body_runs_AndNot_1 (sig_runs_AndNot_1 k).ps (sig_runs_AndNot_1 k).rs :=
  ⟨rfl, by kernel_rfl, rfl, ty_ok _ rfl, calls_runs_AndNot_1 k, by kernel_rfl, by kernel_rfl, fun C hP hgl hm hN => loops_all (n := 0) (by kernel_rfl) lt_all0⟩
theorem ok_runs_AndNot_1 (k : Nat) : FnOK Go.Proofs.Try.prog gl 22 (sig_runs_AndNot_1 k) :=
  fun_ok (G := G_runs_AndNot_1 k) (ps := (sig_runs_AndNot_1 k).ps) (rs := (sig_runs_AndNot_1 k).rs) (F := (sig_runs_AndNot_1 k).F) mix_ok Go.Proofs.Try.func22 (c := body_runs_AndNot_1) (by kernel_rfl) (by kernel_rfl) (bodyok_runs_AndNot_1 k) (rfl_runs_AndNot_1 k)

noncomputable def body_runs_edges_AndNot_1 : Code := bodyOf Go.Proofs.Try.f18
noncomputable def lb_runs_edges_AndNot_1_5 : Code := (loops body_runs_edges_AndNot_1).getD 0 .skip
noncomputable def lb_runs_edges_AndNot_1_11 : Code := (loops lb_runs_edges_AndNot_1_5).getD 0 .skip
noncomputable def lb_runs_edges_AndNot_1_13 : Code := (loops lb_runs_edges_AndNot_1_5).getD 1 .skip
noncomputable def ls_runs_edges_AndNot_1_11 (k : Nat) : LSig := ⟨⟨[(.tmp 7, .grow false (.st (.pair (.int .u16) (.int .u16))) 25)], [(0, .d (.sl (.int .i64))), (1, .d (.sl (.int .i64))), (2, .fn 22 [] []), (7, .own 0), (8, .d .bool), (9, .d (.int .i64)), (10, .d (.int .i64)), (11, .d (.int .i64)), (12, .d (.int .i64))]⟩, [(.exit 2, ⟨[(.tmp 7, .grow false (.st (.pair (.int .u16) (.int .u16))) 25)], [(0, .d (.sl (.int .i64))), (1, .d (.sl (.int .i64))), (2, .fn 22 [] []), (7, .own 0), (8, .d .bool), (9, .d (.int .i64)), (10, .d (.int .i64)), (11, .d (.int .i64)), (12, .d (.int .i64))]⟩)], fun x => runs_edges_AndNot_1_l1 k x.1 x.2.1 x.2.2.1 x.2.2.2.1 x.2.2.2.2.1 x.2.2.2.2.2.1 x.2.2.2.2.2.2.1 x.2.2.2.2.2.2.2⟩
noncomputable def ls_runs_edges_AndNot_1_13 (k : Nat) : LSig := ⟨⟨[(.tmp 7, .grow false (.st (.pair (.int .u16) (.int .u16))) 25)], [(0, .d (.sl (.int .i64))), (1, .d (.sl (.int .i64))), (2, .fn 22 [] []), (7, .own 0), (8, .d .bool), (9, .d (.int .i64)), (10, .d (.int .i64)), (11, .d (.int .i64)), (12, .d (.int .i64))]⟩, [(.exit 4, ⟨[(.tmp 7, .grow false (.st (.pair (.int .u16) (.int .u16))) 25)], [(0, .d (.sl (.int .i64))), (1, .d (.sl (.int .i64))), (2, .fn 22 [] []), (7, .own 0), (8, .d .bool), (9, .d (.int .i64)), (10, .d (.int .i64)), (11, .d (.int .i64)), (12, .d (.int .i64))]⟩)], fun x => runs_edges_AndNot_1_l2 k x.1 x.2.1 x.2.2.1 x.2.2.2.1 x.2.2.2.2.1 x.2.2.2.2.2.1 x.2.2.2.2.2.2.1 x.2.2.2.2.2.2.2⟩
noncomputable def ls_runs_edges_AndNot_1_5 (k : Nat) : LSig := ⟨⟨[(.tmp 7, .grow false (.st (.pair (.int .u16) (.int .u16))) 25)], [(0, .d (.sl (.int .i64))), (1, .d (.sl (.int .i64))), (2, .fn 22 [] []), (7, .own 0), (8, .d .bool), (9, .d (.int .i64)), (10, .d (.int .i64)), (11, .d (.int .i64))]⟩, [(.exit 0, ⟨[(.tmp 7, .grow false (.st (.pair (.int .u16) (.int .u16))) 25)], [(7, .own 0)]⟩)], fun x => runs_edges_AndNot_1_l0 k x.1 x.2.1 x.2.2.1 x.2.2.2.1 x.2.2.2.2.1 x.2.2.2.2.2.1 x.2.2.2.2.2.2⟩
noncomputable def sig_runs_edges_AndNot_1 (k : Nat) : Sig := ⟨⟨[], [(0, .d (.sl (.int .i64))), (1, .d (.sl (.int .i64))), (2, .fn 22 [] [])]⟩, ⟨[], [(0, .d (.sl (.st (.pair (.int .u16) (.int .u16)))))]⟩, fun x => runs_edges_AndNot_1 k x.1 x.2⟩
noncomputable def G_runs_edges_AndNot_1 (k : Nat) : Gl := { m := 0, n := 96, gl := gl, ty := ty, fz := fz, fn := fnTab [(22, sig_runs_AndNot_1 k)], lp := lpTab 0 [(11, ls_runs_edges_AndNot_1_11 k), (13, ls_runs_edges_AndNot_1_13 k), (5, ls_runs_edges_AndNot_1_5 k)] }
theorem rfl_runs_edges_AndNot_1_11 (k : Nat) (x) : (ls_runs_edges_AndNot_1_11 (k + 1)).F x = (ev (G_runs_edges_AndNot_1 k) lb_runs_edges_AndNot_1_11 (head (ls_runs_edges_AndNot_1_11 k).hd (ofTup (ls_runs_edges_AndNot_1_11 k).hd.shs x))).den (roundEnd 0 (ls_runs_edges_AndNot_1_11 k)) := by kernel_rfl
theorem rfl_runs_edges_AndNot_1_13 (k : Nat) (x) : (ls_runs_edges_AndNot_1_13 (k + 1)).F x = (ev (G_runs_edges_AndNot_1 k) lb_runs_edges_AndNot_1_13 (head (ls_runs_edges_AndNot_1_13 k).hd (ofTup (ls_runs_edges_AndNot_1_13 k).hd.shs x))).den (roundEnd 0 (ls_runs_edges_AndNot_1_13 k)) := by kernel_rfl
theorem rfl_runs_edges_AndNot_1_5 (k : Nat) (x) : (ls_runs_edges_AndNot_1_5 (k + 1)).F x = (ev (G_runs_edges_AndNot_1 k) lb_runs_edges_AndNot_1_5 (head (ls_runs_edges_AndNot_1_5 k).hd (ofTup (ls_runs_edges_AndNot_1_5 k).hd.shs x))).den (roundEnd 0 (ls_runs_edges_AndNot_1_5 k)) := by kernel_rfl
theorem rfl_runs_edges_AndNot_1 (k : Nat) (x) : (sig_runs_edges_AndNot_1 k).F x = (ev (G_runs_edges_AndNot_1 k) body_runs_edges_AndNot_1 (head (sig_runs_edges_AndNot_1 k).ps (ofTup (sig_runs_edges_AndNot_1 k).ps.shs x))).den (funEnd (G_runs_edges_AndNot_1 k) Go.Proofs.Try.f18.results.toList 0 (sig_runs_edges_AndNot_1 k).rs) := by kernel_rfl
theorem calls_runs_edges_AndNot_1 (k : Nat) : CallsOK Go.Proofs.Try.prog gl (G_runs_edges_AndNot_1 k) := callsOK_tab (G := G_runs_edges_AndNot_1 k) (tab := [(22, sig_runs_AndNot_1 k)]) (all_cons (ok_runs_AndNot_1 k) all_nil)
theorem loop_runs_edges_AndNot_1_11 (C : Ctx) (hP : C.P = Go.Proofs.Try.prog) (hgl : C.gl = gl) (hm : C.m = 0) (hN : C.N = Go.Proofs.Try.f18.ntmps) (k : Nat) : LoopOK C (G_runs_edges_AndNot_1 k) lb_runs_edges_AndNot_1_11 :=
  LoopOK.of (by rw [hP]; exact mix_ok) (hd := (ls_runs_edges_AndNot_1_11 0).hd) (ex := (ls_runs_edges_AndNot_1_11 0).ex) (F := fun k => (ls_runs_edges_AndNot_1_11 k).F) (Gk := G_runs_edges_AndNot_1) (fun k => gok hP hgl hm hN rfl (by kernel_rfl) rfl (ty_ok _ rfl) (calls_runs_edges_AndNot_1 k)) (fun k => loops_all (n := 0) (by kernel_rfl) lt_all0) (fun x => rfl)
    (fun k x => by rw [hm]; exact rfl_runs_edges_AndNot_1_11 k x) k (fun S => by rw [hm]; kernel_rfl)
theorem loop_runs_edges_AndNot_1_13 (C : Ctx) (hP : C.P = Go.Proofs.Try.prog) (hgl : C.gl = gl) (hm : C.m = 0) (hN : C.N = Go.Proofs.Try.f18.ntmps) (k : Nat) : LoopOK C (G_runs_edges_AndNot_1 k) lb_runs_edges_AndNot_1_13 :=
  LoopOK.of (by rw [hP]; exact mix_ok) (hd := (ls_runs_edges_AndNot_1_13 0).hd) (ex := (ls_runs_edges_AndNot_1_13 0).ex) (F := fun k => (ls_runs_edges_AndNot_1_13 k).F) (Gk := G_runs_edges_AndNot_1) (fun k => gok hP hgl hm hN rfl (by kernel_rfl) rfl (ty_ok _ rfl) (calls_runs_edges_AndNot_1 k)) (fun k => loops_all (n := 0) (by kernel_rfl) lt_all0) (fun x => rfl)
    (fun k x => by rw [hm]; exact rfl_runs_edges_AndNot_1_13 k x) k (fun S => by rw [hm]; kernel_rfl)
theorem loop_runs_edges_AndNot_1_5 (C : Ctx) (hP : C.P = Go.Proofs.Try.prog) (hgl : C.gl = gl) (hm : C.m = 0) (hN : C.N = Go.Proofs.Try.f18.ntmps) (k : Nat) : LoopOK C (G_runs_edges_AndNot_1 k) lb_runs_edges_AndNot_1_5 :=
  LoopOK.of (by rw [hP]; exact mix_ok) (hd := (ls_runs_edges_AndNot_1_5 0).hd) (ex := (ls_runs_edges_AndNot_1_5 0).ex) (F := fun k => (ls_runs_edges_AndNot_1_5 k).F) (Gk := G_runs_edges_AndNot_1) (fun k => gok hP hgl hm hN rfl (by kernel_rfl) rfl (ty_ok _ rfl) (calls_runs_edges_AndNot_1 k)) (fun k => loops_all (n := 2) (by kernel_rfl) (lt_allS (lt_allS lt_all0 (loop_runs_edges_AndNot_1_11 C hP hgl hm hN k)) (loop_runs_edges_AndNot_1_13 C hP hgl hm hN k))) (fun x => rfl)
    (fun k x => by rw [hm]; exact rfl_runs_edges_AndNot_1_5 k x) k (fun S => by rw [hm]; kernel_rfl)
theorem bodyok_runs_edges_AndNot_1 (k : Nat) : BodyOK Go.Proofs.Try.prog gl (G_runs_edges_AndNot_1 k) Go.Proofs.Try.f18 body_runs_edges_AndNot_1 (sig_runs_edges_AndNot_1 k).ps (sig_runs_edges_AndNot_1 k).rs :=
  ⟨rfl, by kernel_rfl, rfl, ty_ok _ rfl, calls_runs_edges_AndNot_1 k, by kernel_rfl, by kernel_rfl, fun C hP hgl hm hN => loops_all (n := 1) (by kernel_rfl) (lt_allS lt_all0 (loop_runs_edges_AndNot_1_5 C hP hgl hm hN k))⟩
theorem ok_runs_edges_AndNot_1 (k : Nat) : FnOK Go.Proofs.Try.prog gl 18 (sig_runs_edges_AndNot_1 k) :=
  fun_ok (G := G_runs_edges_AndNot_1 k) (ps := (sig_runs_edges_AndNot_1 k).ps) (rs := (sig_runs_edges_AndNot_1 k).rs) (F := (sig_runs_edges_AndNot_1 k).F) mix_ok Go.Proofs.Try.func18 (c := body_runs_edges_AndNot_1) (by kernel_rfl) (by kernel_rfl) (bodyok_runs_edges_AndNot_1 k) (rfl_runs_edges_AndNot_1 k)

noncomputable def body_runs_AndNot : Code := bodyOf Go.Proofs.Try.f8
noncomputable def sig_runs_AndNot (k : Nat) : Sig := ⟨⟨[], [(0, .d (.sl (.st (.pair (.int .u16) (.int .u16))))), (1, .d (.sl (.st (.pair (.int .u16) (.int .u16)))))]⟩, ⟨[], [(0, .d (.sl (.st (.pair (.int .u16) (.int .u16)))))]⟩, fun x => runs_AndNot k x.1 x.2⟩
noncomputable def G_runs_AndNot (k : Nat) : Gl := { m := 0, n := 10, gl := gl, ty := ty, fz := fz, fn := fnTab [(19, sig_runs_row k), (18, sig_runs_edges_AndNot_1 k)], lp := lpTab 0 [] }
theorem rfl_runs_AndNot (k : Nat) (x) : (sig_runs_AndNot k).F x = (ev (G_runs_AndNot k) body_runs_AndNot (head (sig_runs_AndNot k).ps (ofTup (sig_runs_AndNot k).ps.shs x))).den (funEnd (G_runs_AndNot k) Go.Proofs.Try.f8.results.toList 0 (sig_runs_AndNot k).rs) := by kernel_rfl
theorem calls_runs_AndNot (k : Nat) : CallsOK Go.Proofs.Try.prog gl (G_runs_AndNot k) := callsOK_tab (G := G_runs_AndNot k) (tab := [(19, sig_runs_row k), (18, sig_runs_edges_AndNot_1 k)]) (all_cons (ok_runs_row k) (all_cons (ok_runs_edges_AndNot_1 k) all_nil))
theorem bodyok_runs_AndNot (k : Nat) : BodyOK Go.Proofs.Try.prog gl (G_runs_AndNot k) Go.Proofs.Try.f8 body_runs_AndNot (sig_runs_AndNot k).ps (sig_runs_AndNot k).rs :=
  ⟨rfl, by kernel_rfl, rfl, ty_ok _ rfl, calls_runs_AndNot k, by kernel_rfl, by kernel_rfl, fun C hP hgl hm hN => loops_all (n := 0) (by kernel_rfl) lt_all0⟩
theorem ok_runs_AndNot (k : Nat) : FnOK Go.Proofs.Try.prog gl 8 (sig_runs_AndNot k) :=
  fun_ok (G := G_runs_AndNot k) (ps := (sig_runs_AndNot k).ps) (rs := (sig_runs_AndNot k).rs) (F := (sig_runs_AndNot k).F) mix_ok Go.Proofs.Try.func8 (c := body_runs_AndNot) (by kernel_rfl) (by kernel_rfl) (bodyok_runs_AndNot k) (rfl_runs_AndNot k)

noncomputable def body_runs_And_1 : Code := bodyOf Go.Proofs.Try.f23
noncomputable def sig_runs_And_1 (k : Nat) : Sig := ⟨⟨[], [(0, .d .bool), (1, .d .bool)]⟩, ⟨[], [(0, .d .bool)]⟩, fun x => runs_And_1 k x.1 x.2⟩
noncomputable def G_runs_And_1 (k : Nat) : Gl := { m := 0, n := 9, gl := gl, ty := ty, fz := fz, fn := fnTab [], lp := lpTab 0 [] }
theorem rfl_runs_And_1 (k : Nat) (x) : (sig_runs_And_1 k).F x = (ev (G_runs_And_1 k) body_runs_And_1 (head (sig_runs_And_1 k).ps (ofTup (sig_runs_And_1 k).ps.shs x))).den (funEnd (G_runs_And_1 k) Go.Proofs.Try.f23.results.toList 0 (sig_runs_And_1 k).rs) := by kernel_rfl
theorem calls_runs_And_1 (k : Nat) : CallsOK Go.Proofs.Try.prog gl (G_runs_And_1 k) := callsOK_tab (G := G_runs_And_1 k) (tab := []) all_nil
theorem bodyok_runs_And_1 (k : Nat) : BodyOK Go.Proofs.Try.prog gl (G_runs_And_1 k) Go.Proofs.Try.f23 body_runs_And_1 (sig_runs_And_1 k).ps (sig_runs_And_1 k).rs :=
  ⟨rfl, by kernel_rfl, rfl, ty_ok _ rfl, calls_runs_And_1 k, by kernel_rfl, by kernel_rfl, fun C hP hgl hm hN => loops_all (n := 0) (by kernel_rfl) lt_all0⟩
theorem ok_runs_And_1 (k : Nat) : FnOK Go.Proofs.Try.prog gl 23 (sig_runs_And_1 k) :=
  fun_ok (G := G_runs_And_1 k) (ps := (sig_runs_And_1 k).ps) (rs := (sig_runs_And_1 k).rs) (F := (sig_runs_And_1 k).F) mix_ok Go.Proofs.Try.func23 (c := body_runs_And_1) (by kernel_rfl) (by kernel_rfl) (bodyok_runs_And_1 k) (rfl_runs_And_1 k)

noncomputable def body_runs_edges_And_1 : Code := bodyOf Go.Proofs.Try.f18
noncomputable def lb_runs_edges_And_1_5 : Code := (loops body_runs_edges_And_1).getD 0 .skip
noncomputable def lb_runs_edges_And_1_11 : Code := (loops lb_runs_edges_And_1_5).getD 0 .skip
noncomputable def lb_runs_edges_And_1_13 : Code := (loops lb_runs_edges_And_1_5).getD 1 .skip
noncomputable def ls_runs_edges_And_1_11 (k : Nat) : LSig := ⟨⟨[(.tmp 7, .grow false (.st (.pair (.int .u16) (.int .u16))) 25)], [(0, .d (.sl (.int .i64))), (1, .d (.sl (.int .i64))), (2, .fn 23 [] []), (7, .own 0), (8, .d .bool), (9, .d (.int .i64)), (10, .d (.int .i64)), (11, .d (.int .i64)), (12, .d (.int .i64))]⟩, [(.exit 2, ⟨[(.tmp 7, .grow false (.st (.pair (.int .u16) (.int .u16))) 25)], [(0, .d (.sl (.int .i64))), (1, .d (.sl (.int .i64))), (2, .fn 23 [] []), (7, .own 0), (8, .d .bool), (9, .d (.int .i64)), (10, .d (.int .i64)), (11, .d (.int .i64)), (12, .d (.int .i64))]⟩)], fun x => runs_edges_And_1_l1 k x.1 x.2.1 x.2.2.1 x.2.2.2.1 x.2.2.2.2.1 x.2.2.2.2.2.1 x.2.2.2.2.2.2.1 x.2.2.2.2.2.2.2⟩
noncomputable def ls_runs_edges_And_1_13 (k : Nat) : LSig := ⟨⟨[(.tmp 7, .grow false (.st (.pair (.int .u16) (.int .u16))) 25)], [(0, .d (.sl (.int .i64))), (1, .d (.sl (.int .i64))), (2, .fn 23 [] []), (7, .own 0), (8, .d .bool), (9, .d (.int .i64)), (10, .d (.int .i64)), (11, .d (.int .i64)), (12, .d (.int .i64))]⟩, [(.exit 4, ⟨[(.tmp 7, .grow false (.st (.pair (.int .u16) (.int .u16))) 25)], [(0, .d (.sl (.int .i64))), (1, .d (.sl (.int .i64))), (2, .fn 23 [] []), (7, .own 0), (8, .d .bool), (9, .d (.int .i64)), (10, .d (.int .i64)), (11, .d (.int .i64)), (12, .d (.int .i64))]⟩)], fun x => runs_edges_And_1_l2 k x.1 x.2.1 x.2.2.1 x.2.2.2.1 x.2.2.2.2.1 x.2.2.2.2.2.1 x.2.2.2.2.2.2.1 x.2.2.2.2.2.2.2⟩
noncomputable def ls_runs_edges_And_1_5 (k : Nat) : LSig := ⟨⟨[(.tmp 7, .grow false (.st (.pair (.int .u16) (.int .u16))) 25)], [(0, .d (.sl (.int .i64))), (1, .d (.sl (.int .i64))), (2, .fn 23 [] []), (7, .own 0), (8, .d .bool), (9, .d (.int .i64)), (10, .d (.int .i64)), (11, .d (.int .i64))]⟩, [(.exit 0, ⟨[(.tmp 7, .grow false (.st (.pair (.int .u16) (.int .u16))) 25)], [(7, .own 0)]⟩)], fun x => runs_edges_And_1_l0 k x.1 x.2.1 x.2.2.1 x.2.2.2.1 x.2.2.2.2.1 x.2.2.2.2.2.1 x.2.2.2.2.2.2⟩
noncomputable def sig_runs_edges_And_1 (k : Nat) : Sig := ⟨⟨[], [(0, .d (.sl (.int .i64))), (1, .d (.sl (.int .i64))), (2, .fn 23 [] [])]⟩, ⟨[], [(0, .d (.sl (.st (.pair (.int .u16) (.int .u16)))))]⟩, fun x => runs_edges_And_1 k x.1 x.2⟩
noncomputable def G_runs_edges_And_1 (k : Nat) : Gl := { m := 0, n := 96, gl := gl, ty := ty, fz := fz, fn := fnTab [(23, sig_runs_And_1 k)], lp := lpTab 0 [(11, ls_runs_edges_And_1_11 k), (13, ls_runs_edges_And_1_13 k), (5, ls_runs_edges_And_1_5 k)] }
theorem rfl_runs_edges_And_1_11 (k : Nat) (x) : (ls_runs_edges_And_1_11 (k + 1)).F x = (ev (G_runs_edges_And_1 k) lb_runs_edges_And_1_11 (head (ls_runs_edges_And_1_11 k).hd (ofTup (ls_runs_edges_And_1_11 k).hd.shs x))).den (roundEnd 0 (ls_runs_edges_And_1_11 k)) := by kernel_rfl
theorem rfl_runs_edges_And_1_13 (k : Nat) (x) : (ls_runs_edges_And_1_13 (k + 1)).F x = (ev (G_runs_edges_And_1 k) lb_runs_edges_And_1_13 (head (ls_runs_edges_And_1_13 k).hd (ofTup (ls_runs_edges_And_1_13 k).hd.shs x))).den (roundEnd 0 (ls_runs_edges_And_1_13 k)) := by kernel_rfl
theorem rfl_runs_edges_And_1_5 (k : Nat) (x) : (ls_runs_edges_And_1_5 (k + 1)).F x = (ev (G_runs_edges_And_1 k) lb_runs_edges_And_1_5 (head (ls_runs_edges_And_1_5 k).hd (ofTup (ls_runs_edges_And_1_5 k).hd.shs x))).den (roundEnd 0 (ls_runs_edges_And_1_5 k)) := by kernel_rfl
theorem rfl_runs_edges_And_1 (k : Nat) (x) : (sig_runs_edges_And_1 k).F x = (ev (G_runs_edges_And_1 k) body_runs_edges_And_1 (head (sig_runs_edges_And_1 k).ps (ofTup (sig_runs_edges_And_1 k).ps.shs x))).den (funEnd (G_runs_edges_And_1 k) Go.Proofs.Try.f18.results.toList 0 (sig_runs_edges_And_1 k).rs) := by kernel_rfl
theorem calls_runs_edges_And_1 (k : Nat) : CallsOK Go.Proofs.Try.prog gl (G_runs_edges_And_1 k) := callsOK_tab (G := G_runs_edges_And_1 k) (tab := [(23, sig_runs_And_1 k)]) (all_cons (ok_runs_And_1 k) all_nil)
theorem loop_runs_edges_And_1_11 (C : Ctx) (hP : C.P = Go.Proofs.Try.prog) (hgl : C.gl = gl) (hm : C.m = 0) (hN : C.N = Go.Proofs.Try.f18.ntmps) (k : Nat) : LoopOK C (G_runs_edges_And_1 k) lb_runs_edges_And_1_11 :=
  LoopOK.of (by rw [hP]; exact mix_ok) (hd := (ls_runs_edges_And_1_11 0).hd) (ex := (ls_runs_edges_And_1_11 0).ex) (F := fun k => (ls_runs_edges_And_1_11 k).F) (Gk := G_runs_edges_And_1) (fun k => gok hP hgl hm hN rfl (by kernel_rfl) rfl (ty_ok _ rfl) (calls_runs_edges_And_1 k)) (fun k => loops_all (n := 0) (by kernel_rfl) lt_all0) (fun x => rfl)
    (fun k x => by rw [hm]; exact rfl_runs_edges_And_1_11 k x) k (fun S => by rw [hm]; kernel_rfl)
theorem loop_runs_edges_And_1_13 (C : Ctx) (hP : C.P = Go.Proofs.Try.prog) (hgl : C.gl = gl) (hm : C.m = 0) (hN : C.N = Go.Proofs.Try.f18.ntmps) (k : Nat) : LoopOK C (G_runs_edges_And_1 k) lb_runs_edges_And_1_13 :=
  LoopOK.of (by rw [hP]; exact mix_ok) (hd := (ls_runs_edges_And_1_13 0).hd) (ex := (ls_runs_edges_And_1_13 0).ex) (F := fun k => (ls_runs_edges_And_1_13 k).F) (Gk := G_runs_edges_And_1) (fun k => gok hP hgl hm hN rfl (by kernel_rfl) rfl (ty_ok _ rfl) (calls_runs_edges_And_1 k)) (fun k => loops_all (n := 0) (by kernel_rfl) lt_all0) (fun x => rfl)
    (fun k x => by rw [hm]; exact rfl_runs_edges_And_1_13 k x) k (fun S => by rw [hm]; kernel_rfl)
theorem loop_runs_edges_And_1_5 (C : Ctx) (hP : C.P = Go.Proofs.Try.prog) (hgl : C.gl = gl) (hm : C.m = 0) (hN : C.N = Go.Proofs.Try.f18.ntmps) (k : Nat) : LoopOK C (G_runs_edges_And_1 k) lb_runs_edges_And_1_5 :=
  LoopOK.of (by rw [hP]; exact mix_ok) (hd := (ls_runs_edges_And_1_5 0).hd) (ex := (ls_runs_edges_And_1_5 0).ex) (F := fun k => (ls_runs_edges_And_1_5 k).F) (Gk := G_runs_edges_And_1) (fun k => gok hP hgl hm hN rfl (by kernel_rfl) rfl (ty_ok _ rfl) (calls_runs_edges_And_1 k)) (fun k => loops_all (n := 2) (by kernel_rfl) (lt_allS (lt_allS lt_all0 (loop_runs_edges_And_1_11 C hP hgl hm hN k)) (loop_runs_edges_And_1_13 C hP hgl hm hN k))) (fun x => rfl)
    (fun k x => by rw [hm]; exact rfl_runs_edges_And_1_5 k x) k (fun S => by rw [hm]; kernel_rfl)
theorem bodyok_runs_edges_And_1 (k : Nat) : BodyOK Go.Proofs.Try.prog gl (G_runs_edges_And_1 k) Go.Proofs.Try.f18 body_runs_edges_And_1 (sig_runs_edges_And_1 k).ps (sig_runs_edges_And_1 k).rs :=
  ⟨rfl, by kernel_rfl, rfl, ty_ok _ rfl, calls_runs_edges_And_1 k, by kernel_rfl, by kernel_rfl, fun C hP hgl hm hN => loops_all (n := 1) (by kernel_rfl) (lt_allS lt_all0 (loop_runs_edges_And_1_5 C hP hgl hm hN k))⟩
theorem ok_runs_edges_And_1 (k : Nat) : FnOK Go.Proofs.Try.prog gl 18 (sig_runs_edges_And_1 k) :=
  fun_ok (G := G_runs_edges_And_1 k) (ps := (sig_runs_edges_And_1 k).ps) (rs := (sig_runs_edges_And_1 k).rs) (F := (sig_runs_edges_And_1 k).F) mix_ok Go.Proofs.Try.func18 (c := body_runs_edges_And_1) (by kernel_rfl) (by kernel_rfl) (bodyok_runs_edges_And_1 k) (rfl_runs_edges_And_1 k)

noncomputable def body_runs_And : Code := bodyOf Go.Proofs.Try.f9
noncomputable def sig_runs_And (k : Nat) : Sig := ⟨⟨[], [(0, .d (.sl (.st (.pair (.int .u16) (.int .u16))))), (1, .d (.sl (.st (.pair (.int .u16) (.int .u16)))))]⟩, ⟨[], [(0, .d (.sl (.st (.pair (.int .u16) (.int .u16)))))]⟩, fun x => runs_And k x.1 x.2⟩
noncomputable def G_runs_And (k : Nat) : Gl := { m := 0, n := 10, gl := gl, ty := ty, fz := fz, fn := fnTab [(19, sig_runs_row k), (18, sig_runs_edges_And_1 k)], lp := lpTab 0 [] }
theorem rfl_runs_And (k : Nat) (x) : (sig_runs_And k).F x = (ev (G_runs_And k) body_runs_And (head (sig_runs_And k).ps (ofTup (sig_runs_And k).ps.shs x))).den (funEnd (G_runs_And k) Go.Proofs.Try.f9.results.toList 0 (sig_runs_And k).rs) := by kernel_rfl
theorem calls_runs_And (k : Nat) : CallsOK Go.Proofs.Try.prog gl (G_runs_And k) := callsOK_tab (G := G_runs_And k) (tab := [(19, sig_runs_row k), (18, sig_runs_edges_And_1 k)]) (all_cons (ok_runs_row k) (all_cons (ok_runs_edges_And_1 k) all_nil))
theorem bodyok_runs_And (k : Nat) : BodyOK Go.Proofs.Try.prog gl (G_runs_And k) Go.Proofs.Try.f9 body_runs_And (sig_runs_And k).ps (sig_runs_And k).rs :=
  ⟨rfl, by kernel_rfl, rfl, ty_ok _ rfl, calls_runs_And k, by kernel_rfl, by kernel_rfl, fun C hP hgl hm hN => loops_all (n := 0) (by kernel_rfl) lt_all0⟩
theorem ok_runs_And (k : Nat) : FnOK Go.Proofs.Try.prog gl 9 (sig_runs_And k) :=
  fun_ok (G := G_runs_And k) (ps := (sig_runs_And k).ps) (rs := (sig_runs_And k).rs) (F := (sig_runs_And k).F) mix_ok Go.Proofs.Try.func9 (c := body_runs_And) (by kernel_rfl) (by kernel_rfl) (bodyok_runs_And k) (rfl_runs_And k)

noncomputable def body_runs_Xor_1 : Code := bodyOf Go.Proofs.Try.f24
noncomputable def sig_runs_Xor_1 (k : Nat) : Sig := ⟨⟨[], [(0, .d .bool), (1, .d .bool)]⟩, ⟨[], [(0, .d .bool)]⟩, fun x => runs_Xor_1 k x.1 x.2⟩
noncomputable def G_runs_Xor_1 (k : Nat) : Gl := { m := 0, n := 8, gl := gl, ty := ty, fz := fz, fn := fnTab [], lp := lpTab 0 [] }
theorem rfl_runs_Xor_1 (k : Nat) (x) : (sig_runs_Xor_1 k).F x = (ev (G_runs_Xor_1 k) body_runs_Xor_1 (head (sig_runs_Xor_1 k).ps (ofTup (sig_runs_Xor_1 k).ps.shs x))).den (funEnd (G_runs_Xor_1 k) Go.Proofs.Try.f24.results.toList 0 (sig_runs_Xor_1 k).rs) := by kernel_rfl
theorem calls_runs_Xor_1 (k : Nat) : CallsOK Go.Proofs.Try.prog gl (G_runs_Xor_1 k) := callsOK_tab (G := G_runs_Xor_1 k) (tab := []) all_nil
theorem bodyok_runs_Xor_1 (k : Nat) : BodyOK Go.Proofs.Try.prog gl (G_runs_Xor_1 k) Go.Proofs.Try.f24 body_runs_Xor_1 (sig_runs_Xor_1 k).ps (sig_runs_Xor_1 k).rs :=
  ⟨rfl, by kernel_rfl, rfl, ty_ok _ rfl, calls_runs_Xor_1 k, by kernel_rfl, by kernel_rfl, fun C hP hgl hm hN => loops_all (n := 0) (by kernel_rfl) lt_all0⟩
theorem ok_runs_Xor_1 (k : Nat) : FnOK Go.Proofs.Try.prog gl 24 (sig_runs_Xor_1 k) :=
  fun_ok (G := G_runs_Xor_1 k) (ps := (sig_runs_Xor_1 k).ps) (rs := (sig_runs_Xor_1 k).rs) (F := (sig_runs_Xor_1 k).F) mix_ok Go.Proofs.Try.func24 (c := body_runs_Xor_1) (by kernel_rfl) (by kernel_rfl) (bodyok_runs_Xor_1 k) (rfl_runs_Xor_1 k)

noncomputable def body_runs_edges_Xor_1 : Code := bodyOf Go.Proofs.Try.f18
noncomputable def lb_runs_edges_Xor_1_5 : Code := (loops body_runs_edges_Xor_1).getD 0 .skip
noncomputable def lb_runs_edges_Xor_1_11 : Code := (loops lb_runs_edges_Xor_1_5).getD 0 .skip
noncomputable def lb_runs_edges_Xor_1_13 : Code := (loops lb_runs_edges_Xor_1_5).getD 1 .skip
noncomputable def ls_runs_edges_Xor_1_11 (k : Nat) : LSig := ⟨⟨[(.tmp 7, .grow false (.st (.pair (.int .u16) (.int .u16))) 25)], [(0, .d (.sl (.int .i64))), (1, .d (.sl (.int .i64))), (2, .fn 24 [] []), (7, .own 0), (8, .d .bool), (9, .d (.int .i64)), (10, .d (.int .i64)), (11, .d (.int .i64)), (12, .d (.int .i64))]⟩, [(.exit 2, ⟨[(.tmp 7, .grow false (.st (.pair (.int .u16) (.int .u16))) 25)], [(0, .d (.sl (.int .i64))), (1, .d (.sl (.int .i64))), (2, .fn 24 [] []), (7, .own 0), (8, .d .bool), (9, .d (.int .i64)), (10, .d (.int .i64)), (11, .d (.int .i64)), (12, .d (.int .i64))]⟩)], fun x => runs_edges_Xor_1_l1 k x.1 x.2.1 x.2.2.1 x.2.2.2.1 x.2.2.2.2.1 x.2.2.2.2.2.1 x.2.2.2.2.2.2.1 x.2.2.2.2.2.2.2⟩
noncomputable def ls_runs_edges_Xor_1_13 (k : Nat) : LSig := ⟨⟨[(.tmp 7, .grow false (.st (.pair (.int .u16) (.int .u16))) 25)], [(0, .d (.sl (.int .i64))), (1, .d (.sl (.int .i64))), (2, .fn 24 [] []), (7, .own 0), (8, .d .bool), (9, .d (.int .i64)), (10, .d (.int .i64)), (11, .d (.int .i64)), (12, .d (.int .i64))]⟩, [(.exit 4, ⟨[(.tmp 7, .grow false (.st (.pair (.int .u16) (.int .u16))) 25)], [(0, .d (.sl (.int .i64))), (1, .d (.sl (.int .i64))), (2, .fn 24 [] []), (7, .own 0), (8, .d .bool), (9, .d (.int .i64)), (10, .d (.int .i64)), (11, .d (.int .i64)), (12, .d (.int .i64))]⟩)], fun x => runs_edges_Xor_1_l2 k x.1 x.2.1 x.2.2.1 x.2.2.2.1 x.2.2.2.2.1 x.2.2.2.2.2.1 x.2.2.2.2.2.2.1 x.2.2.2.2.2.2.2⟩
noncomputable def ls_runs_edges_Xor_1_5 (k : Nat) : LSig := ⟨⟨[(.tmp 7, .grow false (.st (.pair (.int .u16) (.int .u16))) 25)], [(0, .d (.sl (.int .i64))), (1, .d (.sl (.int .i64))), (2, .fn 24 [] []), (7, .own 0), (8, .d .bool), (9, .d (.int .i64)), (10, .d (.int .i64)), (11, .d (.int .i64))]⟩, [(.exit 0, ⟨[(.tmp 7, .grow false (.st (.pair (.int .u16) (.int .u16))) 25)], [(7, .own 0)]⟩)], fun x => runs_edges_Xor_1_l0 k x.1 x.2.1 x.2.2.1 x.2.2.2.1 x.2.2.2.2.1 x.2.2.2.2.2.1 x.2.2.2.2.2.2⟩
noncomputable def sig_runs_edges_Xor_1 (k : Nat) : Sig := ⟨⟨[], [(0, .d (.sl (.int .i64))), (1, .d (.sl (.int .i64))), (2, .fn 24 [] [])]⟩, ⟨[], [(0, .d (.sl (.st (.pair (.int .u16) (.int .u16)))))]⟩, fun x => runs_edges_Xor_1 k x.1 x.2⟩
noncomputable def G_runs_edges_Xor_1 (k : Nat) : Gl := { m := 0, n := 96, gl := gl, ty := ty, fz := fz, fn := fnTab [(24, sig_runs_Xor_1 k)], lp := lpTab 0 [(11, ls_runs_edges_Xor_1_11 k), (13, ls_runs_edges_Xor_1_13 k), (5, ls_runs_edges_Xor_1_5 k)] }
theorem rfl_runs_edges_Xor_1_11 (k : Nat) (x) : (ls_runs_edges_Xor_1_11 (k + 1)).F x = (ev (G_runs_edges_Xor_1 k) lb_runs_edges_Xor_1_11 (head (ls_runs_edges_Xor_1_11 k).hd (ofTup (ls_runs_edges_Xor_1_11 k).hd.shs x))).den (roundEnd 0 (ls_runs_edges_Xor_1_11 k)) := by kernel_rfl
theorem rfl_runs_edges_Xor_1_13 (k : Nat) (x) : (ls_runs_edges_Xor_1_13 (k + 1)).F x = (ev (G_runs_edges_Xor_1 k) lb_runs_edges_Xor_1_13 (head (ls_runs_edges_Xor_1_13 k).hd (ofTup (ls_runs_edges_Xor_1_13 k).hd.shs x))).den (roundEnd 0 (ls_runs_edges_Xor_1_13 k)) := by kernel_rfl
theorem rfl_runs_edges_Xor_1_5 (k : Nat) (x) : (ls_runs_edges_Xor_1_5 (k + 1)).F x = (ev (G_runs_edges_Xor_1 k) lb_runs_edges_Xor_1_5 (head (ls_runs_edges_Xor_1_5 k).hd (ofTup (ls_runs_edges_Xor_1_5 k).hd.shs x))).den (roundEnd 0 (ls_runs_edges_Xor_1_5 k)) := by kernel_rfl
theorem rfl_runs_edges_Xor_1 (k : Nat) (x) : (sig_runs_edges_Xor_1 k).F x = (ev (G_runs_edges_Xor_1 k) body_runs_edges_Xor_1 (head (sig_runs_edges_Xor_1 k).ps (ofTup (sig_runs_edges_Xor_1 k).ps.shs x))).den (funEnd (G_runs_edges_Xor_1 k) Go.Proofs.Try.f18.results.toList 0 (sig_runs_edges_Xor_1 k).rs) := by kernel_rfl
theorem calls_runs_edges_Xor_1 (k : Nat) : CallsOK Go.Proofs.Try.prog gl (G_runs_edges_Xor_1 k) := callsOK_tab (G := G_runs_edges_Xor_1 k) (tab := [(24, sig_runs_Xor_1 k)]) (all_cons (ok_runs_Xor_1 k) all_nil)
theorem loop_runs_edges_Xor_1_11 (C : Ctx) (hP : C.P = Go.Proofs.Try.prog) (hgl : C.gl = gl) (hm : C.m = 0) (hN : C.N = Go.Proofs.Try.f18.ntmps) (k : Nat) : LoopOK C (G_runs_edges_Xor_1 k) lb_runs_edges_Xor_1_11 :=
  LoopOK.of (by rw [hP]; exact mix_ok) (hd := (ls_runs_edges_Xor_1_11 0).hd) (ex := (ls_runs_edges_Xor_1_11 0).ex) (F := fun k => (ls_runs_edges_Xor_1_11 k).F) (Gk := G_runs_edges_Xor_1) (fun k => gok hP hgl hm hN rfl (by kernel_rfl) rfl (ty_ok _ rfl) (calls_runs_edges_Xor_1 k)) (fun k => loops_all (n := 0) (by kernel_rfl) lt_all0) (fun x => rfl)
    (fun k x => by rw [hm]; exact rfl_runs_edges_Xor_1_11 k x) k (fun S => by rw [hm]; kernel_rfl)
theorem loop_runs_edges_Xor_1_13 (C : Ctx) (hP : C.P = Go.Proofs.Try.prog) (hgl : C.gl = gl) (hm : C.m = 0) (hN : C.N = Go.Proofs.Try.f18.ntmps) (k : Nat) : LoopOK C (G_runs_edges_Xor_1 k) lb_runs_edges_Xor_1_13 :=
  LoopOK.of (by rw [hP]; exact mix_ok) (hd := (ls_runs_edges_Xor_1_13 0).hd) (ex := (ls_runs_edges_Xor_1_13 0).ex) (F := fun k => (ls_runs_edges_Xor_1_13 k).F) (Gk := G_runs_edges_Xor_1) (fun k => gok hP hgl hm hN rfl (by kernel_rfl) rfl (ty_ok _ rfl) (calls_runs_edges_Xor_1 k)) (fun k => loops_all (n := 0) (by kernel_rfl) lt_all0) (fun x => rfl)
    (fun k x => by rw [hm]; exact rfl_runs_edges_Xor_1_13 k x) k (fun S => by rw [hm]; kernel_rfl)
theorem loop_runs_edges_Xor_1_5 (C : Ctx) (hP : C.P = Go.Proofs.Try.prog) (hgl : C.gl = gl) (hm : C.m = 0) (hN : C.N = Go.Proofs.Try.f18.ntmps) (k : Nat) : LoopOK C (G_runs_edges_Xor_1 k) lb_runs_edges_Xor_1_5 :=
  LoopOK.of (by rw [hP]; exact mix_ok) (hd := (ls_runs_edges_Xor_1_5 0).hd) (ex := (ls_runs_edges_Xor_1_5 0).ex) (F := fun k => (ls_runs_edges_Xor_1_5 k).F) (Gk := G_runs_edges_Xor_1) (fun k => gok hP hgl hm hN rfl (by kernel_rfl) rfl (ty_ok _ rfl) (calls_runs_edges_Xor_1 k)) (fun k => loops_all (n := 2) (by kernel_rfl) (lt_allS (lt_allS lt_all0 (loop_runs_edges_Xor_1_11 C hP hgl hm hN k)) (loop_runs_edges_Xor_1_13 C hP hgl hm hN k))) (fun x => rfl)
    (fun k x => by rw [hm]; exact rfl_runs_edges_Xor_1_5 k x) k (fun S => by rw [hm]; kernel_rfl)
theorem bodyok_runs_edges_Xor_1 (k : Nat) : BodyOK Go.Proofs.Try.prog gl (G_runs_edges_Xor_1 k) Go.Proofs.Try.f18 body_runs_edges_Xor_1 (sig_runs_edges_Xor_1 k).ps (sig_runs_edges_Xor_1 k).rs :=
  ⟨rfl, by kernel_rfl, rfl, ty_ok _ rfl, calls_runs_edges_Xor_1 k, by kernel_rfl, by kernel_rfl, fun C hP hgl hm hN => loops_all (n := 1) (by kernel_rfl) (lt_allS lt_all0 (loop_runs_edges_Xor_1_5 C hP hgl hm hN k))⟩
theorem ok_runs_edges_Xor_1 (k : Nat) : FnOK Go.Proofs.Try.prog gl 18 (sig_runs_edges_Xor_1 k) :=
  fun_ok (G := G_runs_edges_Xor_1 k) (ps := (sig_runs_edges_Xor_1 k).ps) (rs := (sig_runs_edges_Xor_1 k).rs) (F := (sig_runs_edges_Xor_1 k).F) mix_ok Go.Proofs.Try.func18 (c := body_runs_edges_Xor_1) (by kernel_rfl) (by kernel_rfl) (bodyok_runs_edges_Xor_1 k) (rfl_runs_edges_Xor_1 k)

noncomputable def body_runs_Xor : Code := bodyOf Go.Proofs.Try.f10
noncomputable def sig_runs_Xor (k : Nat) : Sig := ⟨⟨[], [(0, .d (.sl (.st (.pair (.int .u16) (.int .u16))))), (1, .d (.sl (.st (.pair (.int .u16) (.int .u16)))))]⟩, ⟨[], [(0, .d (.sl (.st (.pair (.int .u16) (.int .u16)))))]⟩, fun x => runs_Xor k x.1 x.2⟩
noncomputable def G_runs_Xor (k : Nat) : Gl := { m := 0, n := 10, gl := gl, ty := ty, fz := fz, fn := fnTab [(19, sig_runs_row k), (18, sig_runs_edges_Xor_1 k)], lp := lpTab 0 [] }
theorem rfl_runs_Xor (k : Nat) (x) : (sig_runs_Xor k).F x = (ev (G_runs_Xor k) body_runs_Xor (head (sig_runs_Xor k).ps (ofTup (sig_runs_Xor k).ps.shs x))).den (funEnd (G_runs_Xor k) Go.Proofs.Try.f10.results.toList 0 (sig_runs_Xor k).rs) := by kernel_rfl
theorem calls_runs_Xor (k : Nat) : CallsOK Go.Proofs.Try.prog gl (G_runs_Xor k) := callsOK_tab (G := G_runs_Xor k) (tab := [(19, sig_runs_row k), (18, sig_runs_edges_Xor_1 k)]) (all_cons (ok_runs_row k) (all_cons (ok_runs_edges_Xor_1 k) all_nil))
theorem bodyok_runs_Xor (k : Nat) : BodyOK Go.Proofs.Try.prog gl (G_runs_Xor k) Go.Proofs.Try.f10 body_runs_Xor (sig_runs_Xor k).ps (sig_runs_Xor k).rs :=
  ⟨rfl, by kernel_rfl, rfl, ty_ok _ rfl, calls_runs_Xor k, by kernel_rfl, by kernel_rfl, fun C hP hgl hm hN => loops_all (n := 0) (by kernel_rfl) lt_all0⟩
theorem ok_runs_Xor (k : Nat) : FnOK Go.Proofs.Try.prog gl 10 (sig_runs_Xor k) :=
  fun_ok (G := G_runs_Xor k) (ps := (sig_runs_Xor k).ps) (rs := (sig_runs_Xor k).rs) (F := (sig_runs_Xor k).F) mix_ok Go.Proofs.Try.func10 (c := body_runs_Xor) (by kernel_rfl) (by kernel_rfl) (bodyok_runs_Xor k) (rfl_runs_Xor k)

noncomputable def body_isinglassref06_Same : Code := bodyOf Go.Proofs.Try.f11
noncomputable def lb_isinglassref06_Same_5 : Code := (loops body_isinglassref06_Same).getD 0 .skip
noncomputable def ls_isinglassref06_Same_5 (k : Nat) : LSig := ⟨⟨[], [(0, .d (.sl (.st (.pair (.int .u16) (.int .u16))))), (1, .d (.sl (.st (.pair (.int .u16) (.int .u16))))), (5, .d (.int .i64))]⟩, [(.ret, ⟨[], [(4, .d .bool)]⟩), (.exit 0, ⟨[], []⟩)], fun x => isinglassref06_Same_l0 k x.1 x.2.1 x.2.2⟩
noncomputable def sig_isinglassref06_Same (k : Nat) : Sig := ⟨⟨[], [(0, .d (.sl (.st (.pair (.int .u16) (.int .u16))))), (1, .d (.sl (.st (.pair (.int .u16) (.int .u16)))))]⟩, ⟨[], [(0, .d .bool)]⟩, fun x => isinglassref06_Same k x.1 x.2⟩
noncomputable def G_isinglassref06_Same (k : Nat) : Gl := { m := 0, n := 26, gl := gl, ty := ty, fz := fz, fn := fnTab [], lp := lpTab 0 [(5, ls_isinglassref06_Same_5 k)] }
theorem rfl_isinglassref06_Same_5 (k : Nat) (x) : (ls_isinglassref06_Same_5 (k + 1)).F x = (ev (G_isinglassref06_Same k) lb_isinglassref06_Same_5 (head (ls_isinglassref06_Same_5 k).hd (ofTup (ls_isinglassref06_Same_5 k).hd.shs x))).den (roundEnd 0 (ls_isinglassref06_Same_5 k)) := by kernel_rfl
theorem rfl_isinglassref06_Same (k : Nat) (x) : (sig_isinglassref06_Same k).F x = (ev (G_isinglassref06_Same k) body_isinglassref06_Same (head (sig_isinglassref06_Same k).ps (ofTup (sig_isinglassref06_Same k).ps.shs x))).den (funEnd (G_isinglassref06_Same k) Go.Proofs.Try.f11.results.toList 0 (sig_isinglassref06_Same k).rs) := by kernel_rfl
theorem calls_isinglassref06_Same (k : Nat) : CallsOK Go.Proofs.Try.prog gl (G_isinglassref06_Same k) := callsOK_tab (G := G_isinglassref06_Same k) (tab := []) all_nil
theorem loop_isinglassref06_Same_5 (C : Ctx) (hP : C.P = Go.Proofs.Try.prog) (hgl : C.gl = gl) (hm : C.m = 0) (hN : C.N = Go.Proofs.Try.f11.ntmps) (k : Nat) : LoopOK C (G_isinglassref06_Same k) lb_isinglassref06_Same_5 :=
  LoopOK.of (by rw [hP]; exact mix_ok) (hd := (ls_isinglassref06_Same_5 0).hd) (ex := (ls_isinglassref06_Same_5 0).ex) (F := fun k => (ls_isinglassref06_Same_5 k).F) (Gk := G_isinglassref06_Same) (fun k => gok hP hgl hm hN rfl (by kernel_rfl) rfl (ty_ok _ rfl) (calls_isinglassref06_Same k)) (fun k => loops_all (n := 0) (by kernel_rfl) lt_all0) (fun x => rfl)
    (fun k x => by rw [hm]; exact rfl_isinglassref06_Same_5 k x) k (fun S => by rw [hm]; kernel_rfl)
theorem bodyok_isinglassref06_Same (k : Nat) : BodyOK Go.Proofs.Try.prog gl (G_isinglassref06_Same k) Go.Proofs.Try.f11 body_isinglassref06_Same (sig_isinglassref06_Same k).ps (sig_isinglassref06_Same k).rs :=
  ⟨rfl, by kernel_rfl, rfl, ty_ok _ rfl, calls_isinglassref06_Same k, by kernel_rfl, by kernel_rfl, fun C hP hgl hm hN => loops_all (n := 1) (by kernel_rfl) (lt_allS lt_all0 (loop_isinglassref06_Same_5 C hP hgl hm hN k))⟩
theorem ok_isinglassref06_Same (k : Nat) : FnOK Go.Proofs.Try.prog gl 11 (sig_isinglassref06_Same k) :=
  fun_ok (G := G_isinglassref06_Same k) (ps := (sig_isinglassref06_Same k).ps) (rs := (sig_isinglassref06_Same k).rs) (F := (sig_isinglassref06_Same k).F) mix_ok Go.Proofs.Try.func11 (c := body_isinglassref06_Same) (by kernel_rfl) (by kernel_rfl) (bodyok_isinglassref06_Same k) (rfl_isinglassref06_Same k)

noncomputable def body_runs_Len : Code := bodyOf Go.Proofs.Try.f16
noncomputable def lb_runs_Len_4 : Code := (loops body_runs_Len).getD 0 .skip
noncomputable def ls_runs_Len_4 (k : Nat) : LSig := ⟨⟨[], [(3, .d (.int .i64)), (6, .d (.sl (.st (.pair (.int .u16) (.int .u16))))), (7, .d (.int .i64)), (8, .d (.int .i64))]⟩, [(.exit 0, ⟨[], [(3, .d (.int .i64))]⟩)], fun x => runs_Len_l0 k x.1 x.2.1 x.2.2.1 x.2.2.2⟩
noncomputable def sig_runs_Len (k : Nat) : Sig := ⟨⟨[], [(0, .d (.sl (.st (.pair (.int .u16) (.int .u16)))))]⟩, ⟨[], [(0, .d (.int .i64))]⟩, fun x => runs_Len k x⟩
noncomputable def G_runs_Len (k : Nat) : Gl := { m := 0, n := 20, gl := gl, ty := ty, fz := fz, fn := fnTab [], lp := lpTab 0 [(4, ls_runs_Len_4 k)] }
theorem rfl_runs_Len_4 (k : Nat) (x) : (ls_runs_Len_4 (k + 1)).F x = (ev (G_runs_Len k) lb_runs_Len_4 (head (ls_runs_Len_4 k).hd (ofTup (ls_runs_Len_4 k).hd.shs x))).den (roundEnd 0 (ls_runs_Len_4 k)) := by kernel_rfl
theorem rfl_runs_Len (k : Nat) (x) : (sig_runs_Len k).F x = (ev (G_runs_Len k) body_runs_Len (head (sig_runs_Len k).ps (ofTup (sig_runs_Len k).ps.shs x))).den (funEnd (G_runs_Len k) Go.Proofs.Try.f16.results.toList 0 (sig_runs_Len k).rs) := by kernel_rfl
theorem calls_runs_Len (k : Nat) : CallsOK Go.Proofs.Try.prog gl (G_runs_Len k) := callsOK_tab (G := G_runs_Len k) (tab := []) all_nil
theorem loop_runs_Len_4 (C : Ctx) (hP : C.P = Go.Proofs.Try.prog) (hgl : C.gl = gl) (hm : C.m = 0) (hN : C.N = Go.Proofs.Try.f16.ntmps) (k : Nat) : LoopOK C (G_runs_Len k) lb_runs_Len_4 :=
  LoopOK.of (by rw [hP]; exact mix_ok) (hd := (ls_runs_Len_4 0).hd) (ex := (ls_runs_Len_4 0).ex) (F := fun k => (ls_runs_Len_4 k).F) (Gk := G_runs_Len) (fun k => gok hP hgl hm hN rfl (by kernel_rfl) rfl (ty_ok _ rfl) (calls_runs_Len k)) (fun k => loops_all (n := 0) (by kernel_rfl) lt_all0) (fun x => rfl)
    (fun k x => by rw [hm]; exact rfl_runs_Len_4 k x) k (fun S => by rw [hm]; kernel_rfl)
theorem bodyok_runs_Len (k : Nat) : BodyOK Go.Proofs.Try.prog gl (G_runs_Len k) Go.Proofs.Try.f16 body_runs_Len (sig_runs_Len k).ps (sig_runs_Len k).rs :=
  ⟨rfl, by kernel_rfl, rfl, ty_ok _ rfl, calls_runs_Len k, by kernel_rfl, by kernel_rfl, fun C hP hgl hm hN => loops_all (n := 1) (by kernel_rfl) (lt_allS lt_all0 (loop_runs_Len_4 C hP hgl hm hN k))⟩
theorem ok_runs_Len (k : Nat) : FnOK Go.Proofs.Try.prog gl 16 (sig_runs_Len k) :=
  fun_ok (G := G_runs_Len k) (ps := (sig_runs_Len k).ps) (rs := (sig_runs_Len k).rs) (F := (sig_runs_Len k).F) mix_ok Go.Proofs.Try.func16 (c := body_runs_Len) (by kernel_rfl) (by kernel_rfl) (bodyok_runs_Len k) (rfl_runs_Len k)

noncomputable def body_runs_Has_1 : Code := bodyOf Go.Proofs.Try.f28
noncomputable def sig_runs_Has_1 (k : Nat) : Sig := ⟨⟨[], [(0, .d (.st (.pair (.int .u16) (.int .u16)))), (1, .d (.int .u16))]⟩, ⟨[], [(0, .d (.int .i64))]⟩, fun x => runs_Has_1 k x.1 x.2⟩
noncomputable def G_runs_Has_1 (k : Nat) : Gl := { m := 0, n := 11, gl := gl, ty := ty, fz := fz, fn := fnTab [], lp := lpTab 0 [] }
theorem rfl_runs_Has_1 (k : Nat) (x) : (sig_runs_Has_1 k).F x = (ev (G_runs_Has_1 k) body_runs_Has_1 (head (sig_runs_Has_1 k).ps (ofTup (sig_runs_Has_1 k).ps.shs x))).den (funEnd (G_runs_Has_1 k) Go.Proofs.Try.f28.results.toList 0 (sig_runs_Has_1 k).rs) := by kernel_rfl
theorem calls_runs_Has_1 (k : Nat) : CallsOK Go.Proofs.Try.prog gl (G_runs_Has_1 k) := callsOK_tab (G := G_runs_Has_1 k) (tab := []) all_nil
theorem bodyok_runs_Has_1 (k : Nat) : BodyOK Go.Proofs.Try.prog gl (G_runs_Has_1 k) Go.Proofs.Try.f28 body_runs_Has_1 (sig_runs_Has_1 k).ps (sig_runs_Has_1 k).rs :=
  ⟨rfl, by kernel_rfl, rfl, ty_ok _ rfl, calls_runs_Has_1 k, by kernel_rfl, by kernel_rfl, fun C hP hgl hm hN => loops_all (n := 0) (by kernel_rfl) lt_all0⟩
theorem ok_runs_Has_1 (k : Nat) : FnOK Go.Proofs.Try.prog gl 28 (sig_runs_Has_1 k) :=
  fun_ok (G := G_runs_Has_1 k) (ps := (sig_runs_Has_1 k).ps) (rs := (sig_runs_Has_1 k).rs) (F := (sig_runs_Has_1 k).F) mix_ok Go.Proofs.Try.func28 (c := body_runs_Has_1) (by kernel_rfl) (by kernel_rfl) (bodyok_runs_Has_1 k) (rfl_runs_Has_1 k)

noncomputable def body_slices_BinarySearchFunc_uint16_Has_1 : Code := bodyOf Go.Proofs.Try.f27
noncomputable def lb_slices_BinarySearchFunc_uint16_Has_1_4 : Code := (loops body_slices_BinarySearchFunc_uint16_Has_1).getD 0 .skip
noncomputable def ls_slices_BinarySearchFunc_uint16_Has_1_4 (k : Nat) : LSig := ⟨⟨[], [(0, .d (.sl (.st (.pair (.int .u16) (.int .u16))))), (1, .d (.int .u16)), (2, .fn 28 [] []), (8, .d (.int .i64)), (9, .d (.int .i64)), (10, .d (.int .i64))]⟩, [(.exit 0, ⟨[], [(0, .d (.sl (.st (.pair (.int .u16) (.int .u16))))), (1, .d (.int .u16)), (2, .fn 28 [] []), (8, .d (.int .i64)), (9, .d (.int .i64))]⟩)], fun x => slices_BinarySearchFunc_uint16_Has_1_l0 k x.1 x.2.1 x.2.2.1 x.2.2.2.1 x.2.2.2.2⟩
noncomputable def sig_slices_BinarySearchFunc_uint16_Has_1 (k : Nat) : Sig := ⟨⟨[], [(0, .d (.sl (.st (.pair (.int .u16) (.int .u16))))), (1, .d (.int .u16)), (2, .fn 28 [] [])]⟩, ⟨[], [(0, .d (.int .i64)), (1, .d .bool)]⟩, fun x => slices_BinarySearchFunc_uint16_Has_1 k x.1 x.2⟩
noncomputable def G_slices_BinarySearchFunc_uint16_Has_1 (k : Nat) : Gl := { m := 0, n := 49, gl := gl, ty := ty, fz := fz, fn := fnTab [(28, sig_runs_Has_1 k)], lp := lpTab 0 [(4, ls_slices_BinarySearchFunc_uint16_Has_1_4 k)] }
theorem rfl_slices_BinarySearchFunc_uint16_Has_1_4 (k : Nat) (x) : (ls_slices_BinarySearchFunc_uint16_Has_1_4 (k + 1)).F x = (ev (G_slices_BinarySearchFunc_uint16_Has_1 k) lb_slices_BinarySearchFunc_uint16_Has_1_4 (head (ls_slices_BinarySearchFunc_uint16_Has_1_4 k).hd (ofTup (ls_slices_BinarySearchFunc_uint16_Has_1_4 k).hd.shs x))).den (roundEnd 0 (ls_slices_BinarySearchFunc_uint16_Has_1_4 k)) := by kernel_rfl
theorem rfl_slices_BinarySearchFunc_uint16_Has_1 (k : Nat) (x) : (sig_slices_BinarySearchFunc_uint16_Has_1 k).F x = (ev (G_slices_BinarySearchFunc_uint16_Has_1 k) body_slices_BinarySearchFunc_uint16_Has_1 (head (sig_slices_BinarySearchFunc_uint16_Has_1 k).ps (ofTup (sig_slices_BinarySearchFunc_uint16_Has_1 k).ps.shs x))).den (funEnd (G_slices_BinarySearchFunc_uint16_Has_1 k) Go.Proofs.Try.f27.results.toList 0 (sig_slices_BinarySearchFunc_uint16_Has_1 k).rs) := by kernel_rfl
theorem calls_slices_BinarySearchFunc_uint16_Has_1 (k : Nat) : CallsOK Go.Proofs.Try.prog gl (G_slices_BinarySearchFunc_uint16_Has_1 k) := callsOK_tab (G := G_slices_BinarySearchFunc_uint16_Has_1 k) (tab := [(28, sig_runs_Has_1 k)]) (all_cons (ok_runs_Has_1 k) all_nil)
theorem loop_slices_BinarySearchFunc_uint16_Has_1_4 (C : Ctx) (hP : C.P = Go.Proofs.Try.prog) (hgl : C.gl = gl) (hm : C.m = 0) (hN : C.N = Go.Proofs.Try.f27.ntmps) (k : Nat) : LoopOK C (G_slices_BinarySearchFunc_uint16_Has_1 k) lb_slices_BinarySearchFunc_uint16_Has_1_4 :=
  LoopOK.of (by rw [hP]; exact mix_ok) (hd := (ls_slices_BinarySearchFunc_uint16_Has_1_4 0).hd) (ex := (ls_slices_BinarySearchFunc_uint16_Has_1_4 0).ex) (F := fun k => (ls_slices_BinarySearchFunc_uint16_Has_1_4 k).F) (Gk := G_slices_BinarySearchFunc_uint16_Has_1) (fun k => gok hP hgl hm hN rfl (by kernel_rfl) rfl (ty_ok _ rfl) (calls_slices_BinarySearchFunc_uint16_Has_1 k)) (fun k => loops_all (n := 0) (by kernel_rfl) lt_all0) (fun x => rfl)
    (fun k x => by rw [hm]; exact rfl_slices_BinarySearchFunc_uint16_Has_1_4 k x) k (fun S => by rw [hm]; kernel_rfl)
theorem bodyok_slices_BinarySearchFunc_uint16_Has_1 (k : Nat) : BodyOK Go.Proofs.Try.prog gl (G_slices_BinarySearchFunc_uint16_Has_1 k) Go.Proofs.Try.f27 body_slices_BinarySearchFunc_uint16_Has_1 (sig_slices_BinarySearchFunc_uint16_Has_1 k).ps (sig_slices_BinarySearchFunc_uint16_Has_1 k).rs :=
  ⟨rfl, by kernel_rfl, rfl, ty_ok _ rfl, calls_slices_BinarySearchFunc_uint16_Has_1 k, by kernel_rfl, by kernel_rfl, fun C hP hgl hm hN => loops_all (n := 1) (by kernel_rfl) (lt_allS lt_all0 (loop_slices_BinarySearchFunc_uint16_Has_1_4 C hP hgl hm hN k))⟩
theorem ok_slices_BinarySearchFunc_uint16_Has_1 (k : Nat) : FnOK Go.Proofs.Try.prog gl 27 (sig_slices_BinarySearchFunc_uint16_Has_1 k) :=
  fun_ok (G := G_slices_BinarySearchFunc_uint16_Has_1 k) (ps := (sig_slices_BinarySearchFunc_uint16_Has_1 k).ps) (rs := (sig_slices_BinarySearchFunc_uint16_Has_1 k).rs) (F := (sig_slices_BinarySearchFunc_uint16_Has_1 k).F) mix_ok Go.Proofs.Try.func27 (c := body_slices_BinarySearchFunc_uint16_Has_1) (by kernel_rfl) (by kernel_rfl) (bodyok_slices_BinarySearchFunc_uint16_Has_1 k) (rfl_slices_BinarySearchFunc_uint16_Has_1 k)

noncomputable def body_runs_Has : Code := bodyOf Go.Proofs.Try.f15
noncomputable def sig_runs_Has (k : Nat) : Sig := ⟨⟨[], [(0, .d (.sl (.st (.pair (.int .u16) (.int .u16))))), (1, .d (.int .u16))]⟩, ⟨[], [(0, .d .bool)]⟩, fun x => runs_Has k x.1 x.2⟩
noncomputable def G_runs_Has (k : Nat) : Gl := { m := 0, n := 29, gl := gl, ty := ty, fz := fz, fn := fnTab [(27, sig_slices_BinarySearchFunc_uint16_Has_1 k), (21, sig_runs_end k)], lp := lpTab 0 [] }
theorem rfl_runs_Has (k : Nat) (x) : (sig_runs_Has k).F x = (ev (G_runs_Has k) body_runs_Has (head (sig_runs_Has k).ps (ofTup (sig_runs_Has k).ps.shs x))).den (funEnd (G_runs_Has k) Go.Proofs.Try.f15.results.toList 0 (sig_runs_Has k).rs) := by kernel_rfl
theorem calls_runs_Has (k : Nat) : CallsOK Go.Proofs.Try.prog gl (G_runs_Has k) := callsOK_tab (G := G_runs_Has k) (tab := [(27, sig_slices_BinarySearchFunc_uint16_Has_1 k), (21, sig_runs_end k)]) (all_cons (ok_slices_BinarySearchFunc_uint16_Has_1 k) (all_cons (ok_runs_end k) all_nil))
theorem bodyok_runs_Has (k : Nat) : BodyOK Go.Proofs.Try.prog gl (G_runs_Has k) Go.Proofs.Try.f15 body_runs_Has (sig_runs_Has k).ps (sig_runs_Has k).rs :=
  ⟨rfl, by kernel_rfl, rfl, ty_ok _ rfl, calls_runs_Has k, by kernel_rfl, by kernel_rfl, fun C hP hgl hm hN => loops_all (n := 0) (by kernel_rfl) lt_all0⟩
theorem ok_runs_Has (k : Nat) : FnOK Go.Proofs.Try.prog gl 15 (sig_runs_Has k) :=
  fun_ok (G := G_runs_Has k) (ps := (sig_runs_Has k).ps) (rs := (sig_runs_Has k).rs) (F := (sig_runs_Has k).F) mix_ok Go.Proofs.Try.func15 (c := body_runs_Has) (by kernel_rfl) (by kernel_rfl) (bodyok_runs_Has k) (rfl_runs_Has k)

noncomputable def body_isinglasslaw06_RunsLaws : Code := bodyOf Go.Proofs.Try.f4
noncomputable def lb_isinglasslaw06_RunsLaws_8 : Code := (loops body_isinglasslaw06_RunsLaws).getD 0 .skip
noncomputable def ls_isinglasslaw06_RunsLaws_8 (k : Nat) : LSig := ⟨⟨[], [(0, .d (.sl (.st (.pair (.int .u16) (.int .u16))))), (4, .d (.int .i64)), (11, .d (.sl (.st (.pair (.int .u16) (.int .u16))))), (12, .d (.sl (.st (.pair (.int .u16) (.int .u16))))), (86, .d (.st (.pair (.sl (.st (.pair (.int .u16) (.int .u16)))) (.pair (.sl (.st (.pair (.int .u16) (.int .u16)))) (.pair (.sl (.st (.pair (.int .u16) (.int .u16)))) (.sl (.st (.pair (.int .u16) (.int .u16))))))))), (87, .d (.int .i64))]⟩, [(.ret, ⟨[], [(10, .d .bool)]⟩), (.exit 0, ⟨[], [(0, .d (.sl (.st (.pair (.int .u16) (.int .u16))))), (4, .d (.int .i64)), (11, .d (.sl (.st (.pair (.int .u16) (.int .u16))))), (12, .d (.sl (.st (.pair (.int .u16) (.int .u16)))))]⟩)], fun x => isinglasslaw06_RunsLaws_l0 k x.1 x.2.1 x.2.2.1 x.2.2.2.1 x.2.2.2.2.1 x.2.2.2.2.2⟩
noncomputable def sig_isinglasslaw06_RunsLaws (k : Nat) : Sig := ⟨⟨[], [(0, .d (.sl (.st (.pair (.int .u16) (.int .u16))))), (1, .d (.sl (.st (.pair (.int .u16) (.int .u16))))), (2, .d (.int .i64)), (3, .d (.int .i64)), (4, .d (.int .i64))]⟩, ⟨[], [(0, .d .bool)]⟩, fun x => isinglasslaw06_RunsLaws k x.1 x.2.1 x.2.2.1 x.2.2.2.1 x.2.2.2.2⟩
noncomputable def G_isinglasslaw06_RunsLaws (k : Nat) : Gl := { m := 0, n := 145, gl := gl, ty := ty, fz := fz, fn := fnTab [(5, sig_isinglasslaw06_known k), (7, sig_runs_May k), (8, sig_runs_AndNot k), (9, sig_runs_And k), (10, sig_runs_Xor k), (6, sig_runs_Or k), (11, sig_isinglassref06_Same k), (12, sig_runs_Flip k), (13, sig_runs_Select k), (14, sig_runs_Rank k), (16, sig_runs_Len k), (15, sig_runs_Has k)], lp := lpTab 0 [(8, ls_isinglasslaw06_RunsLaws_8 k)] }
theorem rfl_isinglasslaw06_RunsLaws_8 (k : Nat) (x) : (ls_isinglasslaw06_RunsLaws_8 (k + 1)).F x = (ev (G_isinglasslaw06_RunsLaws k) lb_isinglasslaw06_RunsLaws_8 (head (ls_isinglasslaw06_RunsLaws_8 k).hd (ofTup (ls_isinglasslaw06_RunsLaws_8 k).hd.shs x))).den (roundEnd 0 (ls_isinglasslaw06_RunsLaws_8 k)) := by kernel_rfl
theorem rfl_isinglasslaw06_RunsLaws (k : Nat) (x) : (sig_isinglasslaw06_RunsLaws k).F x = (ev (G_isinglasslaw06_RunsLaws k) body_isinglasslaw06_RunsLaws (head (sig_isinglasslaw06_RunsLaws k).ps (ofTup (sig_isinglasslaw06_RunsLaws k).ps.shs x))).den (funEnd (G_isinglasslaw06_RunsLaws k) Go.Proofs.Try.f4.results.toList 0 (sig_isinglasslaw06_RunsLaws k).rs) := by kernel_rfl
theorem calls_isinglasslaw06_RunsLaws (k : Nat) : CallsOK Go.Proofs.Try.prog gl (G_isinglasslaw06_RunsLaws k) := callsOK_tab (G := G_isinglasslaw06_RunsLaws k) (tab := [(5, sig_isinglasslaw06_known k), (7, sig_runs_May k), (8, sig_runs_AndNot k), (9, sig_runs_And k), (10, sig_runs_Xor k), (6, sig_runs_Or k), (11, sig_isinglassref06_Same k), (12, sig_runs_Flip k), (13, sig_runs_Select k), (14, sig_runs_Rank k), (16, sig_runs_Len k), (15, sig_runs_Has k)]) (all_cons (ok_isinglasslaw06_known k) (all_cons (ok_runs_May k) (all_cons (ok_runs_AndNot k) (all_cons (ok_runs_And k) (all_cons (ok_runs_Xor k) (all_cons (ok_runs_Or k) (all_cons (ok_isinglassref06_Same k) (all_cons (ok_runs_Flip k) (all_cons (ok_runs_Select k) (all_cons (ok_runs_Rank k) (all_cons (ok_runs_Len k) (all_cons (ok_runs_Has k) all_nil))))))))))))
theorem loop_isinglasslaw06_RunsLaws_8 (C : Ctx) (hP : C.P = Go.Proofs.Try.prog) (hgl : C.gl = gl) (hm : C.m = 0) (hN : C.N = Go.Proofs.Try.f4.ntmps) (k : Nat) : LoopOK C (G_isinglasslaw06_RunsLaws k) lb_isinglasslaw06_RunsLaws_8 :=
  LoopOK.of (by rw [hP]; exact mix_ok) (hd := (ls_isinglasslaw06_RunsLaws_8 0).hd) (ex := (ls_isinglasslaw06_RunsLaws_8 0).ex) (F := fun k => (ls_isinglasslaw06_RunsLaws_8 k).F) (Gk := G_isinglasslaw06_RunsLaws) (fun k => gok hP hgl hm hN rfl (by kernel_rfl) rfl (ty_ok _ rfl) (calls_isinglasslaw06_RunsLaws k)) (fun k => loops_all (n := 0) (by kernel_rfl) lt_all0) (fun x => rfl)
    (fun k x => by rw [hm]; exact rfl_isinglasslaw06_RunsLaws_8 k x) k (fun S => by rw [hm]; kernel_rfl)
theorem bodyok_isinglasslaw06_RunsLaws (k : Nat) : BodyOK Go.Proofs.Try.prog gl (G_isinglasslaw06_RunsLaws k) Go.Proofs.Try.f4 body_isinglasslaw06_RunsLaws (sig_isinglasslaw06_RunsLaws k).ps (sig_isinglasslaw06_RunsLaws k).rs :=
  ⟨rfl, by kernel_rfl, rfl, ty_ok _ rfl, calls_isinglasslaw06_RunsLaws k, by kernel_rfl, by kernel_rfl, fun C hP hgl hm hN => loops_all (n := 1) (by kernel_rfl) (lt_allS lt_all0 (loop_isinglasslaw06_RunsLaws_8 C hP hgl hm hN k))⟩
theorem ok_isinglasslaw06_RunsLaws (k : Nat) : FnOK Go.Proofs.Try.prog gl 4 (sig_isinglasslaw06_RunsLaws k) :=
  fun_ok (G := G_isinglasslaw06_RunsLaws k) (ps := (sig_isinglasslaw06_RunsLaws k).ps) (rs := (sig_isinglasslaw06_RunsLaws k).rs) (F := (sig_isinglasslaw06_RunsLaws k).F) mix_ok Go.Proofs.Try.func4 (c := body_isinglasslaw06_RunsLaws) (by kernel_rfl) (by kernel_rfl) (bodyok_isinglasslaw06_RunsLaws k) (rfl_isinglasslaw06_RunsLaws k)

end Go.Rx.Try

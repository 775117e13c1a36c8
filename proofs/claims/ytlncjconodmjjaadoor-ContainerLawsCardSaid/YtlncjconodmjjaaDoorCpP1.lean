/- Printed by gen.py: each function comes to its pure function. -/
import Derived.Test.YtlncjconodmjjaaDoorCpP
namespace Go.Rx.Tryd
set_option linter.unusedVariables false
set_option maxRecDepth 100000
noncomputable def body_arrays_May : Code := bodyOf Go.Proofs.Tryd.f64
noncomputable def lb_arrays_May_3 : Code := (loops body_arrays_May).getD 0 .skip
noncomputable def ls_arrays_May_3 (k : Nat) : LSig := ⟨⟨[], [(0, .d (.sl (.int .u16))), (3, .d (.int .i64))]⟩, [(.ret, ⟨[], [(2, .d .bool)]⟩), (.exit 0, ⟨[], []⟩)], fun x => arrays_May_l0 k x.1 x.2⟩
noncomputable def sig_arrays_May (k : Nat) : Sig := ⟨⟨[], [(0, .d (.sl (.int .u16)))]⟩, ⟨[], [(0, .d .bool)]⟩, fun x => arrays_May k x⟩
noncomputable def G_arrays_May (k : Nat) : Gl := { m := 0, n := 20, gl := gl, ty := ty, fz := fz, fn := fnTab [], lp := lpTab 0 [(3, ls_arrays_May_3 k)] }
theorem rfl_arrays_May_3 (k : Nat) (x) : (ls_arrays_May_3 (k + 1)).F x = (ev (G_arrays_May k) lb_arrays_May_3 (head (ls_arrays_May_3 k).hd (ofTup (ls_arrays_May_3 k).hd.shs x))).den (roundEnd 0 (ls_arrays_May_3 k)) := by kernel_rfl
theorem rfl_arrays_May (k : Nat) (x) : (sig_arrays_May k).F x = (ev (G_arrays_May k) body_arrays_May (head (sig_arrays_May k).ps (ofTup (sig_arrays_May k).ps.shs x))).den (funEnd (G_arrays_May k) Go.Proofs.Tryd.f64.results.toList 0 (sig_arrays_May k).rs) := by kernel_rfl
theorem calls_arrays_May (k : Nat) : CallsOK Go.Proofs.Tryd.prog gl (G_arrays_May k) := callsOK_tab (G := G_arrays_May k) (tab := []) all_nil
theorem loop_arrays_May_3 (C : Ctx) (hP : C.P = Go.Proofs.Tryd.prog) (hgl : C.gl = gl) (hm : C.m = 0) (hN : C.N = Go.Proofs.Tryd.f64.ntmps) (k : Nat) : LoopOK C (G_arrays_May k) lb_arrays_May_3 :=
  LoopOK.of (by rw [hP]; exact mix_ok) (hd := (ls_arrays_May_3 0).hd) (ex := (ls_arrays_May_3 0).ex) (F := fun k => (ls_arrays_May_3 k).F) (Gk := G_arrays_May) (fun k => gok hP hgl hm hN rfl (by kernel_rfl) rfl (ty_ok _ rfl) (calls_arrays_May k)) (fun k => loops_all (n := 0) (by kernel_rfl) lt_all0) (fun x => rfl)
    (fun k x => by rw [hm]; exact rfl_arrays_May_3 k x) k (fun S => by rw [hm]; kernel_rfl)
theorem bodyok_arrays_May (k : Nat) : BodyOK Go.Proofs.Tryd.prog gl (G_arrays_May k) Go.Proofs.Tryd.f64 body_arrays_May (sig_arrays_May k).ps (sig_arrays_May k).rs :=
  ⟨rfl, by kernel_rfl, rfl, ty_ok _ rfl, calls_arrays_May k, by kernel_rfl, by kernel_rfl, fun C hP hgl hm hN => loops_all (n := 1) (by kernel_rfl) (lt_allS lt_all0 (loop_arrays_May_3 C hP hgl hm hN k))⟩
theorem ok_arrays_May (k : Nat) : FnOK Go.Proofs.Tryd.prog gl 64 (sig_arrays_May k) :=
  fun_ok (G := G_arrays_May k) (ps := (sig_arrays_May k).ps) (rs := (sig_arrays_May k).rs) (F := (sig_arrays_May k).F) mix_ok Go.Proofs.Tryd.func64 (c := body_arrays_May) (by kernel_rfl) (by kernel_rfl) (bodyok_arrays_May k) (rfl_arrays_May k)

noncomputable def body_slices_Clone_uint16 : Code := bodyOf Go.Proofs.Tryd.f43
noncomputable def sig_slices_Clone_uint16 (k : Nat) : Sig := ⟨⟨[], [(0, .d (.sl (.int .u16)))]⟩, ⟨[(.tmp 0, .grow false (.int .u16) 40)], [(0, .own 0)]⟩, fun x => slices_Clone_uint16 k x⟩
noncomputable def G_slices_Clone_uint16 (k : Nat) : Gl := { m := 0, n := 8, gl := gl, ty := ty, fz := fz, fn := fnTab [], lp := lpTab 0 [] }
theorem rfl_slices_Clone_uint16_cons (k : Nat) (x l) : (sig_slices_Clone_uint16 k).F (x :: l) = (ev (G_slices_Clone_uint16 k) body_slices_Clone_uint16 (head (sig_slices_Clone_uint16 k).ps (ofTup (sig_slices_Clone_uint16 k).ps.shs (x :: l)))).den (funEnd (G_slices_Clone_uint16 k) Go.Proofs.Tryd.f43.results.toList 0 (sig_slices_Clone_uint16 k).rs) := by kernel_rfl
theorem rfl_slices_Clone_uint16_nil (k : Nat) : (ev (G_slices_Clone_uint16 k) (ambR0 body_slices_Clone_uint16) (head (sig_slices_Clone_uint16 k).ps (ofTup (sig_slices_Clone_uint16 k).ps.shs []))).den (ambMid (G_slices_Clone_uint16 k) (ambT body_slices_Clone_uint16) (ambR1 body_slices_Clone_uint16) (ambA body_slices_Clone_uint16) (ambB body_slices_Clone_uint16) (funEnd (G_slices_Clone_uint16 k) Go.Proofs.Tryd.f43.results.toList 0 (sig_slices_Clone_uint16 k).rs)) = some [] := by kernel_rfl
theorem shape_slices_Clone_uint16 : body_slices_Clone_uint16 = .seq (ambR0 body_slices_Clone_uint16) (.seq (.seq (ambR1 body_slices_Clone_uint16) (.cond (.tmp (ambT body_slices_Clone_uint16)) (ambA body_slices_Clone_uint16) .skip)) (ambB body_slices_Clone_uint16)) := by kernel_rfl
theorem calls_slices_Clone_uint16 (k : Nat) : CallsOK Go.Proofs.Tryd.prog gl (G_slices_Clone_uint16 k) := callsOK_tab (G := G_slices_Clone_uint16 k) (tab := []) all_nil
theorem bodyok_slices_Clone_uint16 (k : Nat) : BodyOK Go.Proofs.Tryd.prog gl (G_slices_Clone_uint16 k) Go.Proofs.Tryd.f43 body_slices_Clone_uint16 (sig_slices_Clone_uint16 k).ps (sig_slices_Clone_uint16 k).rs :=
  ⟨rfl, by kernel_rfl, rfl, ty_ok _ rfl, calls_slices_Clone_uint16 k, by kernel_rfl, by kernel_rfl, fun C hP hgl hm hN => loops_all (n := 0) (by kernel_rfl) lt_all0⟩
theorem ok_slices_Clone_uint16 (k : Nat) : FnOK Go.Proofs.Tryd.prog gl 43 (sig_slices_Clone_uint16 k) :=
  clone_own_ok (G := G_slices_Clone_uint16 k) (e := (.int .u16)) (F := slices_Clone_uint16 k) mix_ok Go.Proofs.Tryd.func43 (c := body_slices_Clone_uint16) (by kernel_rfl) (by kernel_rfl) (bodyok_slices_Clone_uint16 k) shape_slices_Clone_uint16 (by kernel_rfl) (by kernel_rfl) (by kernel_rfl) (by kernel_rfl) (rfl_slices_Clone_uint16_nil k) (rfl_slices_Clone_uint16_cons k) rfl

noncomputable def body_container_OfArray : Code := bodyOf Go.Proofs.Tryd.f31
noncomputable def sig_container_OfArray (k : Nat) : Sig := ⟨⟨[], [(0, .d (.sl (.int .u16)))]⟩, ⟨[], [(0, .d (.st (.pair (.int .u8) (.pair (.sl (.int .u16)) (.pair (.sl (.int .u64)) (.sl (.st (.pair (.int .u16) (.int .u16))))))))), (1, .d .bool)]⟩, fun x => container_OfArray k x⟩
noncomputable def G_container_OfArray (k : Nat) : Gl := { m := 0, n := 11, gl := gl, ty := ty, fz := fz, fn := fnTab [(64, sig_arrays_May k), (43, sig_slices_Clone_uint16 k)], lp := lpTab 0 [] }
theorem rfl_container_OfArray (k : Nat) (x) : (sig_container_OfArray k).F x = (ev (G_container_OfArray k) body_container_OfArray (head (sig_container_OfArray k).ps (ofTup (sig_container_OfArray k).ps.shs x))).den (funEnd (G_container_OfArray k) Go.Proofs.Tryd.f31.results.toList 0 (sig_container_OfArray k).rs) := by kernel_rfl
theorem calls_container_OfArray (k : Nat) : CallsOK Go.Proofs.Tryd.prog gl (G_container_OfArray k) := callsOK_tab (G := G_container_OfArray k) (tab := [(64, sig_arrays_May k), (43, sig_slices_Clone_uint16 k)]) (all_cons (ok_arrays_May k) (all_cons (ok_slices_Clone_uint16 k) all_nil))
theorem bodyok_container_OfArray (k : Nat) : BodyOK Go.Proofs.Tryd.prog gl (G_container_OfArray k) Go.Proofs.Tryd.f31 body_container_OfArray (sig_container_OfArray k).ps (sig_container_OfArray k).rs :=
  ⟨rfl, by kernel_rfl, rfl, ty_ok _ rfl, calls_container_OfArray k, by kernel_rfl, by kernel_rfl, fun C hP hgl hm hN => loops_all (n := 0) (by kernel_rfl) lt_all0⟩
theorem ok_container_OfArray (k : Nat) : FnOK Go.Proofs.Tryd.prog gl 31 (sig_container_OfArray k) :=
  fun_ok (G := G_container_OfArray k) (ps := (sig_container_OfArray k).ps) (rs := (sig_container_OfArray k).rs) (F := (sig_container_OfArray k).F) mix_ok Go.Proofs.Tryd.func31 (c := body_container_OfArray) (by kernel_rfl) (by kernel_rfl) (bodyok_container_OfArray k) (rfl_container_OfArray k)

noncomputable def body_container_Container_Kind : Code := bodyOf Go.Proofs.Tryd.f22
noncomputable def sig_container_Container_Kind (k : Nat) : Sig := ⟨⟨[], [(0, .d (.st (.pair (.int .u8) (.pair (.sl (.int .u16)) (.pair (.sl (.int .u64)) (.sl (.st (.pair (.int .u16) (.int .u16)))))))))]⟩, ⟨[], [(0, .d (.int .u8))]⟩, fun x => container_Container_Kind k x⟩
noncomputable def G_container_Container_Kind (k : Nat) : Gl := { m := 0, n := 6, gl := gl, ty := ty, fz := fz, fn := fnTab [], lp := lpTab 0 [] }
theorem rfl_container_Container_Kind (k : Nat) (x) : (sig_container_Container_Kind k).F x = (ev (G_container_Container_Kind k) body_container_Container_Kind (head (sig_container_Container_Kind k).ps (ofTup (sig_container_Container_Kind k).ps.shs x))).den (funEnd (G_container_Container_Kind k) Go.Proofs.Tryd.f22.results.toList 0 (sig_container_Container_Kind k).rs) := by kernel_rfl
theorem calls_container_Container_Kind (k : Nat) : CallsOK Go.Proofs.Tryd.prog gl (G_container_Container_Kind k) := callsOK_tab (G := G_container_Container_Kind k) (tab := []) all_nil
theorem bodyok_container_Container_Kind (k : Nat) : BodyOK Go.Proofs.Tryd.prog gl (G_container_Container_Kind k) Go.Proofs.Tryd.f22 body_container_Container_Kind (sig_container_Container_Kind k).ps (sig_container_Container_Kind k).rs :=
  ⟨rfl, by kernel_rfl, rfl, ty_ok _ rfl, calls_container_Container_Kind k, by kernel_rfl, by kernel_rfl, fun C hP hgl hm hN => loops_all (n := 0) (by kernel_rfl) lt_all0⟩
theorem ok_container_Container_Kind (k : Nat) : FnOK Go.Proofs.Tryd.prog gl 22 (sig_container_Container_Kind k) :=
  fun_ok (G := G_container_Container_Kind k) (ps := (sig_container_Container_Kind k).ps) (rs := (sig_container_Container_Kind k).rs) (F := (sig_container_Container_Kind k).F) mix_ok Go.Proofs.Tryd.func22 (c := body_container_Container_Kind) (by kernel_rfl) (by kernel_rfl) (bodyok_container_Container_Kind k) (rfl_container_Container_Kind k)

noncomputable def body_cmp_isNaN_uint16 : Code := bodyOf Go.Proofs.Tryd.f105
noncomputable def sig_cmp_isNaN_uint16 (k : Nat) : Sig := ⟨⟨[], [(0, .d (.int .u16))]⟩, ⟨[], [(0, .d .bool)]⟩, fun x => cmp_isNaN_uint16 k x⟩
noncomputable def G_cmp_isNaN_uint16 (k : Nat) : Gl := { m := 0, n := 6, gl := gl, ty := ty, fz := fz, fn := fnTab [], lp := lpTab 0 [] }
theorem rfl_cmp_isNaN_uint16 (k : Nat) (x) : (sig_cmp_isNaN_uint16 k).F x = (ev (G_cmp_isNaN_uint16 k) body_cmp_isNaN_uint16 (head (sig_cmp_isNaN_uint16 k).ps (ofTup (sig_cmp_isNaN_uint16 k).ps.shs x))).den (funEnd (G_cmp_isNaN_uint16 k) Go.Proofs.Tryd.f105.results.toList 0 (sig_cmp_isNaN_uint16 k).rs) := by kernel_rfl
theorem calls_cmp_isNaN_uint16 (k : Nat) : CallsOK Go.Proofs.Tryd.prog gl (G_cmp_isNaN_uint16 k) := callsOK_tab (G := G_cmp_isNaN_uint16 k) (tab := []) all_nil
theorem bodyok_cmp_isNaN_uint16 (k : Nat) : BodyOK Go.Proofs.Tryd.prog gl (G_cmp_isNaN_uint16 k) Go.Proofs.Tryd.f105 body_cmp_isNaN_uint16 (sig_cmp_isNaN_uint16 k).ps (sig_cmp_isNaN_uint16 k).rs :=
  ⟨rfl, by kernel_rfl, rfl, ty_ok _ rfl, calls_cmp_isNaN_uint16 k, by kernel_rfl, by kernel_rfl, fun C hP hgl hm hN => loops_all (n := 0) (by kernel_rfl) lt_all0⟩
theorem ok_cmp_isNaN_uint16 (k : Nat) : FnOK Go.Proofs.Tryd.prog gl 105 (sig_cmp_isNaN_uint16 k) :=
  fun_ok (G := G_cmp_isNaN_uint16 k) (ps := (sig_cmp_isNaN_uint16 k).ps) (rs := (sig_cmp_isNaN_uint16 k).rs) (F := (sig_cmp_isNaN_uint16 k).F) mix_ok Go.Proofs.Tryd.func105 (c := body_cmp_isNaN_uint16) (by kernel_rfl) (by kernel_rfl) (bodyok_cmp_isNaN_uint16 k) (rfl_cmp_isNaN_uint16 k)

noncomputable def body_cmp_Less_uint16 : Code := bodyOf Go.Proofs.Tryd.f103
noncomputable def sig_cmp_Less_uint16 (k : Nat) : Sig := ⟨⟨[], [(0, .d (.int .u16)), (1, .d (.int .u16))]⟩, ⟨[], [(0, .d .bool)]⟩, fun x => cmp_Less_uint16 k x.1 x.2⟩
noncomputable def G_cmp_Less_uint16 (k : Nat) : Gl := { m := 0, n := 17, gl := gl, ty := ty, fz := fz, fn := fnTab [(105, sig_cmp_isNaN_uint16 k)], lp := lpTab 0 [] }
theorem rfl_cmp_Less_uint16 (k : Nat) (x) : (sig_cmp_Less_uint16 k).F x = (ev (G_cmp_Less_uint16 k) body_cmp_Less_uint16 (head (sig_cmp_Less_uint16 k).ps (ofTup (sig_cmp_Less_uint16 k).ps.shs x))).den (funEnd (G_cmp_Less_uint16 k) Go.Proofs.Tryd.f103.results.toList 0 (sig_cmp_Less_uint16 k).rs) := by kernel_rfl
theorem calls_cmp_Less_uint16 (k : Nat) : CallsOK Go.Proofs.Tryd.prog gl (G_cmp_Less_uint16 k) := callsOK_tab (G := G_cmp_Less_uint16 k) (tab := [(105, sig_cmp_isNaN_uint16 k)]) (all_cons (ok_cmp_isNaN_uint16 k) all_nil)
theorem bodyok_cmp_Less_uint16 (k : Nat) : BodyOK Go.Proofs.Tryd.prog gl (G_cmp_Less_uint16 k) Go.Proofs.Tryd.f103 body_cmp_Less_uint16 (sig_cmp_Less_uint16 k).ps (sig_cmp_Less_uint16 k).rs :=
  ⟨rfl, by kernel_rfl, rfl, ty_ok _ rfl, calls_cmp_Less_uint16 k, by kernel_rfl, by kernel_rfl, fun C hP hgl hm hN => loops_all (n := 0) (by kernel_rfl) lt_all0⟩
theorem ok_cmp_Less_uint16 (k : Nat) : FnOK Go.Proofs.Tryd.prog gl 103 (sig_cmp_Less_uint16 k) :=
  fun_ok (G := G_cmp_Less_uint16 k) (ps := (sig_cmp_Less_uint16 k).ps) (rs := (sig_cmp_Less_uint16 k).rs) (F := (sig_cmp_Less_uint16 k).F) mix_ok Go.Proofs.Tryd.func103 (c := body_cmp_Less_uint16) (by kernel_rfl) (by kernel_rfl) (bodyok_cmp_Less_uint16 k) (rfl_cmp_Less_uint16 k)

noncomputable def body_slices_isNaN_uint16 : Code := bodyOf Go.Proofs.Tryd.f104
noncomputable def sig_slices_isNaN_uint16 (k : Nat) : Sig := ⟨⟨[], [(0, .d (.int .u16))]⟩, ⟨[], [(0, .d .bool)]⟩, fun x => slices_isNaN_uint16 k x⟩
noncomputable def G_slices_isNaN_uint16 (k : Nat) : Gl := { m := 0, n := 6, gl := gl, ty := ty, fz := fz, fn := fnTab [], lp := lpTab 0 [] }
theorem rfl_slices_isNaN_uint16 (k : Nat) (x) : (sig_slices_isNaN_uint16 k).F x = (ev (G_slices_isNaN_uint16 k) body_slices_isNaN_uint16 (head (sig_slices_isNaN_uint16 k).ps (ofTup (sig_slices_isNaN_uint16 k).ps.shs x))).den (funEnd (G_slices_isNaN_uint16 k) Go.Proofs.Tryd.f104.results.toList 0 (sig_slices_isNaN_uint16 k).rs) := by kernel_rfl
theorem calls_slices_isNaN_uint16 (k : Nat) : CallsOK Go.Proofs.Tryd.prog gl (G_slices_isNaN_uint16 k) := callsOK_tab (G := G_slices_isNaN_uint16 k) (tab := []) all_nil
theorem bodyok_slices_isNaN_uint16 (k : Nat) : BodyOK Go.Proofs.Tryd.prog gl (G_slices_isNaN_uint16 k) Go.Proofs.Tryd.f104 body_slices_isNaN_uint16 (sig_slices_isNaN_uint16 k).ps (sig_slices_isNaN_uint16 k).rs :=
  ⟨rfl, by kernel_rfl, rfl, ty_ok _ rfl, calls_slices_isNaN_uint16 k, by kernel_rfl, by kernel_rfl, fun C hP hgl hm hN => loops_all (n := 0) (by kernel_rfl) lt_all0⟩
theorem ok_slices_isNaN_uint16 (k : Nat) : FnOK Go.Proofs.Tryd.prog gl 104 (sig_slices_isNaN_uint16 k) :=
  fun_ok (G := G_slices_isNaN_uint16 k) (ps := (sig_slices_isNaN_uint16 k).ps) (rs := (sig_slices_isNaN_uint16 k).rs) (F := (sig_slices_isNaN_uint16 k).F) mix_ok Go.Proofs.Tryd.func104 (c := body_slices_isNaN_uint16) (by kernel_rfl) (by kernel_rfl) (bodyok_slices_isNaN_uint16 k) (rfl_slices_isNaN_uint16 k)

noncomputable def body_slices_BinarySearch_uint16 : Code := bodyOf Go.Proofs.Tryd.f100
noncomputable def lb_slices_BinarySearch_uint16_4 : Code := (loops body_slices_BinarySearch_uint16).getD 0 .skip
noncomputable def ls_slices_BinarySearch_uint16_4 (k : Nat) : LSig := ⟨⟨[], [(0, .d (.sl (.int .u16))), (1, .d (.int .u16)), (6, .d (.int .i64)), (7, .d (.int .i64)), (8, .d (.int .i64))]⟩, [(.exit 0, ⟨[], [(0, .d (.sl (.int .u16))), (1, .d (.int .u16)), (6, .d (.int .i64)), (7, .d (.int .i64))]⟩)], fun x => slices_BinarySearch_uint16_l0 k x.1 x.2.1 x.2.2.1 x.2.2.2.1 x.2.2.2.2⟩
noncomputable def sig_slices_BinarySearch_uint16 (k : Nat) : Sig := ⟨⟨[], [(0, .d (.sl (.int .u16))), (1, .d (.int .u16))]⟩, ⟨[], [(0, .d (.int .i64)), (1, .d .bool)]⟩, fun x => slices_BinarySearch_uint16 k x.1 x.2⟩
noncomputable def G_slices_BinarySearch_uint16 (k : Nat) : Gl := { m := 0, n := 54, gl := gl, ty := ty, fz := fz, fn := fnTab [(103, sig_cmp_Less_uint16 k), (104, sig_slices_isNaN_uint16 k)], lp := lpTab 0 [(4, ls_slices_BinarySearch_uint16_4 k)] }
theorem rfl_slices_BinarySearch_uint16_4 (k : Nat) (x) : (ls_slices_BinarySearch_uint16_4 (k + 1)).F x = (ev (G_slices_BinarySearch_uint16 k) lb_slices_BinarySearch_uint16_4 (head (ls_slices_BinarySearch_uint16_4 k).hd (ofTup (ls_slices_BinarySearch_uint16_4 k).hd.shs x))).den (roundEnd 0 (ls_slices_BinarySearch_uint16_4 k)) := by kernel_rfl
theorem rfl_slices_BinarySearch_uint16 (k : Nat) (x) : (sig_slices_BinarySearch_uint16 k).F x = (ev (G_slices_BinarySearch_uint16 k) body_slices_BinarySearch_uint16 (head (sig_slices_BinarySearch_uint16 k).ps (ofTup (sig_slices_BinarySearch_uint16 k).ps.shs x))).den (funEnd (G_slices_BinarySearch_uint16 k) Go.Proofs.Tryd.f100.results.toList 0 (sig_slices_BinarySearch_uint16 k).rs) := by kernel_rfl
theorem calls_slices_BinarySearch_uint16 (k : Nat) : CallsOK Go.Proofs.Tryd.prog gl (G_slices_BinarySearch_uint16 k) := callsOK_tab (G := G_slices_BinarySearch_uint16 k) (tab := [(103, sig_cmp_Less_uint16 k), (104, sig_slices_isNaN_uint16 k)]) (all_cons (ok_cmp_Less_uint16 k) (all_cons (ok_slices_isNaN_uint16 k) all_nil))
theorem loop_slices_BinarySearch_uint16_4 (C : Ctx) (hP : C.P = Go.Proofs.Tryd.prog) (hgl : C.gl = gl) (hm : C.m = 0) (hN : C.N = Go.Proofs.Tryd.f100.ntmps) (k : Nat) : LoopOK C (G_slices_BinarySearch_uint16 k) lb_slices_BinarySearch_uint16_4 :=
  LoopOK.of (by rw [hP]; exact mix_ok) (hd := (ls_slices_BinarySearch_uint16_4 0).hd) (ex := (ls_slices_BinarySearch_uint16_4 0).ex) (F := fun k => (ls_slices_BinarySearch_uint16_4 k).F) (Gk := G_slices_BinarySearch_uint16) (fun k => gok hP hgl hm hN rfl (by kernel_rfl) rfl (ty_ok _ rfl) (calls_slices_BinarySearch_uint16 k)) (fun k => loops_all (n := 0) (by kernel_rfl) lt_all0) (fun x => rfl)
    (fun k x => by rw [hm]; exact rfl_slices_BinarySearch_uint16_4 k x) k (fun S => by rw [hm]; kernel_rfl)
theorem bodyok_slices_BinarySearch_uint16 (k : Nat) : BodyOK Go.Proofs.Tryd.prog gl (G_slices_BinarySearch_uint16 k) Go.Proofs.Tryd.f100 body_slices_BinarySearch_uint16 (sig_slices_BinarySearch_uint16 k).ps (sig_slices_BinarySearch_uint16 k).rs :=
  ⟨rfl, by kernel_rfl, rfl, ty_ok _ rfl, calls_slices_BinarySearch_uint16 k, by kernel_rfl, by kernel_rfl, fun C hP hgl hm hN => loops_all (n := 1) (by kernel_rfl) (lt_allS lt_all0 (loop_slices_BinarySearch_uint16_4 C hP hgl hm hN k))⟩
theorem ok_slices_BinarySearch_uint16 (k : Nat) : FnOK Go.Proofs.Tryd.prog gl 100 (sig_slices_BinarySearch_uint16 k) :=
  fun_ok (G := G_slices_BinarySearch_uint16 k) (ps := (sig_slices_BinarySearch_uint16 k).ps) (rs := (sig_slices_BinarySearch_uint16 k).rs) (F := (sig_slices_BinarySearch_uint16 k).F) mix_ok Go.Proofs.Tryd.func100 (c := body_slices_BinarySearch_uint16) (by kernel_rfl) (by kernel_rfl) (bodyok_slices_BinarySearch_uint16 k) (rfl_slices_BinarySearch_uint16 k)

noncomputable def body_arrays_Find : Code := bodyOf Go.Proofs.Tryd.f97
noncomputable def sig_arrays_Find (k : Nat) : Sig := ⟨⟨[], [(0, .d (.sl (.int .u16))), (1, .d (.int .u16))]⟩, ⟨[], [(0, .d (.int .i64)), (1, .d .bool)]⟩, fun x => arrays_Find k x.1 x.2⟩
noncomputable def G_arrays_Find (k : Nat) : Gl := { m := 0, n := 11, gl := gl, ty := ty, fz := fz, fn := fnTab [(100, sig_slices_BinarySearch_uint16 k)], lp := lpTab 0 [] }
theorem rfl_arrays_Find (k : Nat) (x) : (sig_arrays_Find k).F x = (ev (G_arrays_Find k) body_arrays_Find (head (sig_arrays_Find k).ps (ofTup (sig_arrays_Find k).ps.shs x))).den (funEnd (G_arrays_Find k) Go.Proofs.Tryd.f97.results.toList 0 (sig_arrays_Find k).rs) := by kernel_rfl
theorem calls_arrays_Find (k : Nat) : CallsOK Go.Proofs.Tryd.prog gl (G_arrays_Find k) := callsOK_tab (G := G_arrays_Find k) (tab := [(100, sig_slices_BinarySearch_uint16 k)]) (all_cons (ok_slices_BinarySearch_uint16 k) all_nil)
theorem bodyok_arrays_Find (k : Nat) : BodyOK Go.Proofs.Tryd.prog gl (G_arrays_Find k) Go.Proofs.Tryd.f97 body_arrays_Find (sig_arrays_Find k).ps (sig_arrays_Find k).rs :=
  ⟨rfl, by kernel_rfl, rfl, ty_ok _ rfl, calls_arrays_Find k, by kernel_rfl, by kernel_rfl, fun C hP hgl hm hN => loops_all (n := 0) (by kernel_rfl) lt_all0⟩
theorem ok_arrays_Find (k : Nat) : FnOK Go.Proofs.Tryd.prog gl 97 (sig_arrays_Find k) :=
  fun_ok (G := G_arrays_Find k) (ps := (sig_arrays_Find k).ps) (rs := (sig_arrays_Find k).rs) (F := (sig_arrays_Find k).F) mix_ok Go.Proofs.Tryd.func97 (c := body_arrays_Find) (by kernel_rfl) (by kernel_rfl) (bodyok_arrays_Find k) (rfl_arrays_Find k)

noncomputable def body_container_Container_arrayHas : Code := bodyOf Go.Proofs.Tryd.f75
noncomputable def sig_container_Container_arrayHas (k : Nat) : Sig := ⟨⟨[], [(0, .d (.st (.pair (.int .u8) (.pair (.sl (.int .u16)) (.pair (.sl (.int .u64)) (.sl (.st (.pair (.int .u16) (.int .u16))))))))), (1, .d (.int .u16))]⟩, ⟨[], [(0, .d .bool)]⟩, fun x => container_Container_arrayHas k x.1 x.2⟩
noncomputable def G_container_Container_arrayHas (k : Nat) : Gl := { m := 0, n := 15, gl := gl, ty := ty, fz := fz, fn := fnTab [(97, sig_arrays_Find k)], lp := lpTab 0 [] }
theorem rfl_container_Container_arrayHas (k : Nat) (x) : (sig_container_Container_arrayHas k).F x = (ev (G_container_Container_arrayHas k) body_container_Container_arrayHas (head (sig_container_Container_arrayHas k).ps (ofTup (sig_container_Container_arrayHas k).ps.shs x))).den (funEnd (G_container_Container_arrayHas k) Go.Proofs.Tryd.f75.results.toList 0 (sig_container_Container_arrayHas k).rs) := by kernel_rfl
theorem calls_container_Container_arrayHas (k : Nat) : CallsOK Go.Proofs.Tryd.prog gl (G_container_Container_arrayHas k) := callsOK_tab (G := G_container_Container_arrayHas k) (tab := [(97, sig_arrays_Find k)]) (all_cons (ok_arrays_Find k) all_nil)
theorem bodyok_container_Container_arrayHas (k : Nat) : BodyOK Go.Proofs.Tryd.prog gl (G_container_Container_arrayHas k) Go.Proofs.Tryd.f75 body_container_Container_arrayHas (sig_container_Container_arrayHas k).ps (sig_container_Container_arrayHas k).rs :=
  ⟨rfl, by kernel_rfl, rfl, ty_ok _ rfl, calls_container_Container_arrayHas k, by kernel_rfl, by kernel_rfl, fun C hP hgl hm hN => loops_all (n := 0) (by kernel_rfl) lt_all0⟩
theorem ok_container_Container_arrayHas (k : Nat) : FnOK Go.Proofs.Tryd.prog gl 75 (sig_container_Container_arrayHas k) :=
  fun_ok (G := G_container_Container_arrayHas k) (ps := (sig_container_Container_arrayHas k).ps) (rs := (sig_container_Container_arrayHas k).rs) (F := (sig_container_Container_arrayHas k).F) mix_ok Go.Proofs.Tryd.func75 (c := body_container_Container_arrayHas) (by kernel_rfl) (by kernel_rfl) (bodyok_container_Container_arrayHas k) (rfl_container_Container_arrayHas k)

noncomputable def body_words_Has : Code := bodyOf Go.Proofs.Tryd.f98
noncomputable def sig_words_Has (k : Nat) : Sig := ⟨⟨[], [(0, .d (.sl (.int .u64))), (1, .d (.int .u16))]⟩, ⟨[], [(0, .d .bool)]⟩, fun x => words_Has k x.1 x.2⟩
noncomputable def G_words_Has (k : Nat) : Gl := { m := 0, n := 23, gl := gl, ty := ty, fz := fz, fn := fnTab [], lp := lpTab 0 [] }
theorem rfl_words_Has (k : Nat) (x) : (sig_words_Has k).F x = (ev (G_words_Has k) body_words_Has (head (sig_words_Has k).ps (ofTup (sig_words_Has k).ps.shs x))).den (funEnd (G_words_Has k) Go.Proofs.Tryd.f98.results.toList 0 (sig_words_Has k).rs) := by kernel_rfl
theorem calls_words_Has (k : Nat) : CallsOK Go.Proofs.Tryd.prog gl (G_words_Has k) := callsOK_tab (G := G_words_Has k) (tab := []) all_nil
theorem bodyok_words_Has (k : Nat) : BodyOK Go.Proofs.Tryd.prog gl (G_words_Has k) Go.Proofs.Tryd.f98 body_words_Has (sig_words_Has k).ps (sig_words_Has k).rs :=
  ⟨rfl, by kernel_rfl, rfl, ty_ok _ rfl, calls_words_Has k, by kernel_rfl, by kernel_rfl, fun C hP hgl hm hN => loops_all (n := 0) (by kernel_rfl) lt_all0⟩
theorem ok_words_Has (k : Nat) : FnOK Go.Proofs.Tryd.prog gl 98 (sig_words_Has k) :=
  fun_ok (G := G_words_Has k) (ps := (sig_words_Has k).ps) (rs := (sig_words_Has k).rs) (F := (sig_words_Has k).F) mix_ok Go.Proofs.Tryd.func98 (c := body_words_Has) (by kernel_rfl) (by kernel_rfl) (bodyok_words_Has k) (rfl_words_Has k)

noncomputable def body_container_Container_wordsHas : Code := bodyOf Go.Proofs.Tryd.f76
noncomputable def sig_container_Container_wordsHas (k : Nat) : Sig := ⟨⟨[], [(0, .d (.st (.pair (.int .u8) (.pair (.sl (.int .u16)) (.pair (.sl (.int .u64)) (.sl (.st (.pair (.int .u16) (.int .u16))))))))), (1, .d (.int .u16))]⟩, ⟨[], [(0, .d .bool)]⟩, fun x => container_Container_wordsHas k x.1 x.2⟩
noncomputable def G_container_Container_wordsHas (k : Nat) : Gl := { m := 0, n := 9, gl := gl, ty := ty, fz := fz, fn := fnTab [(98, sig_words_Has k)], lp := lpTab 0 [] }
theorem rfl_container_Container_wordsHas (k : Nat) (x) : (sig_container_Container_wordsHas k).F x = (ev (G_container_Container_wordsHas k) body_container_Container_wordsHas (head (sig_container_Container_wordsHas k).ps (ofTup (sig_container_Container_wordsHas k).ps.shs x))).den (funEnd (G_container_Container_wordsHas k) Go.Proofs.Tryd.f76.results.toList 0 (sig_container_Container_wordsHas k).rs) := by kernel_rfl
theorem calls_container_Container_wordsHas (k : Nat) : CallsOK Go.Proofs.Tryd.prog gl (G_container_Container_wordsHas k) := callsOK_tab (G := G_container_Container_wordsHas k) (tab := [(98, sig_words_Has k)]) (all_cons (ok_words_Has k) all_nil)
theorem bodyok_container_Container_wordsHas (k : Nat) : BodyOK Go.Proofs.Tryd.prog gl (G_container_Container_wordsHas k) Go.Proofs.Tryd.f76 body_container_Container_wordsHas (sig_container_Container_wordsHas k).ps (sig_container_Container_wordsHas k).rs :=
  ⟨rfl, by kernel_rfl, rfl, ty_ok _ rfl, calls_container_Container_wordsHas k, by kernel_rfl, by kernel_rfl, fun C hP hgl hm hN => loops_all (n := 0) (by kernel_rfl) lt_all0⟩
theorem ok_container_Container_wordsHas (k : Nat) : FnOK Go.Proofs.Tryd.prog gl 76 (sig_container_Container_wordsHas k) :=
  fun_ok (G := G_container_Container_wordsHas k) (ps := (sig_container_Container_wordsHas k).ps) (rs := (sig_container_Container_wordsHas k).rs) (F := (sig_container_Container_wordsHas k).F) mix_ok Go.Proofs.Tryd.func76 (c := body_container_Container_wordsHas) (by kernel_rfl) (by kernel_rfl) (bodyok_container_Container_wordsHas k) (rfl_container_Container_wordsHas k)

noncomputable def body_runs_Has_1 : Code := bodyOf Go.Proofs.Tryd.f102
noncomputable def sig_runs_Has_1 (k : Nat) : Sig := ⟨⟨[], [(0, .d (.st (.pair (.int .u16) (.int .u16)))), (1, .d (.int .u16))]⟩, ⟨[], [(0, .d (.int .i64))]⟩, fun x => runs_Has_1 k x.1 x.2⟩
noncomputable def G_runs_Has_1 (k : Nat) : Gl := { m := 0, n := 11, gl := gl, ty := ty, fz := fz, fn := fnTab [], lp := lpTab 0 [] }
theorem rfl_runs_Has_1 (k : Nat) (x) : (sig_runs_Has_1 k).F x = (ev (G_runs_Has_1 k) body_runs_Has_1 (head (sig_runs_Has_1 k).ps (ofTup (sig_runs_Has_1 k).ps.shs x))).den (funEnd (G_runs_Has_1 k) Go.Proofs.Tryd.f102.results.toList 0 (sig_runs_Has_1 k).rs) := by kernel_rfl
theorem calls_runs_Has_1 (k : Nat) : CallsOK Go.Proofs.Tryd.prog gl (G_runs_Has_1 k) := callsOK_tab (G := G_runs_Has_1 k) (tab := []) all_nil
theorem bodyok_runs_Has_1 (k : Nat) : BodyOK Go.Proofs.Tryd.prog gl (G_runs_Has_1 k) Go.Proofs.Tryd.f102 body_runs_Has_1 (sig_runs_Has_1 k).ps (sig_runs_Has_1 k).rs :=
  ⟨rfl, by kernel_rfl, rfl, ty_ok _ rfl, calls_runs_Has_1 k, by kernel_rfl, by kernel_rfl, fun C hP hgl hm hN => loops_all (n := 0) (by kernel_rfl) lt_all0⟩
theorem ok_runs_Has_1 (k : Nat) : FnOK Go.Proofs.Tryd.prog gl 102 (sig_runs_Has_1 k) :=
  fun_ok (G := G_runs_Has_1 k) (ps := (sig_runs_Has_1 k).ps) (rs := (sig_runs_Has_1 k).rs) (F := (sig_runs_Has_1 k).F) mix_ok Go.Proofs.Tryd.func102 (c := body_runs_Has_1) (by kernel_rfl) (by kernel_rfl) (bodyok_runs_Has_1 k) (rfl_runs_Has_1 k)

noncomputable def body_slices_BinarySearchFunc_uint16_Has_1 : Code := bodyOf Go.Proofs.Tryd.f101
noncomputable def lb_slices_BinarySearchFunc_uint16_Has_1_4 : Code := (loops body_slices_BinarySearchFunc_uint16_Has_1).getD 0 .skip
noncomputable def ls_slices_BinarySearchFunc_uint16_Has_1_4 (k : Nat) : LSig := ⟨⟨[], [(0, .d (.sl (.st (.pair (.int .u16) (.int .u16))))), (1, .d (.int .u16)), (2, .fn 102 [] []), (8, .d (.int .i64)), (9, .d (.int .i64)), (10, .d (.int .i64))]⟩, [(.exit 0, ⟨[], [(0, .d (.sl (.st (.pair (.int .u16) (.int .u16))))), (1, .d (.int .u16)), (2, .fn 102 [] []), (8, .d (.int .i64)), (9, .d (.int .i64))]⟩)], fun x => slices_BinarySearchFunc_uint16_Has_1_l0 k x.1 x.2.1 x.2.2.1 x.2.2.2.1 x.2.2.2.2⟩
noncomputable def sig_slices_BinarySearchFunc_uint16_Has_1 (k : Nat) : Sig := ⟨⟨[], [(0, .d (.sl (.st (.pair (.int .u16) (.int .u16))))), (1, .d (.int .u16)), (2, .fn 102 [] [])]⟩, ⟨[], [(0, .d (.int .i64)), (1, .d .bool)]⟩, fun x => slices_BinarySearchFunc_uint16_Has_1 k x.1 x.2⟩
noncomputable def G_slices_BinarySearchFunc_uint16_Has_1 (k : Nat) : Gl := { m := 0, n := 49, gl := gl, ty := ty, fz := fz, fn := fnTab [(102, sig_runs_Has_1 k)], lp := lpTab 0 [(4, ls_slices_BinarySearchFunc_uint16_Has_1_4 k)] }
theorem rfl_slices_BinarySearchFunc_uint16_Has_1_4 (k : Nat) (x) : (ls_slices_BinarySearchFunc_uint16_Has_1_4 (k + 1)).F x = (ev (G_slices_BinarySearchFunc_uint16_Has_1 k) lb_slices_BinarySearchFunc_uint16_Has_1_4 (head (ls_slices_BinarySearchFunc_uint16_Has_1_4 k).hd (ofTup (ls_slices_BinarySearchFunc_uint16_Has_1_4 k).hd.shs x))).den (roundEnd 0 (ls_slices_BinarySearchFunc_uint16_Has_1_4 k)) := by kernel_rfl
theorem rfl_slices_BinarySearchFunc_uint16_Has_1 (k : Nat) (x) : (sig_slices_BinarySearchFunc_uint16_Has_1 k).F x = (ev (G_slices_BinarySearchFunc_uint16_Has_1 k) body_slices_BinarySearchFunc_uint16_Has_1 (head (sig_slices_BinarySearchFunc_uint16_Has_1 k).ps (ofTup (sig_slices_BinarySearchFunc_uint16_Has_1 k).ps.shs x))).den (funEnd (G_slices_BinarySearchFunc_uint16_Has_1 k) Go.Proofs.Tryd.f101.results.toList 0 (sig_slices_BinarySearchFunc_uint16_Has_1 k).rs) := by kernel_rfl
theorem calls_slices_BinarySearchFunc_uint16_Has_1 (k : Nat) : CallsOK Go.Proofs.Tryd.prog gl (G_slices_BinarySearchFunc_uint16_Has_1 k) := callsOK_tab (G := G_slices_BinarySearchFunc_uint16_Has_1 k) (tab := [(102, sig_runs_Has_1 k)]) (all_cons (ok_runs_Has_1 k) all_nil)
theorem loop_slices_BinarySearchFunc_uint16_Has_1_4 (C : Ctx) (hP : C.P = Go.Proofs.Tryd.prog) (hgl : C.gl = gl) (hm : C.m = 0) (hN : C.N = Go.Proofs.Tryd.f101.ntmps) (k : Nat) : LoopOK C (G_slices_BinarySearchFunc_uint16_Has_1 k) lb_slices_BinarySearchFunc_uint16_Has_1_4 :=
  LoopOK.of (by rw [hP]; exact mix_ok) (hd := (ls_slices_BinarySearchFunc_uint16_Has_1_4 0).hd) (ex := (ls_slices_BinarySearchFunc_uint16_Has_1_4 0).ex) (F := fun k => (ls_slices_BinarySearchFunc_uint16_Has_1_4 k).F) (Gk := G_slices_BinarySearchFunc_uint16_Has_1) (fun k => gok hP hgl hm hN rfl (by kernel_rfl) rfl (ty_ok _ rfl) (calls_slices_BinarySearchFunc_uint16_Has_1 k)) (fun k => loops_all (n := 0) (by kernel_rfl) lt_all0) (fun x => rfl)
    (fun k x => by rw [hm]; exact rfl_slices_BinarySearchFunc_uint16_Has_1_4 k x) k (fun S => by rw [hm]; kernel_rfl)
theorem bodyok_slices_BinarySearchFunc_uint16_Has_1 (k : Nat) : BodyOK Go.Proofs.Tryd.prog gl (G_slices_BinarySearchFunc_uint16_Has_1 k) Go.Proofs.Tryd.f101 body_slices_BinarySearchFunc_uint16_Has_1 (sig_slices_BinarySearchFunc_uint16_Has_1 k).ps (sig_slices_BinarySearchFunc_uint16_Has_1 k).rs :=
  ⟨rfl, by kernel_rfl, rfl, ty_ok _ rfl, calls_slices_BinarySearchFunc_uint16_Has_1 k, by kernel_rfl, by kernel_rfl, fun C hP hgl hm hN => loops_all (n := 1) (by kernel_rfl) (lt_allS lt_all0 (loop_slices_BinarySearchFunc_uint16_Has_1_4 C hP hgl hm hN k))⟩
theorem ok_slices_BinarySearchFunc_uint16_Has_1 (k : Nat) : FnOK Go.Proofs.Tryd.prog gl 101 (sig_slices_BinarySearchFunc_uint16_Has_1 k) :=
  fun_ok (G := G_slices_BinarySearchFunc_uint16_Has_1 k) (ps := (sig_slices_BinarySearchFunc_uint16_Has_1 k).ps) (rs := (sig_slices_BinarySearchFunc_uint16_Has_1 k).rs) (F := (sig_slices_BinarySearchFunc_uint16_Has_1 k).F) mix_ok Go.Proofs.Tryd.func101 (c := body_slices_BinarySearchFunc_uint16_Has_1) (by kernel_rfl) (by kernel_rfl) (bodyok_slices_BinarySearchFunc_uint16_Has_1 k) (rfl_slices_BinarySearchFunc_uint16_Has_1 k)

noncomputable def body_runs_end : Code := bodyOf Go.Proofs.Tryd.f72
noncomputable def sig_runs_end (k : Nat) : Sig := ⟨⟨[], [(0, .d (.st (.pair (.int .u16) (.int .u16))))]⟩, ⟨[], [(0, .d (.int .i64))]⟩, fun x => runs_end k x⟩
noncomputable def G_runs_end (k : Nat) : Gl := { m := 0, n := 11, gl := gl, ty := ty, fz := fz, fn := fnTab [], lp := lpTab 0 [] }
theorem rfl_runs_end (k : Nat) (x) : (sig_runs_end k).F x = (ev (G_runs_end k) body_runs_end (head (sig_runs_end k).ps (ofTup (sig_runs_end k).ps.shs x))).den (funEnd (G_runs_end k) Go.Proofs.Tryd.f72.results.toList 0 (sig_runs_end k).rs) := by kernel_rfl
theorem calls_runs_end (k : Nat) : CallsOK Go.Proofs.Tryd.prog gl (G_runs_end k) := callsOK_tab (G := G_runs_end k) (tab := []) all_nil
theorem bodyok_runs_end (k : Nat) : BodyOK Go.Proofs.Tryd.prog gl (G_runs_end k) Go.Proofs.Tryd.f72 body_runs_end (sig_runs_end k).ps (sig_runs_end k).rs :=
  ⟨rfl, by kernel_rfl, rfl, ty_ok _ rfl, calls_runs_end k, by kernel_rfl, by kernel_rfl, fun C hP hgl hm hN => loops_all (n := 0) (by kernel_rfl) lt_all0⟩
theorem ok_runs_end (k : Nat) : FnOK Go.Proofs.Tryd.prog gl 72 (sig_runs_end k) :=
  fun_ok (G := G_runs_end k) (ps := (sig_runs_end k).ps) (rs := (sig_runs_end k).rs) (F := (sig_runs_end k).F) mix_ok Go.Proofs.Tryd.func72 (c := body_runs_end) (by kernel_rfl) (by kernel_rfl) (bodyok_runs_end k) (rfl_runs_end k)

noncomputable def body_runs_Has : Code := bodyOf Go.Proofs.Tryd.f99
noncomputable def sig_runs_Has (k : Nat) : Sig := ⟨⟨[], [(0, .d (.sl (.st (.pair (.int .u16) (.int .u16))))), (1, .d (.int .u16))]⟩, ⟨[], [(0, .d .bool)]⟩, fun x => runs_Has k x.1 x.2⟩
noncomputable def G_runs_Has (k : Nat) : Gl := { m := 0, n := 29, gl := gl, ty := ty, fz := fz, fn := fnTab [(101, sig_slices_BinarySearchFunc_uint16_Has_1 k), (72, sig_runs_end k)], lp := lpTab 0 [] }
theorem rfl_runs_Has (k : Nat) (x) : (sig_runs_Has k).F x = (ev (G_runs_Has k) body_runs_Has (head (sig_runs_Has k).ps (ofTup (sig_runs_Has k).ps.shs x))).den (funEnd (G_runs_Has k) Go.Proofs.Tryd.f99.results.toList 0 (sig_runs_Has k).rs) := by kernel_rfl
theorem calls_runs_Has (k : Nat) : CallsOK Go.Proofs.Tryd.prog gl (G_runs_Has k) := callsOK_tab (G := G_runs_Has k) (tab := [(101, sig_slices_BinarySearchFunc_uint16_Has_1 k), (72, sig_runs_end k)]) (all_cons (ok_slices_BinarySearchFunc_uint16_Has_1 k) (all_cons (ok_runs_end k) all_nil))
theorem bodyok_runs_Has (k : Nat) : BodyOK Go.Proofs.Tryd.prog gl (G_runs_Has k) Go.Proofs.Tryd.f99 body_runs_Has (sig_runs_Has k).ps (sig_runs_Has k).rs :=
  ⟨rfl, by kernel_rfl, rfl, ty_ok _ rfl, calls_runs_Has k, by kernel_rfl, by kernel_rfl, fun C hP hgl hm hN => loops_all (n := 0) (by kernel_rfl) lt_all0⟩
theorem ok_runs_Has (k : Nat) : FnOK Go.Proofs.Tryd.prog gl 99 (sig_runs_Has k) :=
  fun_ok (G := G_runs_Has k) (ps := (sig_runs_Has k).ps) (rs := (sig_runs_Has k).rs) (F := (sig_runs_Has k).F) mix_ok Go.Proofs.Tryd.func99 (c := body_runs_Has) (by kernel_rfl) (by kernel_rfl) (bodyok_runs_Has k) (rfl_runs_Has k)

noncomputable def body_container_Container_runsHas : Code := bodyOf Go.Proofs.Tryd.f77
noncomputable def sig_container_Container_runsHas (k : Nat) : Sig := ⟨⟨[], [(0, .d (.st (.pair (.int .u8) (.pair (.sl (.int .u16)) (.pair (.sl (.int .u64)) (.sl (.st (.pair (.int .u16) (.int .u16))))))))), (1, .d (.int .u16))]⟩, ⟨[], [(0, .d .bool)]⟩, fun x => container_Container_runsHas k x.1 x.2⟩
noncomputable def G_container_Container_runsHas (k : Nat) : Gl := { m := 0, n := 9, gl := gl, ty := ty, fz := fz, fn := fnTab [(99, sig_runs_Has k)], lp := lpTab 0 [] }
theorem rfl_container_Container_runsHas (k : Nat) (x) : (sig_container_Container_runsHas k).F x = (ev (G_container_Container_runsHas k) body_container_Container_runsHas (head (sig_container_Container_runsHas k).ps (ofTup (sig_container_Container_runsHas k).ps.shs x))).den (funEnd (G_container_Container_runsHas k) Go.Proofs.Tryd.f77.results.toList 0 (sig_container_Container_runsHas k).rs) := by kernel_rfl
theorem calls_container_Container_runsHas (k : Nat) : CallsOK Go.Proofs.Tryd.prog gl (G_container_Container_runsHas k) := callsOK_tab (G := G_container_Container_runsHas k) (tab := [(99, sig_runs_Has k)]) (all_cons (ok_runs_Has k) all_nil)
theorem bodyok_container_Container_runsHas (k : Nat) : BodyOK Go.Proofs.Tryd.prog gl (G_container_Container_runsHas k) Go.Proofs.Tryd.f77 body_container_Container_runsHas (sig_container_Container_runsHas k).ps (sig_container_Container_runsHas k).rs :=
  ⟨rfl, by kernel_rfl, rfl, ty_ok _ rfl, calls_container_Container_runsHas k, by kernel_rfl, by kernel_rfl, fun C hP hgl hm hN => loops_all (n := 0) (by kernel_rfl) lt_all0⟩
theorem ok_container_Container_runsHas (k : Nat) : FnOK Go.Proofs.Tryd.prog gl 77 (sig_container_Container_runsHas k) :=
  fun_ok (G := G_container_Container_runsHas k) (ps := (sig_container_Container_runsHas k).ps) (rs := (sig_container_Container_runsHas k).rs) (F := (sig_container_Container_runsHas k).F) mix_ok Go.Proofs.Tryd.func77 (c := body_container_Container_runsHas) (by kernel_rfl) (by kernel_rfl) (bodyok_container_Container_runsHas k) (rfl_container_Container_runsHas k)

noncomputable def body_container_Container_Has : Code := bodyOf Go.Proofs.Tryd.f45
noncomputable def sig_container_Container_Has (k : Nat) : Sig := ⟨⟨[], [(0, .d (.st (.pair (.int .u8) (.pair (.sl (.int .u16)) (.pair (.sl (.int .u64)) (.sl (.st (.pair (.int .u16) (.int .u16))))))))), (1, .d (.int .u16))]⟩, ⟨[], [(0, .d .bool)]⟩, fun x => container_Container_Has k x.1 x.2⟩
noncomputable def G_container_Container_Has (k : Nat) : Gl := { m := 0, n := 12, gl := gl, ty := ty, fz := fz, fn := fnTab [(22, sig_container_Container_Kind k), (75, sig_container_Container_arrayHas k), (76, sig_container_Container_wordsHas k), (77, sig_container_Container_runsHas k)], lp := lpTab 0 [] }
theorem rfl_container_Container_Has (k : Nat) (x) : (sig_container_Container_Has k).F x = (ev (G_container_Container_Has k) body_container_Container_Has (head (sig_container_Container_Has k).ps (ofTup (sig_container_Container_Has k).ps.shs x))).den (funEnd (G_container_Container_Has k) Go.Proofs.Tryd.f45.results.toList 0 (sig_container_Container_Has k).rs) := by kernel_rfl
theorem calls_container_Container_Has (k : Nat) : CallsOK Go.Proofs.Tryd.prog gl (G_container_Container_Has k) := callsOK_tab (G := G_container_Container_Has k) (tab := [(22, sig_container_Container_Kind k), (75, sig_container_Container_arrayHas k), (76, sig_container_Container_wordsHas k), (77, sig_container_Container_runsHas k)]) (all_cons (ok_container_Container_Kind k) (all_cons (ok_container_Container_arrayHas k) (all_cons (ok_container_Container_wordsHas k) (all_cons (ok_container_Container_runsHas k) all_nil))))
theorem bodyok_container_Container_Has (k : Nat) : BodyOK Go.Proofs.Tryd.prog gl (G_container_Container_Has k) Go.Proofs.Tryd.f45 body_container_Container_Has (sig_container_Container_Has k).ps (sig_container_Container_Has k).rs :=
  ⟨rfl, by kernel_rfl, rfl, ty_ok _ rfl, calls_container_Container_Has k, by kernel_rfl, by kernel_rfl, fun C hP hgl hm hN => loops_all (n := 0) (by kernel_rfl) lt_all0⟩
theorem ok_container_Container_Has (k : Nat) : FnOK Go.Proofs.Tryd.prog gl 45 (sig_container_Container_Has k) :=
  fun_ok (G := G_container_Container_Has k) (ps := (sig_container_Container_Has k).ps) (rs := (sig_container_Container_Has k).rs) (F := (sig_container_Container_Has k).F) mix_ok Go.Proofs.Tryd.func45 (c := body_container_Container_Has) (by kernel_rfl) (by kernel_rfl) (bodyok_container_Container_Has k) (rfl_container_Container_Has k)

noncomputable def body_container_Container_arrayLen : Code := bodyOf Go.Proofs.Tryd.f38
noncomputable def sig_container_Container_arrayLen (k : Nat) : Sig := ⟨⟨[], [(0, .d (.st (.pair (.int .u8) (.pair (.sl (.int .u16)) (.pair (.sl (.int .u64)) (.sl (.st (.pair (.int .u16) (.int .u16)))))))))]⟩, ⟨[], [(0, .d (.int .i64))]⟩, fun x => container_Container_arrayLen k x⟩
noncomputable def G_container_Container_arrayLen (k : Nat) : Gl := { m := 0, n := 6, gl := gl, ty := ty, fz := fz, fn := fnTab [], lp := lpTab 0 [] }
theorem rfl_container_Container_arrayLen (k : Nat) (x) : (sig_container_Container_arrayLen k).F x = (ev (G_container_Container_arrayLen k) body_container_Container_arrayLen (head (sig_container_Container_arrayLen k).ps (ofTup (sig_container_Container_arrayLen k).ps.shs x))).den (funEnd (G_container_Container_arrayLen k) Go.Proofs.Tryd.f38.results.toList 0 (sig_container_Container_arrayLen k).rs) := by kernel_rfl
theorem calls_container_Container_arrayLen (k : Nat) : CallsOK Go.Proofs.Tryd.prog gl (G_container_Container_arrayLen k) := callsOK_tab (G := G_container_Container_arrayLen k) (tab := []) all_nil
theorem bodyok_container_Container_arrayLen (k : Nat) : BodyOK Go.Proofs.Tryd.prog gl (G_container_Container_arrayLen k) Go.Proofs.Tryd.f38 body_container_Container_arrayLen (sig_container_Container_arrayLen k).ps (sig_container_Container_arrayLen k).rs :=
  ⟨rfl, by kernel_rfl, rfl, ty_ok _ rfl, calls_container_Container_arrayLen k, by kernel_rfl, by kernel_rfl, fun C hP hgl hm hN => loops_all (n := 0) (by kernel_rfl) lt_all0⟩
theorem ok_container_Container_arrayLen (k : Nat) : FnOK Go.Proofs.Tryd.prog gl 38 (sig_container_Container_arrayLen k) :=
  fun_ok (G := G_container_Container_arrayLen k) (ps := (sig_container_Container_arrayLen k).ps) (rs := (sig_container_Container_arrayLen k).rs) (F := (sig_container_Container_arrayLen k).F) mix_ok Go.Proofs.Tryd.func38 (c := body_container_Container_arrayLen) (by kernel_rfl) (by kernel_rfl) (bodyok_container_Container_arrayLen k) (rfl_container_Container_arrayLen k)

noncomputable def body_math_bits_OnesCount64 : Code := bodyOf Go.Proofs.Tryd.f95
noncomputable def sig_math_bits_OnesCount64 (k : Nat) : Sig := ⟨⟨[], [(0, .d (.int .u64))]⟩, ⟨[], [(0, .d (.int .i64))]⟩, fun x => math_bits_OnesCount64 k x⟩
noncomputable def G_math_bits_OnesCount64 (k : Nat) : Gl := { m := 0, n := 35, gl := gl, ty := ty, fz := fz, fn := fnTab [], lp := lpTab 0 [] }
theorem rfl_math_bits_OnesCount64 (k : Nat) (x) : (sig_math_bits_OnesCount64 k).F x = (ev (G_math_bits_OnesCount64 k) body_math_bits_OnesCount64 (head (sig_math_bits_OnesCount64 k).ps (ofTup (sig_math_bits_OnesCount64 k).ps.shs x))).den (funEnd (G_math_bits_OnesCount64 k) Go.Proofs.Tryd.f95.results.toList 0 (sig_math_bits_OnesCount64 k).rs) := by kernel_rfl
theorem calls_math_bits_OnesCount64 (k : Nat) : CallsOK Go.Proofs.Tryd.prog gl (G_math_bits_OnesCount64 k) := callsOK_tab (G := G_math_bits_OnesCount64 k) (tab := []) all_nil
theorem bodyok_math_bits_OnesCount64 (k : Nat) : BodyOK Go.Proofs.Tryd.prog gl (G_math_bits_OnesCount64 k) Go.Proofs.Tryd.f95 body_math_bits_OnesCount64 (sig_math_bits_OnesCount64 k).ps (sig_math_bits_OnesCount64 k).rs :=
  ⟨rfl, by kernel_rfl, rfl, ty_ok _ rfl, calls_math_bits_OnesCount64 k, by kernel_rfl, by kernel_rfl, fun C hP hgl hm hN => loops_all (n := 0) (by kernel_rfl) lt_all0⟩
theorem ok_math_bits_OnesCount64 (k : Nat) : FnOK Go.Proofs.Tryd.prog gl 95 (sig_math_bits_OnesCount64 k) :=
  fun_ok (G := G_math_bits_OnesCount64 k) (ps := (sig_math_bits_OnesCount64 k).ps) (rs := (sig_math_bits_OnesCount64 k).rs) (F := (sig_math_bits_OnesCount64 k).F) mix_ok Go.Proofs.Tryd.func95 (c := body_math_bits_OnesCount64) (by kernel_rfl) (by kernel_rfl) (bodyok_math_bits_OnesCount64 k) (rfl_math_bits_OnesCount64 k)

noncomputable def body_words_Len : Code := bodyOf Go.Proofs.Tryd.f69
noncomputable def lb_words_Len_4 : Code := (loops body_words_Len).getD 0 .skip
noncomputable def ls_words_Len_4 (k : Nat) : LSig := ⟨⟨[], [(3, .d (.int .i64)), (6, .d (.sl (.int .u64))), (7, .d (.int .i64)), (8, .d (.int .i64))]⟩, [(.exit 0, ⟨[], [(3, .d (.int .i64))]⟩)], fun x => words_Len_l0 k x.1 x.2.1 x.2.2.1 x.2.2.2⟩
noncomputable def sig_words_Len (k : Nat) : Sig := ⟨⟨[], [(0, .d (.sl (.int .u64)))]⟩, ⟨[], [(0, .d (.int .i64))]⟩, fun x => words_Len k x⟩
noncomputable def G_words_Len (k : Nat) : Gl := { m := 0, n := 18, gl := gl, ty := ty, fz := fz, fn := fnTab [(95, sig_math_bits_OnesCount64 k)], lp := lpTab 0 [(4, ls_words_Len_4 k)] }
theorem rfl_words_Len_4 (k : Nat) (x) : (ls_words_Len_4 (k + 1)).F x = (ev (G_words_Len k) lb_words_Len_4 (head (ls_words_Len_4 k).hd (ofTup (ls_words_Len_4 k).hd.shs x))).den (roundEnd 0 (ls_words_Len_4 k)) := by kernel_rfl
theorem rfl_words_Len (k : Nat) (x) : (sig_words_Len k).F x = (ev (G_words_Len k) body_words_Len (head (sig_words_Len k).ps (ofTup (sig_words_Len k).ps.shs x))).den (funEnd (G_words_Len k) Go.Proofs.Tryd.f69.results.toList 0 (sig_words_Len k).rs) := by kernel_rfl
theorem calls_words_Len (k : Nat) : CallsOK Go.Proofs.Tryd.prog gl (G_words_Len k) := callsOK_tab (G := G_words_Len k) (tab := [(95, sig_math_bits_OnesCount64 k)]) (all_cons (ok_math_bits_OnesCount64 k) all_nil)
theorem loop_words_Len_4 (C : Ctx) (hP : C.P = Go.Proofs.Tryd.prog) (hgl : C.gl = gl) (hm : C.m = 0) (hN : C.N = Go.Proofs.Tryd.f69.ntmps) (k : Nat) : LoopOK C (G_words_Len k) lb_words_Len_4 :=
  LoopOK.of (by rw [hP]; exact mix_ok) (hd := (ls_words_Len_4 0).hd) (ex := (ls_words_Len_4 0).ex) (F := fun k => (ls_words_Len_4 k).F) (Gk := G_words_Len) (fun k => gok hP hgl hm hN rfl (by kernel_rfl) rfl (ty_ok _ rfl) (calls_words_Len k)) (fun k => loops_all (n := 0) (by kernel_rfl) lt_all0) (fun x => rfl)
    (fun k x => by rw [hm]; exact rfl_words_Len_4 k x) k (fun S => by rw [hm]; kernel_rfl)
theorem bodyok_words_Len (k : Nat) : BodyOK Go.Proofs.Tryd.prog gl (G_words_Len k) Go.Proofs.Tryd.f69 body_words_Len (sig_words_Len k).ps (sig_words_Len k).rs :=
  ⟨rfl, by kernel_rfl, rfl, ty_ok _ rfl, calls_words_Len k, by kernel_rfl, by kernel_rfl, fun C hP hgl hm hN => loops_all (n := 1) (by kernel_rfl) (lt_allS lt_all0 (loop_words_Len_4 C hP hgl hm hN k))⟩
theorem ok_words_Len (k : Nat) : FnOK Go.Proofs.Tryd.prog gl 69 (sig_words_Len k) :=
  fun_ok (G := G_words_Len k) (ps := (sig_words_Len k).ps) (rs := (sig_words_Len k).rs) (F := (sig_words_Len k).F) mix_ok Go.Proofs.Tryd.func69 (c := body_words_Len) (by kernel_rfl) (by kernel_rfl) (bodyok_words_Len k) (rfl_words_Len k)

noncomputable def body_container_Container_wordsLen : Code := bodyOf Go.Proofs.Tryd.f39
noncomputable def sig_container_Container_wordsLen (k : Nat) : Sig := ⟨⟨[], [(0, .d (.st (.pair (.int .u8) (.pair (.sl (.int .u16)) (.pair (.sl (.int .u64)) (.sl (.st (.pair (.int .u16) (.int .u16)))))))))]⟩, ⟨[], [(0, .d (.int .i64))]⟩, fun x => container_Container_wordsLen k x⟩
noncomputable def G_container_Container_wordsLen (k : Nat) : Gl := { m := 0, n := 6, gl := gl, ty := ty, fz := fz, fn := fnTab [(69, sig_words_Len k)], lp := lpTab 0 [] }
theorem rfl_container_Container_wordsLen (k : Nat) (x) : (sig_container_Container_wordsLen k).F x = (ev (G_container_Container_wordsLen k) body_container_Container_wordsLen (head (sig_container_Container_wordsLen k).ps (ofTup (sig_container_Container_wordsLen k).ps.shs x))).den (funEnd (G_container_Container_wordsLen k) Go.Proofs.Tryd.f39.results.toList 0 (sig_container_Container_wordsLen k).rs) := by kernel_rfl
theorem calls_container_Container_wordsLen (k : Nat) : CallsOK Go.Proofs.Tryd.prog gl (G_container_Container_wordsLen k) := callsOK_tab (G := G_container_Container_wordsLen k) (tab := [(69, sig_words_Len k)]) (all_cons (ok_words_Len k) all_nil)
theorem bodyok_container_Container_wordsLen (k : Nat) : BodyOK Go.Proofs.Tryd.prog gl (G_container_Container_wordsLen k) Go.Proofs.Tryd.f39 body_container_Container_wordsLen (sig_container_Container_wordsLen k).ps (sig_container_Container_wordsLen k).rs :=
  ⟨rfl, by kernel_rfl, rfl, ty_ok _ rfl, calls_container_Container_wordsLen k, by kernel_rfl, by kernel_rfl, fun C hP hgl hm hN => loops_all (n := 0) (by kernel_rfl) lt_all0⟩
theorem ok_container_Container_wordsLen (k : Nat) : FnOK Go.Proofs.Tryd.prog gl 39 (sig_container_Container_wordsLen k) :=
  fun_ok (G := G_container_Container_wordsLen k) (ps := (sig_container_Container_wordsLen k).ps) (rs := (sig_container_Container_wordsLen k).rs) (F := (sig_container_Container_wordsLen k).F) mix_ok Go.Proofs.Tryd.func39 (c := body_container_Container_wordsLen) (by kernel_rfl) (by kernel_rfl) (bodyok_container_Container_wordsLen k) (rfl_container_Container_wordsLen k)

noncomputable def body_runs_Len : Code := bodyOf Go.Proofs.Tryd.f70
noncomputable def lb_runs_Len_4 : Code := (loops body_runs_Len).getD 0 .skip
noncomputable def ls_runs_Len_4 (k : Nat) : LSig := ⟨⟨[], [(3, .d (.int .i64)), (6, .d (.sl (.st (.pair (.int .u16) (.int .u16))))), (7, .d (.int .i64)), (8, .d (.int .i64))]⟩, [(.exit 0, ⟨[], [(3, .d (.int .i64))]⟩)], fun x => runs_Len_l0 k x.1 x.2.1 x.2.2.1 x.2.2.2⟩
noncomputable def sig_runs_Len (k : Nat) : Sig := ⟨⟨[], [(0, .d (.sl (.st (.pair (.int .u16) (.int .u16)))))]⟩, ⟨[], [(0, .d (.int .i64))]⟩, fun x => runs_Len k x⟩
noncomputable def G_runs_Len (k : Nat) : Gl := { m := 0, n := 20, gl := gl, ty := ty, fz := fz, fn := fnTab [], lp := lpTab 0 [(4, ls_runs_Len_4 k)] }
theorem rfl_runs_Len_4 (k : Nat) (x) : (ls_runs_Len_4 (k + 1)).F x = (ev (G_runs_Len k) lb_runs_Len_4 (head (ls_runs_Len_4 k).hd (ofTup (ls_runs_Len_4 k).hd.shs x))).den (roundEnd 0 (ls_runs_Len_4 k)) := by kernel_rfl
theorem rfl_runs_Len (k : Nat) (x) : (sig_runs_Len k).F x = (ev (G_runs_Len k) body_runs_Len (head (sig_runs_Len k).ps (ofTup (sig_runs_Len k).ps.shs x))).den (funEnd (G_runs_Len k) Go.Proofs.Tryd.f70.results.toList 0 (sig_runs_Len k).rs) := by kernel_rfl
theorem calls_runs_Len (k : Nat) : CallsOK Go.Proofs.Tryd.prog gl (G_runs_Len k) := callsOK_tab (G := G_runs_Len k) (tab := []) all_nil
theorem loop_runs_Len_4 (C : Ctx) (hP : C.P = Go.Proofs.Tryd.prog) (hgl : C.gl = gl) (hm : C.m = 0) (hN : C.N = Go.Proofs.Tryd.f70.ntmps) (k : Nat) : LoopOK C (G_runs_Len k) lb_runs_Len_4 :=
  LoopOK.of (by rw [hP]; exact mix_ok) (hd := (ls_runs_Len_4 0).hd) (ex := (ls_runs_Len_4 0).ex) (F := fun k => (ls_runs_Len_4 k).F) (Gk := G_runs_Len) (fun k => gok hP hgl hm hN rfl (by kernel_rfl) rfl (ty_ok _ rfl) (calls_runs_Len k)) (fun k => loops_all (n := 0) (by kernel_rfl) lt_all0) (fun x => rfl)
    (fun k x => by rw [hm]; exact rfl_runs_Len_4 k x) k (fun S => by rw [hm]; kernel_rfl)
theorem bodyok_runs_Len (k : Nat) : BodyOK Go.Proofs.Tryd.prog gl (G_runs_Len k) Go.Proofs.Tryd.f70 body_runs_Len (sig_runs_Len k).ps (sig_runs_Len k).rs :=
  ⟨rfl, by kernel_rfl, rfl, ty_ok _ rfl, calls_runs_Len k, by kernel_rfl, by kernel_rfl, fun C hP hgl hm hN => loops_all (n := 1) (by kernel_rfl) (lt_allS lt_all0 (loop_runs_Len_4 C hP hgl hm hN k))⟩
theorem ok_runs_Len (k : Nat) : FnOK Go.Proofs.Tryd.prog gl 70 (sig_runs_Len k) :=
  fun_ok (G := G_runs_Len k) (ps := (sig_runs_Len k).ps) (rs := (sig_runs_Len k).rs) (F := (sig_runs_Len k).F) mix_ok Go.Proofs.Tryd.func70 (c := body_runs_Len) (by kernel_rfl) (by kernel_rfl) (bodyok_runs_Len k) (rfl_runs_Len k)

noncomputable def body_container_Container_runsLen : Code := bodyOf Go.Proofs.Tryd.f40
noncomputable def sig_container_Container_runsLen (k : Nat) : Sig := ⟨⟨[], [(0, .d (.st (.pair (.int .u8) (.pair (.sl (.int .u16)) (.pair (.sl (.int .u64)) (.sl (.st (.pair (.int .u16) (.int .u16)))))))))]⟩, ⟨[], [(0, .d (.int .i64))]⟩, fun x => container_Container_runsLen k x⟩
noncomputable def G_container_Container_runsLen (k : Nat) : Gl := { m := 0, n := 6, gl := gl, ty := ty, fz := fz, fn := fnTab [(70, sig_runs_Len k)], lp := lpTab 0 [] }
theorem rfl_container_Container_runsLen (k : Nat) (x) : (sig_container_Container_runsLen k).F x = (ev (G_container_Container_runsLen k) body_container_Container_runsLen (head (sig_container_Container_runsLen k).ps (ofTup (sig_container_Container_runsLen k).ps.shs x))).den (funEnd (G_container_Container_runsLen k) Go.Proofs.Tryd.f40.results.toList 0 (sig_container_Container_runsLen k).rs) := by kernel_rfl
theorem calls_container_Container_runsLen (k : Nat) : CallsOK Go.Proofs.Tryd.prog gl (G_container_Container_runsLen k) := callsOK_tab (G := G_container_Container_runsLen k) (tab := [(70, sig_runs_Len k)]) (all_cons (ok_runs_Len k) all_nil)
theorem bodyok_container_Container_runsLen (k : Nat) : BodyOK Go.Proofs.Tryd.prog gl (G_container_Container_runsLen k) Go.Proofs.Tryd.f40 body_container_Container_runsLen (sig_container_Container_runsLen k).ps (sig_container_Container_runsLen k).rs :=
  ⟨rfl, by kernel_rfl, rfl, ty_ok _ rfl, calls_container_Container_runsLen k, by kernel_rfl, by kernel_rfl, fun C hP hgl hm hN => loops_all (n := 0) (by kernel_rfl) lt_all0⟩
theorem ok_container_Container_runsLen (k : Nat) : FnOK Go.Proofs.Tryd.prog gl 40 (sig_container_Container_runsLen k) :=
  fun_ok (G := G_container_Container_runsLen k) (ps := (sig_container_Container_runsLen k).ps) (rs := (sig_container_Container_runsLen k).rs) (F := (sig_container_Container_runsLen k).F) mix_ok Go.Proofs.Tryd.func40 (c := body_container_Container_runsLen) (by kernel_rfl) (by kernel_rfl) (bodyok_container_Container_runsLen k) (rfl_container_Container_runsLen k)

noncomputable def body_container_Container_Len : Code := bodyOf Go.Proofs.Tryd.f12
noncomputable def sig_container_Container_Len (k : Nat) : Sig := ⟨⟨[], [(0, .d (.st (.pair (.int .u8) (.pair (.sl (.int .u16)) (.pair (.sl (.int .u64)) (.sl (.st (.pair (.int .u16) (.int .u16)))))))))]⟩, ⟨[], [(0, .d (.int .i64))]⟩, fun x => container_Container_Len k x⟩
noncomputable def G_container_Container_Len (k : Nat) : Gl := { m := 0, n := 9, gl := gl, ty := ty, fz := fz, fn := fnTab [(22, sig_container_Container_Kind k), (38, sig_container_Container_arrayLen k), (39, sig_container_Container_wordsLen k), (40, sig_container_Container_runsLen k)], lp := lpTab 0 [] }
theorem rfl_container_Container_Len (k : Nat) (x) : (sig_container_Container_Len k).F x = (ev (G_container_Container_Len k) body_container_Container_Len (head (sig_container_Container_Len k).ps (ofTup (sig_container_Container_Len k).ps.shs x))).den (funEnd (G_container_Container_Len k) Go.Proofs.Tryd.f12.results.toList 0 (sig_container_Container_Len k).rs) := by kernel_rfl
theorem calls_container_Container_Len (k : Nat) : CallsOK Go.Proofs.Tryd.prog gl (G_container_Container_Len k) := callsOK_tab (G := G_container_Container_Len k) (tab := [(22, sig_container_Container_Kind k), (38, sig_container_Container_arrayLen k), (39, sig_container_Container_wordsLen k), (40, sig_container_Container_runsLen k)]) (all_cons (ok_container_Container_Kind k) (all_cons (ok_container_Container_arrayLen k) (all_cons (ok_container_Container_wordsLen k) (all_cons (ok_container_Container_runsLen k) all_nil))))
theorem bodyok_container_Container_Len (k : Nat) : BodyOK Go.Proofs.Tryd.prog gl (G_container_Container_Len k) Go.Proofs.Tryd.f12 body_container_Container_Len (sig_container_Container_Len k).ps (sig_container_Container_Len k).rs :=
  ⟨rfl, by kernel_rfl, rfl, ty_ok _ rfl, calls_container_Container_Len k, by kernel_rfl, by kernel_rfl, fun C hP hgl hm hN => loops_all (n := 0) (by kernel_rfl) lt_all0⟩
theorem ok_container_Container_Len (k : Nat) : FnOK Go.Proofs.Tryd.prog gl 12 (sig_container_Container_Len k) :=
  fun_ok (G := G_container_Container_Len k) (ps := (sig_container_Container_Len k).ps) (rs := (sig_container_Container_Len k).rs) (F := (sig_container_Container_Len k).F) mix_ok Go.Proofs.Tryd.func12 (c := body_container_Container_Len) (by kernel_rfl) (by kernel_rfl) (bodyok_container_Container_Len k) (rfl_container_Container_Len k)

noncomputable def body_words_Runs : Code := bodyOf Go.Proofs.Tryd.f93
noncomputable def lb_words_Runs_4 : Code := (loops body_words_Runs).getD 0 .skip
noncomputable def ls_words_Runs_4 (k : Nat) : LSig := ⟨⟨[], [(3, .d (.int .i64)), (4, .d (.int .u64)), (7, .d (.sl (.int .u64))), (8, .d (.int .i64)), (9, .d (.int .i64))]⟩, [(.exit 0, ⟨[], [(3, .d (.int .i64))]⟩)], fun x => words_Runs_l0 k x.1 x.2.1 x.2.2.1 x.2.2.2.1 x.2.2.2.2⟩
noncomputable def sig_words_Runs (k : Nat) : Sig := ⟨⟨[], [(0, .d (.sl (.int .u64)))]⟩, ⟨[], [(0, .d (.int .i64))]⟩, fun x => words_Runs k x⟩
noncomputable def G_words_Runs (k : Nat) : Gl := { m := 0, n := 26, gl := gl, ty := ty, fz := fz, fn := fnTab [(95, sig_math_bits_OnesCount64 k)], lp := lpTab 0 [(4, ls_words_Runs_4 k)] }
theorem rfl_words_Runs_4 (k : Nat) (x) : (ls_words_Runs_4 (k + 1)).F x = (ev (G_words_Runs k) lb_words_Runs_4 (head (ls_words_Runs_4 k).hd (ofTup (ls_words_Runs_4 k).hd.shs x))).den (roundEnd 0 (ls_words_Runs_4 k)) := by kernel_rfl
theorem rfl_words_Runs (k : Nat) (x) : (sig_words_Runs k).F x = (ev (G_words_Runs k) body_words_Runs (head (sig_words_Runs k).ps (ofTup (sig_words_Runs k).ps.shs x))).den (funEnd (G_words_Runs k) Go.Proofs.Tryd.f93.results.toList 0 (sig_words_Runs k).rs) := by kernel_rfl
theorem calls_words_Runs (k : Nat) : CallsOK Go.Proofs.Tryd.prog gl (G_words_Runs k) := callsOK_tab (G := G_words_Runs k) (tab := [(95, sig_math_bits_OnesCount64 k)]) (all_cons (ok_math_bits_OnesCount64 k) all_nil)
theorem loop_words_Runs_4 (C : Ctx) (hP : C.P = Go.Proofs.Tryd.prog) (hgl : C.gl = gl) (hm : C.m = 0) (hN : C.N = Go.Proofs.Tryd.f93.ntmps) (k : Nat) : LoopOK C (G_words_Runs k) lb_words_Runs_4 :=
  LoopOK.of (by rw [hP]; exact mix_ok) (hd := (ls_words_Runs_4 0).hd) (ex := (ls_words_Runs_4 0).ex) (F := fun k => (ls_words_Runs_4 k).F) (Gk := G_words_Runs) (fun k => gok hP hgl hm hN rfl (by kernel_rfl) rfl (ty_ok _ rfl) (calls_words_Runs k)) (fun k => loops_all (n := 0) (by kernel_rfl) lt_all0) (fun x => rfl)
    (fun k x => by rw [hm]; exact rfl_words_Runs_4 k x) k (fun S => by rw [hm]; kernel_rfl)
theorem bodyok_words_Runs (k : Nat) : BodyOK Go.Proofs.Tryd.prog gl (G_words_Runs k) Go.Proofs.Tryd.f93 body_words_Runs (sig_words_Runs k).ps (sig_words_Runs k).rs :=
  ⟨rfl, by kernel_rfl, rfl, ty_ok _ rfl, calls_words_Runs k, by kernel_rfl, by kernel_rfl, fun C hP hgl hm hN => loops_all (n := 1) (by kernel_rfl) (lt_allS lt_all0 (loop_words_Runs_4 C hP hgl hm hN k))⟩
theorem ok_words_Runs (k : Nat) : FnOK Go.Proofs.Tryd.prog gl 93 (sig_words_Runs k) :=
  fun_ok (G := G_words_Runs k) (ps := (sig_words_Runs k).ps) (rs := (sig_words_Runs k).rs) (F := (sig_words_Runs k).F) mix_ok Go.Proofs.Tryd.func93 (c := body_words_Runs) (by kernel_rfl) (by kernel_rfl) (bodyok_words_Runs k) (rfl_words_Runs k)

noncomputable def body_arrays_Runs : Code := bodyOf Go.Proofs.Tryd.f94
noncomputable def lb_arrays_Runs_4 : Code := (loops body_arrays_Runs).getD 0 .skip
noncomputable def ls_arrays_Runs_4 (k : Nat) : LSig := ⟨⟨[], [(0, .d (.sl (.int .u16))), (3, .d (.int .i64)), (6, .d (.sl (.int .u16))), (7, .d (.int .i64)), (8, .d (.int .i64))]⟩, [(.exit 0, ⟨[], [(3, .d (.int .i64))]⟩)], fun x => arrays_Runs_l0 k x.1 x.2.1 x.2.2.1 x.2.2.2.1 x.2.2.2.2⟩
noncomputable def sig_arrays_Runs (k : Nat) : Sig := ⟨⟨[], [(0, .d (.sl (.int .u16)))]⟩, ⟨[], [(0, .d (.int .i64))]⟩, fun x => arrays_Runs k x⟩
noncomputable def G_arrays_Runs (k : Nat) : Gl := { m := 0, n := 29, gl := gl, ty := ty, fz := fz, fn := fnTab [], lp := lpTab 0 [(4, ls_arrays_Runs_4 k)] }
theorem rfl_arrays_Runs_4 (k : Nat) (x) : (ls_arrays_Runs_4 (k + 1)).F x = (ev (G_arrays_Runs k) lb_arrays_Runs_4 (head (ls_arrays_Runs_4 k).hd (ofTup (ls_arrays_Runs_4 k).hd.shs x))).den (roundEnd 0 (ls_arrays_Runs_4 k)) := by kernel_rfl
theorem rfl_arrays_Runs (k : Nat) (x) : (sig_arrays_Runs k).F x = (ev (G_arrays_Runs k) body_arrays_Runs (head (sig_arrays_Runs k).ps (ofTup (sig_arrays_Runs k).ps.shs x))).den (funEnd (G_arrays_Runs k) Go.Proofs.Tryd.f94.results.toList 0 (sig_arrays_Runs k).rs) := by kernel_rfl
theorem calls_arrays_Runs (k : Nat) : CallsOK Go.Proofs.Tryd.prog gl (G_arrays_Runs k) := callsOK_tab (G := G_arrays_Runs k) (tab := []) all_nil
theorem loop_arrays_Runs_4 (C : Ctx) (hP : C.P = Go.Proofs.Tryd.prog) (hgl : C.gl = gl) (hm : C.m = 0) (hN : C.N = Go.Proofs.Tryd.f94.ntmps) (k : Nat) : LoopOK C (G_arrays_Runs k) lb_arrays_Runs_4 :=
  LoopOK.of (by rw [hP]; exact mix_ok) (hd := (ls_arrays_Runs_4 0).hd) (ex := (ls_arrays_Runs_4 0).ex) (F := fun k => (ls_arrays_Runs_4 k).F) (Gk := G_arrays_Runs) (fun k => gok hP hgl hm hN rfl (by kernel_rfl) rfl (ty_ok _ rfl) (calls_arrays_Runs k)) (fun k => loops_all (n := 0) (by kernel_rfl) lt_all0) (fun x => rfl)
    (fun k x => by rw [hm]; exact rfl_arrays_Runs_4 k x) k (fun S => by rw [hm]; kernel_rfl)
theorem bodyok_arrays_Runs (k : Nat) : BodyOK Go.Proofs.Tryd.prog gl (G_arrays_Runs k) Go.Proofs.Tryd.f94 body_arrays_Runs (sig_arrays_Runs k).ps (sig_arrays_Runs k).rs :=
  ⟨rfl, by kernel_rfl, rfl, ty_ok _ rfl, calls_arrays_Runs k, by kernel_rfl, by kernel_rfl, fun C hP hgl hm hN => loops_all (n := 1) (by kernel_rfl) (lt_allS lt_all0 (loop_arrays_Runs_4 C hP hgl hm hN k))⟩
theorem ok_arrays_Runs (k : Nat) : FnOK Go.Proofs.Tryd.prog gl 94 (sig_arrays_Runs k) :=
  fun_ok (G := G_arrays_Runs k) (ps := (sig_arrays_Runs k).ps) (rs := (sig_arrays_Runs k).rs) (F := (sig_arrays_Runs k).F) mix_ok Go.Proofs.Tryd.func94 (c := body_arrays_Runs) (by kernel_rfl) (by kernel_rfl) (bodyok_arrays_Runs k) (rfl_arrays_Runs k)

noncomputable def body_container_Container_many : Code := bodyOf Go.Proofs.Tryd.f65
noncomputable def sig_container_Container_many (k : Nat) : Sig := ⟨⟨[], [(0, .d (.st (.pair (.int .u8) (.pair (.sl (.int .u16)) (.pair (.sl (.int .u64)) (.sl (.st (.pair (.int .u16) (.int .u16)))))))))]⟩, ⟨[], [(0, .d (.int .i64))]⟩, fun x => container_Container_many k x⟩
noncomputable def G_container_Container_many (k : Nat) : Gl := { m := 0, n := 18, gl := gl, ty := ty, fz := fz, fn := fnTab [(93, sig_words_Runs k), (94, sig_arrays_Runs k)], lp := lpTab 0 [] }
theorem rfl_container_Container_many (k : Nat) (x) : (sig_container_Container_many k).F x = (ev (G_container_Container_many k) body_container_Container_many (head (sig_container_Container_many k).ps (ofTup (sig_container_Container_many k).ps.shs x))).den (funEnd (G_container_Container_many k) Go.Proofs.Tryd.f65.results.toList 0 (sig_container_Container_many k).rs) := by kernel_rfl
theorem calls_container_Container_many (k : Nat) : CallsOK Go.Proofs.Tryd.prog gl (G_container_Container_many k) := callsOK_tab (G := G_container_Container_many k) (tab := [(93, sig_words_Runs k), (94, sig_arrays_Runs k)]) (all_cons (ok_words_Runs k) (all_cons (ok_arrays_Runs k) all_nil))
theorem bodyok_container_Container_many (k : Nat) : BodyOK Go.Proofs.Tryd.prog gl (G_container_Container_many k) Go.Proofs.Tryd.f65 body_container_Container_many (sig_container_Container_many k).ps (sig_container_Container_many k).rs :=
  ⟨rfl, by kernel_rfl, rfl, ty_ok _ rfl, calls_container_Container_many k, by kernel_rfl, by kernel_rfl, fun C hP hgl hm hN => loops_all (n := 0) (by kernel_rfl) lt_all0⟩
theorem ok_container_Container_many (k : Nat) : FnOK Go.Proofs.Tryd.prog gl 65 (sig_container_Container_many k) :=
  fun_ok (G := G_container_Container_many k) (ps := (sig_container_Container_many k).ps) (rs := (sig_container_Container_many k).rs) (F := (sig_container_Container_many k).F) mix_ok Go.Proofs.Tryd.func65 (c := body_container_Container_many) (by kernel_rfl) (by kernel_rfl) (bodyok_container_Container_many k) (rfl_container_Container_many k)

noncomputable def body_slices_Clone_Run : Code := bodyOf Go.Proofs.Tryd.f36
noncomputable def sig_slices_Clone_Run (k : Nat) : Sig := ⟨⟨[], [(0, .d (.sl (.st (.pair (.int .u16) (.int .u16)))))]⟩, ⟨[], [(0, .d (.sl (.st (.pair (.int .u16) (.int .u16)))))]⟩, fun x => slices_Clone_Run k x⟩
noncomputable def G_slices_Clone_Run (k : Nat) : Gl := { m := 0, n := 8, gl := gl, ty := ty, fz := fz, fn := fnTab [], lp := lpTab 0 [] }
theorem rfl_slices_Clone_Run_cons (k : Nat) (x l) : (sig_slices_Clone_Run k).F (x :: l) = (ev (G_slices_Clone_Run k) body_slices_Clone_Run (head (sig_slices_Clone_Run k).ps (ofTup (sig_slices_Clone_Run k).ps.shs (x :: l)))).den (funEnd (G_slices_Clone_Run k) Go.Proofs.Tryd.f36.results.toList 0 (sig_slices_Clone_Run k).rs) := by kernel_rfl
theorem rfl_slices_Clone_Run_nil (k : Nat) : (ev (G_slices_Clone_Run k) (ambR0 body_slices_Clone_Run) (head (sig_slices_Clone_Run k).ps (ofTup (sig_slices_Clone_Run k).ps.shs []))).den (ambMid (G_slices_Clone_Run k) (ambT body_slices_Clone_Run) (ambR1 body_slices_Clone_Run) (ambA body_slices_Clone_Run) (ambB body_slices_Clone_Run) (funEnd (G_slices_Clone_Run k) Go.Proofs.Tryd.f36.results.toList 0 (sig_slices_Clone_Run k).rs)) = some [] := by kernel_rfl
theorem shape_slices_Clone_Run : body_slices_Clone_Run = .seq (ambR0 body_slices_Clone_Run) (.seq (.seq (ambR1 body_slices_Clone_Run) (.cond (.tmp (ambT body_slices_Clone_Run)) (ambA body_slices_Clone_Run) .skip)) (ambB body_slices_Clone_Run)) := by kernel_rfl
theorem calls_slices_Clone_Run (k : Nat) : CallsOK Go.Proofs.Tryd.prog gl (G_slices_Clone_Run k) := callsOK_tab (G := G_slices_Clone_Run k) (tab := []) all_nil
theorem bodyok_slices_Clone_Run (k : Nat) : BodyOK Go.Proofs.Tryd.prog gl (G_slices_Clone_Run k) Go.Proofs.Tryd.f36 body_slices_Clone_Run (sig_slices_Clone_Run k).ps (sig_slices_Clone_Run k).rs :=
  ⟨rfl, by kernel_rfl, rfl, ty_ok _ rfl, calls_slices_Clone_Run k, by kernel_rfl, by kernel_rfl, fun C hP hgl hm hN => loops_all (n := 0) (by kernel_rfl) lt_all0⟩
theorem ok_slices_Clone_Run (k : Nat) : FnOK Go.Proofs.Tryd.prog gl 36 (sig_slices_Clone_Run k) :=
  clone_ok (G := G_slices_Clone_Run k) (e := (.st (.pair (.int .u16) (.int .u16)))) (F := slices_Clone_Run k) mix_ok Go.Proofs.Tryd.func36 (c := body_slices_Clone_Run) (by kernel_rfl) (by kernel_rfl) (bodyok_slices_Clone_Run k) shape_slices_Clone_Run (by kernel_rfl) (by kernel_rfl) (by kernel_rfl) (by kernel_rfl) (rfl_slices_Clone_Run_nil k) (rfl_slices_Clone_Run_cons k) rfl

noncomputable def body_math_bits_TrailingZeros64 : Code := bodyOf Go.Proofs.Tryd.f71
noncomputable def sig_math_bits_TrailingZeros64 (k : Nat) : Sig := ⟨⟨[], [(0, .d (.int .u64))]⟩, ⟨[], [(0, .d (.int .i64))]⟩, fun x => math_bits_TrailingZeros64 k x⟩
noncomputable def G_math_bits_TrailingZeros64 (k : Nat) : Gl := { m := 0, n := 14, gl := gl, ty := ty, fz := fz, fn := fnTab [], lp := lpTab 0 [] }
theorem rfl_math_bits_TrailingZeros64 (k : Nat) (x) : (sig_math_bits_TrailingZeros64 k).F x = (ev (G_math_bits_TrailingZeros64 k) body_math_bits_TrailingZeros64 (head (sig_math_bits_TrailingZeros64 k).ps (ofTup (sig_math_bits_TrailingZeros64 k).ps.shs x))).den (funEnd (G_math_bits_TrailingZeros64 k) Go.Proofs.Tryd.f71.results.toList 0 (sig_math_bits_TrailingZeros64 k).rs) := by kernel_rfl
theorem calls_math_bits_TrailingZeros64 (k : Nat) : CallsOK Go.Proofs.Tryd.prog gl (G_math_bits_TrailingZeros64 k) := callsOK_tab (G := G_math_bits_TrailingZeros64 k) (tab := []) all_nil
theorem bodyok_math_bits_TrailingZeros64 (k : Nat) : BodyOK Go.Proofs.Tryd.prog gl (G_math_bits_TrailingZeros64 k) Go.Proofs.Tryd.f71 body_math_bits_TrailingZeros64 (sig_math_bits_TrailingZeros64 k).ps (sig_math_bits_TrailingZeros64 k).rs :=
  ⟨rfl, by kernel_rfl, rfl, ty_ok _ rfl, calls_math_bits_TrailingZeros64 k, by kernel_rfl, by kernel_rfl, fun C hP hgl hm hN => loops_all (n := 0) (by kernel_rfl) lt_all0⟩
theorem ok_math_bits_TrailingZeros64 (k : Nat) : FnOK Go.Proofs.Tryd.prog gl 71 (sig_math_bits_TrailingZeros64 k) :=
  fun_ok (G := G_math_bits_TrailingZeros64 k) (ps := (sig_math_bits_TrailingZeros64 k).ps) (rs := (sig_math_bits_TrailingZeros64 k).rs) (F := (sig_math_bits_TrailingZeros64 k).F) mix_ok Go.Proofs.Tryd.func71 (c := body_math_bits_TrailingZeros64) (by kernel_rfl) (by kernel_rfl) (bodyok_math_bits_TrailingZeros64 k) (rfl_math_bits_TrailingZeros64 k)

noncomputable def body_words_List : Code := bodyOf Go.Proofs.Tryd.f41
noncomputable def lb_words_List_4 : Code := (loops body_words_List).getD 0 .skip
noncomputable def lb_words_List_7 : Code := (loops lb_words_List_4).getD 0 .skip
noncomputable def ls_words_List_7 (k : Nat) : LSig := ⟨⟨[(.tmp 3, .grow false (.int .u16) 40)], [(0, .d (.sl (.int .u64))), (3, .own 0), (4, .d (.int .i64)), (5, .d (.int .u64)), (8, .d (.int .i64)), (9, .d (.int .i64))]⟩, [(.exit 2, ⟨[(.tmp 3, .grow false (.int .u16) 40)], [(0, .d (.sl (.int .u64))), (3, .own 0), (8, .d (.int .i64)), (9, .d (.int .i64))]⟩)], fun x => words_List_l1 k x.1 x.2.1 x.2.2.1 x.2.2.2.1 x.2.2.2.2.1 x.2.2.2.2.2⟩
noncomputable def ls_words_List_4 (k : Nat) : LSig := ⟨⟨[(.tmp 3, .grow false (.int .u16) 40)], [(0, .d (.sl (.int .u64))), (3, .own 0), (8, .d (.int .i64)), (9, .d (.int .i64))]⟩, [(.exit 0, ⟨[(.tmp 3, .grow false (.int .u16) 40)], [(3, .own 0)]⟩)], fun x => words_List_l0 k x.1 x.2.1 x.2.2.1 x.2.2.2⟩
noncomputable def sig_words_List (k : Nat) : Sig := ⟨⟨[], [(0, .d (.sl (.int .u64)))]⟩, ⟨[], [(0, .d (.sl (.int .u16)))]⟩, fun x => words_List k x⟩
noncomputable def G_words_List (k : Nat) : Gl := { m := 0, n := 33, gl := gl, ty := ty, fz := fz, fn := fnTab [(71, sig_math_bits_TrailingZeros64 k)], lp := lpTab 0 [(7, ls_words_List_7 k), (4, ls_words_List_4 k)] }
theorem rfl_words_List_7 (k : Nat) (x) : (ls_words_List_7 (k + 1)).F x = (ev (G_words_List k) lb_words_List_7 (head (ls_words_List_7 k).hd (ofTup (ls_words_List_7 k).hd.shs x))).den (roundEnd 0 (ls_words_List_7 k)) := by kernel_rfl
theorem rfl_words_List_4 (k : Nat) (x) : (ls_words_List_4 (k + 1)).F x = (ev (G_words_List k) lb_words_List_4 (head (ls_words_List_4 k).hd (ofTup (ls_words_List_4 k).hd.shs x))).den (roundEnd 0 (ls_words_List_4 k)) := by kernel_rfl
theorem rfl_words_List (k : Nat) (x) : (sig_words_List k).F x = (ev (G_words_List k) body_words_List (head (sig_words_List k).ps (ofTup (sig_words_List k).ps.shs x))).den (funEnd (G_words_List k) Go.Proofs.Tryd.f41.results.toList 0 (sig_words_List k).rs) := by kernel_rfl
theorem calls_words_List (k : Nat) : CallsOK Go.Proofs.Tryd.prog gl (G_words_List k) := callsOK_tab (G := G_words_List k) (tab := [(71, sig_math_bits_TrailingZeros64 k)]) (all_cons (ok_math_bits_TrailingZeros64 k) all_nil)
theorem loop_words_List_7 (C : Ctx) (hP : C.P = Go.Proofs.Tryd.prog) (hgl : C.gl = gl) (hm : C.m = 0) (hN : C.N = Go.Proofs.Tryd.f41.ntmps) (k : Nat) : LoopOK C (G_words_List k) lb_words_List_7 :=
  LoopOK.of (by rw [hP]; exact mix_ok) (hd := (ls_words_List_7 0).hd) (ex := (ls_words_List_7 0).ex) (F := fun k => (ls_words_List_7 k).F) (Gk := G_words_List) (fun k => gok hP hgl hm hN rfl (by kernel_rfl) rfl (ty_ok _ rfl) (calls_words_List k)) (fun k => loops_all (n := 0) (by kernel_rfl) lt_all0) (fun x => rfl)
    (fun k x => by rw [hm]; exact rfl_words_List_7 k x) k (fun S => by rw [hm]; kernel_rfl)
theorem loop_words_List_4 (C : Ctx) (hP : C.P = Go.Proofs.Tryd.prog) (hgl : C.gl = gl) (hm : C.m = 0) (hN : C.N = Go.Proofs.Tryd.f41.ntmps) (k : Nat) : LoopOK C (G_words_List k) lb_words_List_4 :=
  LoopOK.of (by rw [hP]; exact mix_ok) (hd := (ls_words_List_4 0).hd) (ex := (ls_words_List_4 0).ex) (F := fun k => (ls_words_List_4 k).F) (Gk := G_words_List) (fun k => gok hP hgl hm hN rfl (by kernel_rfl) rfl (ty_ok _ rfl) (calls_words_List k)) (fun k => loops_all (n := 1) (by kernel_rfl) (lt_allS lt_all0 (loop_words_List_7 C hP hgl hm hN k))) (fun x => rfl)
    (fun k x => by rw [hm]; exact rfl_words_List_4 k x) k (fun S => by rw [hm]; kernel_rfl)
theorem bodyok_words_List (k : Nat) : BodyOK Go.Proofs.Tryd.prog gl (G_words_List k) Go.Proofs.Tryd.f41 body_words_List (sig_words_List k).ps (sig_words_List k).rs :=
  ⟨rfl, by kernel_rfl, rfl, ty_ok _ rfl, calls_words_List k, by kernel_rfl, by kernel_rfl, fun C hP hgl hm hN => loops_all (n := 1) (by kernel_rfl) (lt_allS lt_all0 (loop_words_List_4 C hP hgl hm hN k))⟩
theorem ok_words_List (k : Nat) : FnOK Go.Proofs.Tryd.prog gl 41 (sig_words_List k) :=
  fun_ok (G := G_words_List k) (ps := (sig_words_List k).ps) (rs := (sig_words_List k).rs) (F := (sig_words_List k).F) mix_ok Go.Proofs.Tryd.func41 (c := body_words_List) (by kernel_rfl) (by kernel_rfl) (bodyok_words_List k) (rfl_words_List k)

noncomputable def body_runs_List : Code := bodyOf Go.Proofs.Tryd.f42
noncomputable def lb_runs_List_4 : Code := (loops body_runs_List).getD 0 .skip
noncomputable def lb_runs_List_7 : Code := (loops lb_runs_List_4).getD 0 .skip
noncomputable def ls_runs_List_7 (k : Nat) : LSig := ⟨⟨[(.tmp 3, .grow false (.int .u16) 40), (.tmp 5, .cells [.d (.int .u16), .d (.int .u16)])], [(3, .own 0), (5, .ptr 1 0), (6, .d (.int .i64)), (7, .d (.sl (.st (.pair (.int .u16) (.int .u16))))), (8, .d (.int .i64)), (9, .d (.int .i64))]⟩, [(.exit 2, ⟨[(.tmp 3, .grow false (.int .u16) 40)], [(3, .own 0), (7, .d (.sl (.st (.pair (.int .u16) (.int .u16))))), (8, .d (.int .i64)), (9, .d (.int .i64))]⟩)], fun x => runs_List_l1 k x.1 x.2.1 x.2.2.1 x.2.2.2.1 x.2.2.2.2.1 x.2.2.2.2.2.1 x.2.2.2.2.2.2⟩
noncomputable def ls_runs_List_4 (k : Nat) : LSig := ⟨⟨[(.tmp 3, .grow false (.int .u16) 40)], [(3, .own 0), (7, .d (.sl (.st (.pair (.int .u16) (.int .u16))))), (8, .d (.int .i64)), (9, .d (.int .i64))]⟩, [(.exit 0, ⟨[(.tmp 3, .grow false (.int .u16) 40)], [(3, .own 0)]⟩)], fun x => runs_List_l0 k x.1 x.2.1 x.2.2.1 x.2.2.2⟩
noncomputable def sig_runs_List (k : Nat) : Sig := ⟨⟨[], [(0, .d (.sl (.st (.pair (.int .u16) (.int .u16)))))]⟩, ⟨[], [(0, .d (.sl (.int .u16)))]⟩, fun x => runs_List k x⟩
noncomputable def G_runs_List (k : Nat) : Gl := { m := 0, n := 30, gl := gl, ty := ty, fz := fz, fn := fnTab [(72, sig_runs_end k)], lp := lpTab 0 [(7, ls_runs_List_7 k), (4, ls_runs_List_4 k)] }
theorem rfl_runs_List_7 (k : Nat) (x) : (ls_runs_List_7 (k + 1)).F x = (ev (G_runs_List k) lb_runs_List_7 (head (ls_runs_List_7 k).hd (ofTup (ls_runs_List_7 k).hd.shs x))).den (roundEnd 0 (ls_runs_List_7 k)) := by kernel_rfl
theorem rfl_runs_List_4 (k : Nat) (x) : (ls_runs_List_4 (k + 1)).F x = (ev (G_runs_List k) lb_runs_List_4 (head (ls_runs_List_4 k).hd (ofTup (ls_runs_List_4 k).hd.shs x))).den (roundEnd 0 (ls_runs_List_4 k)) := by kernel_rfl
theorem rfl_runs_List (k : Nat) (x) : (sig_runs_List k).F x = (ev (G_runs_List k) body_runs_List (head (sig_runs_List k).ps (ofTup (sig_runs_List k).ps.shs x))).den (funEnd (G_runs_List k) Go.Proofs.Tryd.f42.results.toList 0 (sig_runs_List k).rs) := by kernel_rfl
theorem calls_runs_List (k : Nat) : CallsOK Go.Proofs.Tryd.prog gl (G_runs_List k) := callsOK_tab (G := G_runs_List k) (tab := [(72, sig_runs_end k)]) (all_cons (ok_runs_end k) all_nil)
theorem loop_runs_List_7 (C : Ctx) (hP : C.P = Go.Proofs.Tryd.prog) (hgl : C.gl = gl) (hm : C.m = 0) (hN : C.N = Go.Proofs.Tryd.f42.ntmps) (k : Nat) : LoopOK C (G_runs_List k) lb_runs_List_7 :=
  LoopOK.of (by rw [hP]; exact mix_ok) (hd := (ls_runs_List_7 0).hd) (ex := (ls_runs_List_7 0).ex) (F := fun k => (ls_runs_List_7 k).F) (Gk := G_runs_List) (fun k => gok hP hgl hm hN rfl (by kernel_rfl) rfl (ty_ok _ rfl) (calls_runs_List k)) (fun k => loops_all (n := 0) (by kernel_rfl) lt_all0) (fun x => rfl)
    (fun k x => by rw [hm]; exact rfl_runs_List_7 k x) k (fun S => by rw [hm]; kernel_rfl)
theorem loop_runs_List_4 (C : Ctx) (hP : C.P = Go.Proofs.Tryd.prog) (hgl : C.gl = gl) (hm : C.m = 0) (hN : C.N = Go.Proofs.Tryd.f42.ntmps) (k : Nat) : LoopOK C (G_runs_List k) lb_runs_List_4 :=
  LoopOK.of (by rw [hP]; exact mix_ok) (hd := (ls_runs_List_4 0).hd) (ex := (ls_runs_List_4 0).ex) (F := fun k => (ls_runs_List_4 k).F) (Gk := G_runs_List) (fun k => gok hP hgl hm hN rfl (by kernel_rfl) rfl (ty_ok _ rfl) (calls_runs_List k)) (fun k => loops_all (n := 1) (by kernel_rfl) (lt_allS lt_all0 (loop_runs_List_7 C hP hgl hm hN k))) (fun x => rfl)
    (fun k x => by rw [hm]; exact rfl_runs_List_4 k x) k (fun S => by rw [hm]; kernel_rfl)
theorem bodyok_runs_List (k : Nat) : BodyOK Go.Proofs.Tryd.prog gl (G_runs_List k) Go.Proofs.Tryd.f42 body_runs_List (sig_runs_List k).ps (sig_runs_List k).rs :=
  ⟨rfl, by kernel_rfl, rfl, ty_ok _ rfl, calls_runs_List k, by kernel_rfl, by kernel_rfl, fun C hP hgl hm hN => loops_all (n := 1) (by kernel_rfl) (lt_allS lt_all0 (loop_runs_List_4 C hP hgl hm hN k))⟩
theorem ok_runs_List (k : Nat) : FnOK Go.Proofs.Tryd.prog gl 42 (sig_runs_List k) :=
  fun_ok (G := G_runs_List k) (ps := (sig_runs_List k).ps) (rs := (sig_runs_List k).rs) (F := (sig_runs_List k).F) mix_ok Go.Proofs.Tryd.func42 (c := body_runs_List) (by kernel_rfl) (by kernel_rfl) (bodyok_runs_List k) (rfl_runs_List k)

noncomputable def body_container_Container_Array : Code := bodyOf Go.Proofs.Tryd.f15
noncomputable def sig_container_Container_Array (k : Nat) : Sig := ⟨⟨[], [(0, .d (.st (.pair (.int .u8) (.pair (.sl (.int .u16)) (.pair (.sl (.int .u64)) (.sl (.st (.pair (.int .u16) (.int .u16)))))))))]⟩, ⟨[], [(0, .d (.sl (.int .u16)))]⟩, fun x => container_Container_Array k x⟩
noncomputable def G_container_Container_Array (k : Nat) : Gl := { m := 0, n := 18, gl := gl, ty := ty, fz := fz, fn := fnTab [(41, sig_words_List k), (42, sig_runs_List k), (43, sig_slices_Clone_uint16 k)], lp := lpTab 0 [] }
theorem rfl_container_Container_Array (k : Nat) (x) : (sig_container_Container_Array k).F x = (ev (G_container_Container_Array k) body_container_Container_Array (head (sig_container_Container_Array k).ps (ofTup (sig_container_Container_Array k).ps.shs x))).den (funEnd (G_container_Container_Array k) Go.Proofs.Tryd.f15.results.toList 0 (sig_container_Container_Array k).rs) := by kernel_rfl
theorem calls_container_Container_Array (k : Nat) : CallsOK Go.Proofs.Tryd.prog gl (G_container_Container_Array k) := callsOK_tab (G := G_container_Container_Array k) (tab := [(41, sig_words_List k), (42, sig_runs_List k), (43, sig_slices_Clone_uint16 k)]) (all_cons (ok_words_List k) (all_cons (ok_runs_List k) (all_cons (ok_slices_Clone_uint16 k) all_nil)))
theorem bodyok_container_Container_Array (k : Nat) : BodyOK Go.Proofs.Tryd.prog gl (G_container_Container_Array k) Go.Proofs.Tryd.f15 body_container_Container_Array (sig_container_Container_Array k).ps (sig_container_Container_Array k).rs :=
  ⟨rfl, by kernel_rfl, rfl, ty_ok _ rfl, calls_container_Container_Array k, by kernel_rfl, by kernel_rfl, fun C hP hgl hm hN => loops_all (n := 0) (by kernel_rfl) lt_all0⟩
theorem ok_container_Container_Array (k : Nat) : FnOK Go.Proofs.Tryd.prog gl 15 (sig_container_Container_Array k) :=
  fun_ok (G := G_container_Container_Array k) (ps := (sig_container_Container_Array k).ps) (rs := (sig_container_Container_Array k).rs) (F := (sig_container_Container_Array k).F) mix_ok Go.Proofs.Tryd.func15 (c := body_container_Container_Array) (by kernel_rfl) (by kernel_rfl) (bodyok_container_Container_Array k) (rfl_container_Container_Array k)

noncomputable def body_runs_Of : Code := bodyOf Go.Proofs.Tryd.f37
noncomputable def lb_runs_Of_4 : Code := (loops body_runs_Of).getD 0 .skip
noncomputable def ls_runs_Of_4 (k : Nat) : LSig := ⟨⟨[(.tmp 3, .grow false (.st (.pair (.int .u16) (.int .u16))) 65)], [(0, .d (.sl (.int .u16))), (3, .own 0), (6, .d (.sl (.int .u16))), (7, .d (.int .i64)), (8, .d (.int .i64))]⟩, [(.exit 0, ⟨[(.tmp 3, .grow false (.st (.pair (.int .u16) (.int .u16))) 65)], [(3, .own 0)]⟩)], fun x => runs_Of_l0 k x.1 x.2.1 x.2.2.1 x.2.2.2.1 x.2.2.2.2⟩
noncomputable def sig_runs_Of (k : Nat) : Sig := ⟨⟨[], [(0, .d (.sl (.int .u16)))]⟩, ⟨[], [(0, .d (.sl (.st (.pair (.int .u16) (.int .u16)))))]⟩, fun x => runs_Of k x⟩
noncomputable def G_runs_Of (k : Nat) : Gl := { m := 0, n := 42, gl := gl, ty := ty, fz := fz, fn := fnTab [], lp := lpTab 0 [(4, ls_runs_Of_4 k)] }
theorem rfl_runs_Of_4 (k : Nat) (x) : (ls_runs_Of_4 (k + 1)).F x = (ev (G_runs_Of k) lb_runs_Of_4 (head (ls_runs_Of_4 k).hd (ofTup (ls_runs_Of_4 k).hd.shs x))).den (roundEnd 0 (ls_runs_Of_4 k)) := by kernel_rfl
theorem rfl_runs_Of (k : Nat) (x) : (sig_runs_Of k).F x = (ev (G_runs_Of k) body_runs_Of (head (sig_runs_Of k).ps (ofTup (sig_runs_Of k).ps.shs x))).den (funEnd (G_runs_Of k) Go.Proofs.Tryd.f37.results.toList 0 (sig_runs_Of k).rs) := by kernel_rfl
theorem calls_runs_Of (k : Nat) : CallsOK Go.Proofs.Tryd.prog gl (G_runs_Of k) := callsOK_tab (G := G_runs_Of k) (tab := []) all_nil
theorem loop_runs_Of_4 (C : Ctx) (hP : C.P = Go.Proofs.Tryd.prog) (hgl : C.gl = gl) (hm : C.m = 0) (hN : C.N = Go.Proofs.Tryd.f37.ntmps) (k : Nat) : LoopOK C (G_runs_Of k) lb_runs_Of_4 :=
  LoopOK.of (by rw [hP]; exact mix_ok) (hd := (ls_runs_Of_4 0).hd) (ex := (ls_runs_Of_4 0).ex) (F := fun k => (ls_runs_Of_4 k).F) (Gk := G_runs_Of) (fun k => gok hP hgl hm hN rfl (by kernel_rfl) rfl (ty_ok _ rfl) (calls_runs_Of k)) (fun k => loops_all (n := 0) (by kernel_rfl) lt_all0) (fun x => rfl)
    (fun k x => by rw [hm]; exact rfl_runs_Of_4 k x) k (fun S => by rw [hm]; kernel_rfl)
theorem bodyok_runs_Of (k : Nat) : BodyOK Go.Proofs.Tryd.prog gl (G_runs_Of k) Go.Proofs.Tryd.f37 body_runs_Of (sig_runs_Of k).ps (sig_runs_Of k).rs :=
  ⟨rfl, by kernel_rfl, rfl, ty_ok _ rfl, calls_runs_Of k, by kernel_rfl, by kernel_rfl, fun C hP hgl hm hN => loops_all (n := 1) (by kernel_rfl) (lt_allS lt_all0 (loop_runs_Of_4 C hP hgl hm hN k))⟩
theorem ok_runs_Of (k : Nat) : FnOK Go.Proofs.Tryd.prog gl 37 (sig_runs_Of k) :=
  fun_ok (G := G_runs_Of k) (ps := (sig_runs_Of k).ps) (rs := (sig_runs_Of k).rs) (F := (sig_runs_Of k).F) mix_ok Go.Proofs.Tryd.func37 (c := body_runs_Of) (by kernel_rfl) (by kernel_rfl) (bodyok_runs_Of k) (rfl_runs_Of k)

noncomputable def body_container_Container_Runs : Code := bodyOf Go.Proofs.Tryd.f11
noncomputable def sig_container_Container_Runs (k : Nat) : Sig := ⟨⟨[], [(0, .d (.st (.pair (.int .u8) (.pair (.sl (.int .u16)) (.pair (.sl (.int .u64)) (.sl (.st (.pair (.int .u16) (.int .u16)))))))))]⟩, ⟨[], [(0, .d (.sl (.st (.pair (.int .u16) (.int .u16)))))]⟩, fun x => container_Container_Runs k x⟩
noncomputable def G_container_Container_Runs (k : Nat) : Gl := { m := 0, n := 12, gl := gl, ty := ty, fz := fz, fn := fnTab [(36, sig_slices_Clone_Run k), (15, sig_container_Container_Array k), (37, sig_runs_Of k)], lp := lpTab 0 [] }
theorem rfl_container_Container_Runs (k : Nat) (x) : (sig_container_Container_Runs k).F x = (ev (G_container_Container_Runs k) body_container_Container_Runs (head (sig_container_Container_Runs k).ps (ofTup (sig_container_Container_Runs k).ps.shs x))).den (funEnd (G_container_Container_Runs k) Go.Proofs.Tryd.f11.results.toList 0 (sig_container_Container_Runs k).rs) := by kernel_rfl
theorem calls_container_Container_Runs (k : Nat) : CallsOK Go.Proofs.Tryd.prog gl (G_container_Container_Runs k) := callsOK_tab (G := G_container_Container_Runs k) (tab := [(36, sig_slices_Clone_Run k), (15, sig_container_Container_Array k), (37, sig_runs_Of k)]) (all_cons (ok_slices_Clone_Run k) (all_cons (ok_container_Container_Array k) (all_cons (ok_runs_Of k) all_nil)))
theorem bodyok_container_Container_Runs (k : Nat) : BodyOK Go.Proofs.Tryd.prog gl (G_container_Container_Runs k) Go.Proofs.Tryd.f11 body_container_Container_Runs (sig_container_Container_Runs k).ps (sig_container_Container_Runs k).rs :=
  ⟨rfl, by kernel_rfl, rfl, ty_ok _ rfl, calls_container_Container_Runs k, by kernel_rfl, by kernel_rfl, fun C hP hgl hm hN => loops_all (n := 0) (by kernel_rfl) lt_all0⟩
theorem ok_container_Container_Runs (k : Nat) : FnOK Go.Proofs.Tryd.prog gl 11 (sig_container_Container_Runs k) :=
  fun_ok (G := G_container_Container_Runs k) (ps := (sig_container_Container_Runs k).ps) (rs := (sig_container_Container_Runs k).rs) (F := (sig_container_Container_Runs k).F) mix_ok Go.Proofs.Tryd.func11 (c := body_container_Container_Runs) (by kernel_rfl) (by kernel_rfl) (bodyok_container_Container_Runs k) (rfl_container_Container_Runs k)

noncomputable def body_slices_Clone_uint64 : Code := bodyOf Go.Proofs.Tryd.f33
noncomputable def sig_slices_Clone_uint64 (k : Nat) : Sig := ⟨⟨[], [(0, .d (.sl (.int .u64)))]⟩, ⟨[], [(0, .d (.sl (.int .u64)))]⟩, fun x => slices_Clone_uint64 k x⟩
noncomputable def G_slices_Clone_uint64 (k : Nat) : Gl := { m := 0, n := 8, gl := gl, ty := ty, fz := fz, fn := fnTab [], lp := lpTab 0 [] }
theorem rfl_slices_Clone_uint64_cons (k : Nat) (x l) : (sig_slices_Clone_uint64 k).F (x :: l) = (ev (G_slices_Clone_uint64 k) body_slices_Clone_uint64 (head (sig_slices_Clone_uint64 k).ps (ofTup (sig_slices_Clone_uint64 k).ps.shs (x :: l)))).den (funEnd (G_slices_Clone_uint64 k) Go.Proofs.Tryd.f33.results.toList 0 (sig_slices_Clone_uint64 k).rs) := by kernel_rfl
theorem rfl_slices_Clone_uint64_nil (k : Nat) : (ev (G_slices_Clone_uint64 k) (ambR0 body_slices_Clone_uint64) (head (sig_slices_Clone_uint64 k).ps (ofTup (sig_slices_Clone_uint64 k).ps.shs []))).den (ambMid (G_slices_Clone_uint64 k) (ambT body_slices_Clone_uint64) (ambR1 body_slices_Clone_uint64) (ambA body_slices_Clone_uint64) (ambB body_slices_Clone_uint64) (funEnd (G_slices_Clone_uint64 k) Go.Proofs.Tryd.f33.results.toList 0 (sig_slices_Clone_uint64 k).rs)) = some [] := by kernel_rfl
theorem shape_slices_Clone_uint64 : body_slices_Clone_uint64 = .seq (ambR0 body_slices_Clone_uint64) (.seq (.seq (ambR1 body_slices_Clone_uint64) (.cond (.tmp (ambT body_slices_Clone_uint64)) (ambA body_slices_Clone_uint64) .skip)) (ambB body_slices_Clone_uint64)) := by kernel_rfl
theorem calls_slices_Clone_uint64 (k : Nat) : CallsOK Go.Proofs.Tryd.prog gl (G_slices_Clone_uint64 k) := callsOK_tab (G := G_slices_Clone_uint64 k) (tab := []) all_nil
theorem bodyok_slices_Clone_uint64 (k : Nat) : BodyOK Go.Proofs.Tryd.prog gl (G_slices_Clone_uint64 k) Go.Proofs.Tryd.f33 body_slices_Clone_uint64 (sig_slices_Clone_uint64 k).ps (sig_slices_Clone_uint64 k).rs :=
  ⟨rfl, by kernel_rfl, rfl, ty_ok _ rfl, calls_slices_Clone_uint64 k, by kernel_rfl, by kernel_rfl, fun C hP hgl hm hN => loops_all (n := 0) (by kernel_rfl) lt_all0⟩
theorem ok_slices_Clone_uint64 (k : Nat) : FnOK Go.Proofs.Tryd.prog gl 33 (sig_slices_Clone_uint64 k) :=
  clone_ok (G := G_slices_Clone_uint64 k) (e := (.int .u64)) (F := slices_Clone_uint64 k) mix_ok Go.Proofs.Tryd.func33 (c := body_slices_Clone_uint64) (by kernel_rfl) (by kernel_rfl) (bodyok_slices_Clone_uint64 k) shape_slices_Clone_uint64 (by kernel_rfl) (by kernel_rfl) (by kernel_rfl) (by kernel_rfl) (rfl_slices_Clone_uint64_nil k) (rfl_slices_Clone_uint64_cons k) rfl

noncomputable def body_words_Of : Code := bodyOf Go.Proofs.Tryd.f63
noncomputable def lb_words_Of_4 : Code := (loops body_words_Of).getD 0 .skip
noncomputable def ls_words_Of_4 (k : Nat) : LSig := ⟨⟨[(.tmp 3, .grow false (.int .u64) 57)], [(3, .own 0), (7, .d (.sl (.int .u16))), (8, .d (.int .i64)), (9, .d (.int .i64))]⟩, [(.exit 0, ⟨[(.tmp 3, .grow false (.int .u64) 57)], [(3, .own 0)]⟩)], fun x => words_Of_l0 k x.1 x.2.1 x.2.2.1 x.2.2.2⟩
noncomputable def sig_words_Of (k : Nat) : Sig := ⟨⟨[], [(0, .d (.sl (.int .u16)))]⟩, ⟨[(.tmp 0, .grow false (.int .u64) 57)], [(0, .own 0)]⟩, fun x => words_Of k x⟩
noncomputable def G_words_Of (k : Nat) : Gl := { m := 0, n := 25, gl := gl, ty := ty, fz := fz, fn := fnTab [], lp := lpTab 0 [(4, ls_words_Of_4 k)] }
theorem rfl_words_Of_4 (k : Nat) (x) : (ls_words_Of_4 (k + 1)).F x = (ev (G_words_Of k) lb_words_Of_4 (head (ls_words_Of_4 k).hd (ofTup (ls_words_Of_4 k).hd.shs x))).den (roundEnd 0 (ls_words_Of_4 k)) := by kernel_rfl
theorem rfl_words_Of (k : Nat) (x) : (sig_words_Of k).F x = (ev (G_words_Of k) body_words_Of (head (sig_words_Of k).ps (ofTup (sig_words_Of k).ps.shs x))).den (funEnd (G_words_Of k) Go.Proofs.Tryd.f63.results.toList 0 (sig_words_Of k).rs) := by kernel_rfl
theorem calls_words_Of (k : Nat) : CallsOK Go.Proofs.Tryd.prog gl (G_words_Of k) := callsOK_tab (G := G_words_Of k) (tab := []) all_nil
theorem loop_words_Of_4 (C : Ctx) (hP : C.P = Go.Proofs.Tryd.prog) (hgl : C.gl = gl) (hm : C.m = 0) (hN : C.N = Go.Proofs.Tryd.f63.ntmps) (k : Nat) : LoopOK C (G_words_Of k) lb_words_Of_4 :=
  LoopOK.of (by rw [hP]; exact mix_ok) (hd := (ls_words_Of_4 0).hd) (ex := (ls_words_Of_4 0).ex) (F := fun k => (ls_words_Of_4 k).F) (Gk := G_words_Of) (fun k => gok hP hgl hm hN rfl (by kernel_rfl) rfl (ty_ok _ rfl) (calls_words_Of k)) (fun k => loops_all (n := 0) (by kernel_rfl) lt_all0) (fun x => rfl)
    (fun k x => by rw [hm]; exact rfl_words_Of_4 k x) k (fun S => by rw [hm]; kernel_rfl)
theorem bodyok_words_Of (k : Nat) : BodyOK Go.Proofs.Tryd.prog gl (G_words_Of k) Go.Proofs.Tryd.f63 body_words_Of (sig_words_Of k).ps (sig_words_Of k).rs :=
  ⟨rfl, by kernel_rfl, rfl, ty_ok _ rfl, calls_words_Of k, by kernel_rfl, by kernel_rfl, fun C hP hgl hm hN => loops_all (n := 1) (by kernel_rfl) (lt_allS lt_all0 (loop_words_Of_4 C hP hgl hm hN k))⟩
theorem ok_words_Of (k : Nat) : FnOK Go.Proofs.Tryd.prog gl 63 (sig_words_Of k) :=
  fun_ok (G := G_words_Of k) (ps := (sig_words_Of k).ps) (rs := (sig_words_Of k).rs) (F := (sig_words_Of k).F) mix_ok Go.Proofs.Tryd.func63 (c := body_words_Of) (by kernel_rfl) (by kernel_rfl) (bodyok_words_Of k) (rfl_words_Of k)

noncomputable def body_container_Container_Words : Code := bodyOf Go.Proofs.Tryd.f29
noncomputable def lb_container_Container_Words_8 : Code := (loops body_container_Container_Words).getD 0 .skip
noncomputable def lb_container_Container_Words_11 : Code := (loops lb_container_Container_Words_8).getD 0 .skip
noncomputable def ls_container_Container_Words_11 (k : Nat) : LSig := ⟨⟨[(.tmp 3, .grow false (.int .u64) 57), (.tmp 5, .cells [.d (.int .u16), .d (.int .u16)])], [(3, .own 0), (5, .ptr 1 0), (6, .d (.int .i64)), (18, .d (.sl (.st (.pair (.int .u16) (.int .u16))))), (19, .d (.int .i64)), (20, .d (.int .i64))]⟩, [(.exit 3, ⟨[(.tmp 3, .grow false (.int .u64) 57)], [(3, .own 0), (18, .d (.sl (.st (.pair (.int .u16) (.int .u16))))), (19, .d (.int .i64)), (20, .d (.int .i64))]⟩)], fun x => container_Container_Words_l1 k x.1 x.2.1 x.2.2.1 x.2.2.2.1 x.2.2.2.2.1 x.2.2.2.2.2.1 x.2.2.2.2.2.2⟩
noncomputable def ls_container_Container_Words_8 (k : Nat) : LSig := ⟨⟨[(.tmp 3, .grow false (.int .u64) 57)], [(3, .own 0), (18, .d (.sl (.st (.pair (.int .u16) (.int .u16))))), (19, .d (.int .i64)), (20, .d (.int .i64))]⟩, [(.exit 1, ⟨[(.tmp 3, .grow false (.int .u64) 57)], [(3, .own 0)]⟩)], fun x => container_Container_Words_l0 k x.1 x.2.1 x.2.2.1 x.2.2.2⟩
noncomputable def sig_container_Container_Words (k : Nat) : Sig := ⟨⟨[], [(0, .d (.st (.pair (.int .u8) (.pair (.sl (.int .u16)) (.pair (.sl (.int .u64)) (.sl (.st (.pair (.int .u16) (.int .u16)))))))))]⟩, ⟨[], [(0, .d (.sl (.int .u64)))]⟩, fun x => container_Container_Words k x⟩
noncomputable def G_container_Container_Words (k : Nat) : Gl := { m := 0, n := 53, gl := gl, ty := ty, fz := fz, fn := fnTab [(33, sig_slices_Clone_uint64 k), (63, sig_words_Of k)], lp := lpTab 0 [(11, ls_container_Container_Words_11 k), (8, ls_container_Container_Words_8 k)] }
theorem rfl_container_Container_Words_11 (k : Nat) (x) : (ls_container_Container_Words_11 (k + 1)).F x = (ev (G_container_Container_Words k) lb_container_Container_Words_11 (head (ls_container_Container_Words_11 k).hd (ofTup (ls_container_Container_Words_11 k).hd.shs x))).den (roundEnd 0 (ls_container_Container_Words_11 k)) := by kernel_rfl
theorem rfl_container_Container_Words_8 (k : Nat) (x) : (ls_container_Container_Words_8 (k + 1)).F x = (ev (G_container_Container_Words k) lb_container_Container_Words_8 (head (ls_container_Container_Words_8 k).hd (ofTup (ls_container_Container_Words_8 k).hd.shs x))).den (roundEnd 0 (ls_container_Container_Words_8 k)) := by kernel_rfl
theorem rfl_container_Container_Words (k : Nat) (x) : (sig_container_Container_Words k).F x = (ev (G_container_Container_Words k) body_container_Container_Words (head (sig_container_Container_Words k).ps (ofTup (sig_container_Container_Words k).ps.shs x))).den (funEnd (G_container_Container_Words k) Go.Proofs.Tryd.f29.results.toList 0 (sig_container_Container_Words k).rs) := by kernel_rfl
theorem calls_container_Container_Words (k : Nat) : CallsOK Go.Proofs.Tryd.prog gl (G_container_Container_Words k) := callsOK_tab (G := G_container_Container_Words k) (tab := [(33, sig_slices_Clone_uint64 k), (63, sig_words_Of k)]) (all_cons (ok_slices_Clone_uint64 k) (all_cons (ok_words_Of k) all_nil))
theorem loop_container_Container_Words_11 (C : Ctx) (hP : C.P = Go.Proofs.Tryd.prog) (hgl : C.gl = gl) (hm : C.m = 0) (hN : C.N = Go.Proofs.Tryd.f29.ntmps) (k : Nat) : LoopOK C (G_container_Container_Words k) lb_container_Container_Words_11 :=
  LoopOK.of (by rw [hP]; exact mix_ok) (hd := (ls_container_Container_Words_11 0).hd) (ex := (ls_container_Container_Words_11 0).ex) (F := fun k => (ls_container_Container_Words_11 k).F) (Gk := G_container_Container_Words) (fun k => gok hP hgl hm hN rfl (by kernel_rfl) rfl (ty_ok _ rfl) (calls_container_Container_Words k)) (fun k => loops_all (n := 0) (by kernel_rfl) lt_all0) (fun x => rfl)
    (fun k x => by rw [hm]; exact rfl_container_Container_Words_11 k x) k (fun S => by rw [hm]; kernel_rfl)
theorem loop_container_Container_Words_8 (C : Ctx) (hP : C.P = Go.Proofs.Tryd.prog) (hgl : C.gl = gl) (hm : C.m = 0) (hN : C.N = Go.Proofs.Tryd.f29.ntmps) (k : Nat) : LoopOK C (G_container_Container_Words k) lb_container_Container_Words_8 :=
  LoopOK.of (by rw [hP]; exact mix_ok) (hd := (ls_container_Container_Words_8 0).hd) (ex := (ls_container_Container_Words_8 0).ex) (F := fun k => (ls_container_Container_Words_8 k).F) (Gk := G_container_Container_Words) (fun k => gok hP hgl hm hN rfl (by kernel_rfl) rfl (ty_ok _ rfl) (calls_container_Container_Words k)) (fun k => loops_all (n := 1) (by kernel_rfl) (lt_allS lt_all0 (loop_container_Container_Words_11 C hP hgl hm hN k))) (fun x => rfl)
    (fun k x => by rw [hm]; exact rfl_container_Container_Words_8 k x) k (fun S => by rw [hm]; kernel_rfl)
theorem bodyok_container_Container_Words (k : Nat) : BodyOK Go.Proofs.Tryd.prog gl (G_container_Container_Words k) Go.Proofs.Tryd.f29 body_container_Container_Words (sig_container_Container_Words k).ps (sig_container_Container_Words k).rs :=
  ⟨rfl, by kernel_rfl, rfl, ty_ok _ rfl, calls_container_Container_Words k, by kernel_rfl, by kernel_rfl, fun C hP hgl hm hN => loops_all (n := 1) (by kernel_rfl) (lt_allS lt_all0 (loop_container_Container_Words_8 C hP hgl hm hN k))⟩
theorem ok_container_Container_Words (k : Nat) : FnOK Go.Proofs.Tryd.prog gl 29 (sig_container_Container_Words k) :=
  fun_ok (G := G_container_Container_Words k) (ps := (sig_container_Container_Words k).ps) (rs := (sig_container_Container_Words k).rs) (F := (sig_container_Container_Words k).F) mix_ok Go.Proofs.Tryd.func29 (c := body_container_Container_Words) (by kernel_rfl) (by kernel_rfl) (bodyok_container_Container_Words k) (rfl_container_Container_Words k)

noncomputable def body_container_Container_Canonical : Code := bodyOf Go.Proofs.Tryd.f32
noncomputable def sig_container_Container_Canonical (k : Nat) : Sig := ⟨⟨[], [(0, .d (.st (.pair (.int .u8) (.pair (.sl (.int .u16)) (.pair (.sl (.int .u64)) (.sl (.st (.pair (.int .u16) (.int .u16)))))))))]⟩, ⟨[], [(0, .d (.st (.pair (.int .u8) (.pair (.sl (.int .u16)) (.pair (.sl (.int .u64)) (.sl (.st (.pair (.int .u16) (.int .u16)))))))))]⟩, fun x => container_Container_Canonical k x⟩
noncomputable def G_container_Container_Canonical (k : Nat) : Gl := { m := 0, n := 46, gl := gl, ty := ty, fz := fz, fn := fnTab [(12, sig_container_Container_Len k), (65, sig_container_Container_many k), (22, sig_container_Container_Kind k), (11, sig_container_Container_Runs k), (15, sig_container_Container_Array k), (29, sig_container_Container_Words k)], lp := lpTab 0 [] }
theorem rfl_container_Container_Canonical (k : Nat) (x) : (sig_container_Container_Canonical k).F x = (ev (G_container_Container_Canonical k) body_container_Container_Canonical (head (sig_container_Container_Canonical k).ps (ofTup (sig_container_Container_Canonical k).ps.shs x))).den (funEnd (G_container_Container_Canonical k) Go.Proofs.Tryd.f32.results.toList 0 (sig_container_Container_Canonical k).rs) := by kernel_rfl
theorem calls_container_Container_Canonical (k : Nat) : CallsOK Go.Proofs.Tryd.prog gl (G_container_Container_Canonical k) := callsOK_tab (G := G_container_Container_Canonical k) (tab := [(12, sig_container_Container_Len k), (65, sig_container_Container_many k), (22, sig_container_Container_Kind k), (11, sig_container_Container_Runs k), (15, sig_container_Container_Array k), (29, sig_container_Container_Words k)]) (all_cons (ok_container_Container_Len k) (all_cons (ok_container_Container_many k) (all_cons (ok_container_Container_Kind k) (all_cons (ok_container_Container_Runs k) (all_cons (ok_container_Container_Array k) (all_cons (ok_container_Container_Words k) all_nil))))))
theorem bodyok_container_Container_Canonical (k : Nat) : BodyOK Go.Proofs.Tryd.prog gl (G_container_Container_Canonical k) Go.Proofs.Tryd.f32 body_container_Container_Canonical (sig_container_Container_Canonical k).ps (sig_container_Container_Canonical k).rs :=
  ⟨rfl, by kernel_rfl, rfl, ty_ok _ rfl, calls_container_Container_Canonical k, by kernel_rfl, by kernel_rfl, fun C hP hgl hm hN => loops_all (n := 0) (by kernel_rfl) lt_all0⟩
theorem ok_container_Container_Canonical (k : Nat) : FnOK Go.Proofs.Tryd.prog gl 32 (sig_container_Container_Canonical k) :=
  fun_ok (G := G_container_Container_Canonical k) (ps := (sig_container_Container_Canonical k).ps) (rs := (sig_container_Container_Canonical k).rs) (F := (sig_container_Container_Canonical k).F) mix_ok Go.Proofs.Tryd.func32 (c := body_container_Container_Canonical) (by kernel_rfl) (by kernel_rfl) (bodyok_container_Container_Canonical k) (rfl_container_Container_Canonical k)

noncomputable def body_words_Flip : Code := bodyOf Go.Proofs.Tryd.f34
noncomputable def lb_words_Flip_6 : Code := (loops body_words_Flip).getD 0 .skip
noncomputable def ls_words_Flip_6 (k : Nat) : LSig := ⟨⟨[(.tmp 7, .grow false (.int .u64) 57)], [(1, .d (.int .i64)), (2, .d (.int .i64)), (7, .own 0), (19, .d (.int .i64))]⟩, [(.exit 0, ⟨[(.tmp 7, .grow false (.int .u64) 57)], [(7, .own 0)]⟩)], fun x => words_Flip_l0 k x.1 x.2.1 x.2.2.1 x.2.2.2⟩
noncomputable def sig_words_Flip (k : Nat) : Sig := ⟨⟨[], [(0, .d (.sl (.int .u64))), (1, .d (.int .i64)), (2, .d (.int .i64))]⟩, ⟨[], [(0, .d (.sl (.int .u64)))]⟩, fun x => words_Flip k x.1 x.2.1 x.2.2⟩
noncomputable def G_words_Flip (k : Nat) : Gl := { m := 0, n := 52, gl := gl, ty := ty, fz := fz, fn := fnTab [], lp := lpTab 0 [(6, ls_words_Flip_6 k)] }
theorem rfl_words_Flip_6 (k : Nat) (x) : (ls_words_Flip_6 (k + 1)).F x = (ev (G_words_Flip k) lb_words_Flip_6 (head (ls_words_Flip_6 k).hd (ofTup (ls_words_Flip_6 k).hd.shs x))).den (roundEnd 0 (ls_words_Flip_6 k)) := by kernel_rfl
theorem rfl_words_Flip (k : Nat) (x) : (sig_words_Flip k).F x = (ev (G_words_Flip k) body_words_Flip (head (sig_words_Flip k).ps (ofTup (sig_words_Flip k).ps.shs x))).den (funEnd (G_words_Flip k) Go.Proofs.Tryd.f34.results.toList 0 (sig_words_Flip k).rs) := by kernel_rfl
theorem calls_words_Flip (k : Nat) : CallsOK Go.Proofs.Tryd.prog gl (G_words_Flip k) := callsOK_tab (G := G_words_Flip k) (tab := []) all_nil
theorem loop_words_Flip_6 (C : Ctx) (hP : C.P = Go.Proofs.Tryd.prog) (hgl : C.gl = gl) (hm : C.m = 0) (hN : C.N = Go.Proofs.Tryd.f34.ntmps) (k : Nat) : LoopOK C (G_words_Flip k) lb_words_Flip_6 :=
  LoopOK.of (by rw [hP]; exact mix_ok) (hd := (ls_words_Flip_6 0).hd) (ex := (ls_words_Flip_6 0).ex) (F := fun k => (ls_words_Flip_6 k).F) (Gk := G_words_Flip) (fun k => gok hP hgl hm hN rfl (by kernel_rfl) rfl (ty_ok _ rfl) (calls_words_Flip k)) (fun k => loops_all (n := 0) (by kernel_rfl) lt_all0) (fun x => rfl)
    (fun k x => by rw [hm]; exact rfl_words_Flip_6 k x) k (fun S => by rw [hm]; kernel_rfl)
theorem bodyok_words_Flip (k : Nat) : BodyOK Go.Proofs.Tryd.prog gl (G_words_Flip k) Go.Proofs.Tryd.f34 body_words_Flip (sig_words_Flip k).ps (sig_words_Flip k).rs :=
  ⟨rfl, by kernel_rfl, rfl, ty_ok _ rfl, calls_words_Flip k, by kernel_rfl, by kernel_rfl, fun C hP hgl hm hN => loops_all (n := 1) (by kernel_rfl) (lt_allS lt_all0 (loop_words_Flip_6 C hP hgl hm hN k))⟩
theorem ok_words_Flip (k : Nat) : FnOK Go.Proofs.Tryd.prog gl 34 (sig_words_Flip k) :=
  fun_ok (G := G_words_Flip k) (ps := (sig_words_Flip k).ps) (rs := (sig_words_Flip k).rs) (F := (sig_words_Flip k).F) mix_ok Go.Proofs.Tryd.func34 (c := body_words_Flip) (by kernel_rfl) (by kernel_rfl) (bodyok_words_Flip k) (rfl_words_Flip k)

noncomputable def body_runs_row : Code := bodyOf Go.Proofs.Tryd.f67
noncomputable def lb_runs_row_4 : Code := (loops body_runs_row).getD 0 .skip
noncomputable def ls_runs_row_4 (k : Nat) : LSig := ⟨⟨[(.tmp 3, .grow false (.int .i64) 3)], [(3, .own 0), (6, .d (.sl (.st (.pair (.int .u16) (.int .u16))))), (7, .d (.int .i64)), (8, .d (.int .i64))]⟩, [(.exit 0, ⟨[(.tmp 3, .grow false (.int .i64) 3)], [(3, .own 0)]⟩)], fun x => runs_row_l0 k x.1 x.2.1 x.2.2.1 x.2.2.2⟩
noncomputable def sig_runs_row (k : Nat) : Sig := ⟨⟨[], [(0, .d (.sl (.st (.pair (.int .u16) (.int .u16)))))]⟩, ⟨[], [(0, .d (.sl (.int .i64)))]⟩, fun x => runs_row k x⟩
noncomputable def G_runs_row (k : Nat) : Gl := { m := 0, n := 22, gl := gl, ty := ty, fz := fz, fn := fnTab [(72, sig_runs_end k)], lp := lpTab 0 [(4, ls_runs_row_4 k)] }
theorem rfl_runs_row_4 (k : Nat) (x) : (ls_runs_row_4 (k + 1)).F x = (ev (G_runs_row k) lb_runs_row_4 (head (ls_runs_row_4 k).hd (ofTup (ls_runs_row_4 k).hd.shs x))).den (roundEnd 0 (ls_runs_row_4 k)) := by kernel_rfl
theorem rfl_runs_row (k : Nat) (x) : (sig_runs_row k).F x = (ev (G_runs_row k) body_runs_row (head (sig_runs_row k).ps (ofTup (sig_runs_row k).ps.shs x))).den (funEnd (G_runs_row k) Go.Proofs.Tryd.f67.results.toList 0 (sig_runs_row k).rs) := by kernel_rfl
theorem calls_runs_row (k : Nat) : CallsOK Go.Proofs.Tryd.prog gl (G_runs_row k) := callsOK_tab (G := G_runs_row k) (tab := [(72, sig_runs_end k)]) (all_cons (ok_runs_end k) all_nil)
theorem loop_runs_row_4 (C : Ctx) (hP : C.P = Go.Proofs.Tryd.prog) (hgl : C.gl = gl) (hm : C.m = 0) (hN : C.N = Go.Proofs.Tryd.f67.ntmps) (k : Nat) : LoopOK C (G_runs_row k) lb_runs_row_4 :=
  LoopOK.of (by rw [hP]; exact mix_ok) (hd := (ls_runs_row_4 0).hd) (ex := (ls_runs_row_4 0).ex) (F := fun k => (ls_runs_row_4 k).F) (Gk := G_runs_row) (fun k => gok hP hgl hm hN rfl (by kernel_rfl) rfl (ty_ok _ rfl) (calls_runs_row k)) (fun k => loops_all (n := 0) (by kernel_rfl) lt_all0) (fun x => rfl)
    (fun k x => by rw [hm]; exact rfl_runs_row_4 k x) k (fun S => by rw [hm]; kernel_rfl)
theorem bodyok_runs_row (k : Nat) : BodyOK Go.Proofs.Tryd.prog gl (G_runs_row k) Go.Proofs.Tryd.f67 body_runs_row (sig_runs_row k).ps (sig_runs_row k).rs :=
  ⟨rfl, by kernel_rfl, rfl, ty_ok _ rfl, calls_runs_row k, by kernel_rfl, by kernel_rfl, fun C hP hgl hm hN => loops_all (n := 1) (by kernel_rfl) (lt_allS lt_all0 (loop_runs_row_4 C hP hgl hm hN k))⟩
theorem ok_runs_row (k : Nat) : FnOK Go.Proofs.Tryd.prog gl 67 (sig_runs_row k) :=
  fun_ok (G := G_runs_row k) (ps := (sig_runs_row k).ps) (rs := (sig_runs_row k).rs) (F := (sig_runs_row k).F) mix_ok Go.Proofs.Tryd.func67 (c := body_runs_row) (by kernel_rfl) (by kernel_rfl) (bodyok_runs_row k) (rfl_runs_row k)

noncomputable def body_runs_Flip_1 : Code := bodyOf Go.Proofs.Tryd.f68
noncomputable def sig_runs_Flip_1 (k : Nat) : Sig := ⟨⟨[], [(0, .d .bool), (1, .d .bool)]⟩, ⟨[], [(0, .d .bool)]⟩, fun x => runs_Flip_1 k x.1 x.2⟩
noncomputable def G_runs_Flip_1 (k : Nat) : Gl := { m := 0, n := 8, gl := gl, ty := ty, fz := fz, fn := fnTab [], lp := lpTab 0 [] }
theorem rfl_runs_Flip_1 (k : Nat) (x) : (sig_runs_Flip_1 k).F x = (ev (G_runs_Flip_1 k) body_runs_Flip_1 (head (sig_runs_Flip_1 k).ps (ofTup (sig_runs_Flip_1 k).ps.shs x))).den (funEnd (G_runs_Flip_1 k) Go.Proofs.Tryd.f68.results.toList 0 (sig_runs_Flip_1 k).rs) := by kernel_rfl
theorem calls_runs_Flip_1 (k : Nat) : CallsOK Go.Proofs.Tryd.prog gl (G_runs_Flip_1 k) := callsOK_tab (G := G_runs_Flip_1 k) (tab := []) all_nil
theorem bodyok_runs_Flip_1 (k : Nat) : BodyOK Go.Proofs.Tryd.prog gl (G_runs_Flip_1 k) Go.Proofs.Tryd.f68 body_runs_Flip_1 (sig_runs_Flip_1 k).ps (sig_runs_Flip_1 k).rs :=
  ⟨rfl, by kernel_rfl, rfl, ty_ok _ rfl, calls_runs_Flip_1 k, by kernel_rfl, by kernel_rfl, fun C hP hgl hm hN => loops_all (n := 0) (by kernel_rfl) lt_all0⟩
theorem ok_runs_Flip_1 (k : Nat) : FnOK Go.Proofs.Tryd.prog gl 68 (sig_runs_Flip_1 k) :=
  fun_ok (G := G_runs_Flip_1 k) (ps := (sig_runs_Flip_1 k).ps) (rs := (sig_runs_Flip_1 k).rs) (F := (sig_runs_Flip_1 k).F) mix_ok Go.Proofs.Tryd.func68 (c := body_runs_Flip_1) (by kernel_rfl) (by kernel_rfl) (bodyok_runs_Flip_1 k) (rfl_runs_Flip_1 k)

noncomputable def body_runs_edges_Flip_1 : Code := bodyOf Go.Proofs.Tryd.f66
noncomputable def lb_runs_edges_Flip_1_5 : Code := (loops body_runs_edges_Flip_1).getD 0 .skip
noncomputable def lb_runs_edges_Flip_1_11 : Code := (loops lb_runs_edges_Flip_1_5).getD 0 .skip
noncomputable def lb_runs_edges_Flip_1_13 : Code := (loops lb_runs_edges_Flip_1_5).getD 1 .skip
noncomputable def ls_runs_edges_Flip_1_11 (k : Nat) : LSig := ⟨⟨[(.tmp 7, .grow false (.st (.pair (.int .u16) (.int .u16))) 65)], [(0, .d (.sl (.int .i64))), (1, .d (.sl (.int .i64))), (2, .fn 68 [] []), (7, .own 0), (8, .d .bool), (9, .d (.int .i64)), (10, .d (.int .i64)), (11, .d (.int .i64)), (12, .d (.int .i64))]⟩, [(.exit 2, ⟨[(.tmp 7, .grow false (.st (.pair (.int .u16) (.int .u16))) 65)], [(0, .d (.sl (.int .i64))), (1, .d (.sl (.int .i64))), (2, .fn 68 [] []), (7, .own 0), (8, .d .bool), (9, .d (.int .i64)), (10, .d (.int .i64)), (11, .d (.int .i64)), (12, .d (.int .i64))]⟩)], fun x => runs_edges_Flip_1_l1 k x.1 x.2.1 x.2.2.1 x.2.2.2.1 x.2.2.2.2.1 x.2.2.2.2.2.1 x.2.2.2.2.2.2.1 x.2.2.2.2.2.2.2⟩
noncomputable def ls_runs_edges_Flip_1_13 (k : Nat) : LSig := ⟨⟨[(.tmp 7, .grow false (.st (.pair (.int .u16) (.int .u16))) 65)], [(0, .d (.sl (.int .i64))), (1, .d (.sl (.int .i64))), (2, .fn 68 [] []), (7, .own 0), (8, .d .bool), (9, .d (.int .i64)), (10, .d (.int .i64)), (11, .d (.int .i64)), (12, .d (.int .i64))]⟩, [(.exit 4, ⟨[(.tmp 7, .grow false (.st (.pair (.int .u16) (.int .u16))) 65)], [(0, .d (.sl (.int .i64))), (1, .d (.sl (.int .i64))), (2, .fn 68 [] []), (7, .own 0), (8, .d .bool), (9, .d (.int .i64)), (10, .d (.int .i64)), (11, .d (.int .i64)), (12, .d (.int .i64))]⟩)], fun x => runs_edges_Flip_1_l2 k x.1 x.2.1 x.2.2.1 x.2.2.2.1 x.2.2.2.2.1 x.2.2.2.2.2.1 x.2.2.2.2.2.2.1 x.2.2.2.2.2.2.2⟩
noncomputable def ls_runs_edges_Flip_1_5 (k : Nat) : LSig := ⟨⟨[(.tmp 7, .grow false (.st (.pair (.int .u16) (.int .u16))) 65)], [(0, .d (.sl (.int .i64))), (1, .d (.sl (.int .i64))), (2, .fn 68 [] []), (7, .own 0), (8, .d .bool), (9, .d (.int .i64)), (10, .d (.int .i64)), (11, .d (.int .i64))]⟩, [(.exit 0, ⟨[(.tmp 7, .grow false (.st (.pair (.int .u16) (.int .u16))) 65)], [(7, .own 0)]⟩)], fun x => runs_edges_Flip_1_l0 k x.1 x.2.1 x.2.2.1 x.2.2.2.1 x.2.2.2.2.1 x.2.2.2.2.2.1 x.2.2.2.2.2.2⟩
noncomputable def sig_runs_edges_Flip_1 (k : Nat) : Sig := ⟨⟨[], [(0, .d (.sl (.int .i64))), (1, .d (.sl (.int .i64))), (2, .fn 68 [] [])]⟩, ⟨[], [(0, .d (.sl (.st (.pair (.int .u16) (.int .u16)))))]⟩, fun x => runs_edges_Flip_1 k x.1 x.2⟩
noncomputable def G_runs_edges_Flip_1 (k : Nat) : Gl := { m := 0, n := 96, gl := gl, ty := ty, fz := fz, fn := fnTab [(68, sig_runs_Flip_1 k)], lp := lpTab 0 [(11, ls_runs_edges_Flip_1_11 k), (13, ls_runs_edges_Flip_1_13 k), (5, ls_runs_edges_Flip_1_5 k)] }
theorem rfl_runs_edges_Flip_1_11 (k : Nat) (x) : (ls_runs_edges_Flip_1_11 (k + 1)).F x = (ev (G_runs_edges_Flip_1 k) lb_runs_edges_Flip_1_11 (head (ls_runs_edges_Flip_1_11 k).hd (ofTup (ls_runs_edges_Flip_1_11 k).hd.shs x))).den (roundEnd 0 (ls_runs_edges_Flip_1_11 k)) := by kernel_rfl
theorem rfl_runs_edges_Flip_1_13 (k : Nat) (x) : (ls_runs_edges_Flip_1_13 (k + 1)).F x = (ev (G_runs_edges_Flip_1 k) lb_runs_edges_Flip_1_13 (head (ls_runs_edges_Flip_1_13 k).hd (ofTup (ls_runs_edges_Flip_1_13 k).hd.shs x))).den (roundEnd 0 (ls_runs_edges_Flip_1_13 k)) := by kernel_rfl
theorem rfl_runs_edges_Flip_1_5 (k : Nat) (x) : (ls_runs_edges_Flip_1_5 (k + 1)).F x = (ev (G_runs_edges_Flip_1 k) lb_runs_edges_Flip_1_5 (head (ls_runs_edges_Flip_1_5 k).hd (ofTup (ls_runs_edges_Flip_1_5 k).hd.shs x))).den (roundEnd 0 (ls_runs_edges_Flip_1_5 k)) := by kernel_rfl
theorem rfl_runs_edges_Flip_1 (k : Nat) (x) : (sig_runs_edges_Flip_1 k).F x = (ev (G_runs_edges_Flip_1 k) body_runs_edges_Flip_1 (head (sig_runs_edges_Flip_1 k).ps (ofTup (sig_runs_edges_Flip_1 k).ps.shs x))).den (funEnd (G_runs_edges_Flip_1 k) Go.Proofs.Tryd.f66.results.toList 0 (sig_runs_edges_Flip_1 k).rs) := by kernel_rfl
theorem calls_runs_edges_Flip_1 (k : Nat) : CallsOK Go.Proofs.Tryd.prog gl (G_runs_edges_Flip_1 k) := callsOK_tab (G := G_runs_edges_Flip_1 k) (tab := [(68, sig_runs_Flip_1 k)]) (all_cons (ok_runs_Flip_1 k) all_nil)
theorem loop_runs_edges_Flip_1_11 (C : Ctx) (hP : C.P = Go.Proofs.Tryd.prog) (hgl : C.gl = gl) (hm : C.m = 0) (hN : C.N = Go.Proofs.Tryd.f66.ntmps) (k : Nat) : LoopOK C (G_runs_edges_Flip_1 k) lb_runs_edges_Flip_1_11 :=
  LoopOK.of (by rw [hP]; exact mix_ok) (hd := (ls_runs_edges_Flip_1_11 0).hd) (ex := (ls_runs_edges_Flip_1_11 0).ex) (F := fun k => (ls_runs_edges_Flip_1_11 k).F) (Gk := G_runs_edges_Flip_1) (fun k => gok hP hgl hm hN rfl (by kernel_rfl) rfl (ty_ok _ rfl) (calls_runs_edges_Flip_1 k)) (fun k => loops_all (n := 0) (by kernel_rfl) lt_all0) (fun x => rfl)
    (fun k x => by rw [hm]; exact rfl_runs_edges_Flip_1_11 k x) k (fun S => by rw [hm]; kernel_rfl)
theorem loop_runs_edges_Flip_1_13 (C : Ctx) (hP : C.P = Go.Proofs.Tryd.prog) (hgl : C.gl = gl) (hm : C.m = 0) (hN : C.N = Go.Proofs.Tryd.f66.ntmps) (k : Nat) : LoopOK C (G_runs_edges_Flip_1 k) lb_runs_edges_Flip_1_13 :=
  LoopOK.of (by rw [hP]; exact mix_ok) (hd := (ls_runs_edges_Flip_1_13 0).hd) (ex := (ls_runs_edges_Flip_1_13 0).ex) (F := fun k => (ls_runs_edges_Flip_1_13 k).F) (Gk := G_runs_edges_Flip_1) (fun k => gok hP hgl hm hN rfl (by kernel_rfl) rfl (ty_ok _ rfl) (calls_runs_edges_Flip_1 k)) (fun k => loops_all (n := 0) (by kernel_rfl) lt_all0) (fun x => rfl)
    (fun k x => by rw [hm]; exact rfl_runs_edges_Flip_1_13 k x) k (fun S => by rw [hm]; kernel_rfl)
theorem loop_runs_edges_Flip_1_5 (C : Ctx) (hP : C.P = Go.Proofs.Tryd.prog) (hgl : C.gl = gl) (hm : C.m = 0) (hN : C.N = Go.Proofs.Tryd.f66.ntmps) (k : Nat) : LoopOK C (G_runs_edges_Flip_1 k) lb_runs_edges_Flip_1_5 :=
  LoopOK.of (by rw [hP]; exact mix_ok) (hd := (ls_runs_edges_Flip_1_5 0).hd) (ex := (ls_runs_edges_Flip_1_5 0).ex) (F := fun k => (ls_runs_edges_Flip_1_5 k).F) (Gk := G_runs_edges_Flip_1) (fun k => gok hP hgl hm hN rfl (by kernel_rfl) rfl (ty_ok _ rfl) (calls_runs_edges_Flip_1 k)) (fun k => loops_all (n := 2) (by kernel_rfl) (lt_allS (lt_allS lt_all0 (loop_runs_edges_Flip_1_11 C hP hgl hm hN k)) (loop_runs_edges_Flip_1_13 C hP hgl hm hN k))) (fun x => rfl)
    (fun k x => by rw [hm]; exact rfl_runs_edges_Flip_1_5 k x) k (fun S => by rw [hm]; kernel_rfl)
theorem bodyok_runs_edges_Flip_1 (k : Nat) : BodyOK Go.Proofs.Tryd.prog gl (G_runs_edges_Flip_1 k) Go.Proofs.Tryd.f66 body_runs_edges_Flip_1 (sig_runs_edges_Flip_1 k).ps (sig_runs_edges_Flip_1 k).rs :=
  ⟨rfl, by kernel_rfl, rfl, ty_ok _ rfl, calls_runs_edges_Flip_1 k, by kernel_rfl, by kernel_rfl, fun C hP hgl hm hN => loops_all (n := 1) (by kernel_rfl) (lt_allS lt_all0 (loop_runs_edges_Flip_1_5 C hP hgl hm hN k))⟩
theorem ok_runs_edges_Flip_1 (k : Nat) : FnOK Go.Proofs.Tryd.prog gl 66 (sig_runs_edges_Flip_1 k) :=
  fun_ok (G := G_runs_edges_Flip_1 k) (ps := (sig_runs_edges_Flip_1 k).ps) (rs := (sig_runs_edges_Flip_1 k).rs) (F := (sig_runs_edges_Flip_1 k).F) mix_ok Go.Proofs.Tryd.func66 (c := body_runs_edges_Flip_1) (by kernel_rfl) (by kernel_rfl) (bodyok_runs_edges_Flip_1 k) (rfl_runs_edges_Flip_1 k)

noncomputable def body_runs_Flip : Code := bodyOf Go.Proofs.Tryd.f35
noncomputable def sig_runs_Flip (k : Nat) : Sig := ⟨⟨[], [(0, .d (.sl (.st (.pair (.int .u16) (.int .u16))))), (1, .d (.int .i64)), (2, .d (.int .i64))]⟩, ⟨[], [(0, .d (.sl (.st (.pair (.int .u16) (.int .u16)))))]⟩, fun x => runs_Flip k x.1 x.2.1 x.2.2⟩
noncomputable def G_runs_Flip (k : Nat) : Gl := { m := 0, n := 22, gl := gl, ty := ty, fz := fz, fn := fnTab [(36, sig_slices_Clone_Run k), (67, sig_runs_row k), (66, sig_runs_edges_Flip_1 k)], lp := lpTab 0 [] }
theorem rfl_runs_Flip (k : Nat) (x) : (sig_runs_Flip k).F x = (ev (G_runs_Flip k) body_runs_Flip (head (sig_runs_Flip k).ps (ofTup (sig_runs_Flip k).ps.shs x))).den (funEnd (G_runs_Flip k) Go.Proofs.Tryd.f35.results.toList 0 (sig_runs_Flip k).rs) := by kernel_rfl
theorem calls_runs_Flip (k : Nat) : CallsOK Go.Proofs.Tryd.prog gl (G_runs_Flip k) := callsOK_tab (G := G_runs_Flip k) (tab := [(36, sig_slices_Clone_Run k), (67, sig_runs_row k), (66, sig_runs_edges_Flip_1 k)]) (all_cons (ok_slices_Clone_Run k) (all_cons (ok_runs_row k) (all_cons (ok_runs_edges_Flip_1 k) all_nil)))
theorem bodyok_runs_Flip (k : Nat) : BodyOK Go.Proofs.Tryd.prog gl (G_runs_Flip k) Go.Proofs.Tryd.f35 body_runs_Flip (sig_runs_Flip k).ps (sig_runs_Flip k).rs :=
  ⟨rfl, by kernel_rfl, rfl, ty_ok _ rfl, calls_runs_Flip k, by kernel_rfl, by kernel_rfl, fun C hP hgl hm hN => loops_all (n := 0) (by kernel_rfl) lt_all0⟩
theorem ok_runs_Flip (k : Nat) : FnOK Go.Proofs.Tryd.prog gl 35 (sig_runs_Flip k) :=
  fun_ok (G := G_runs_Flip k) (ps := (sig_runs_Flip k).ps) (rs := (sig_runs_Flip k).rs) (F := (sig_runs_Flip k).F) mix_ok Go.Proofs.Tryd.func35 (c := body_runs_Flip) (by kernel_rfl) (by kernel_rfl) (bodyok_runs_Flip k) (rfl_runs_Flip k)

noncomputable def body_container_Container_Flip : Code := bodyOf Go.Proofs.Tryd.f10
noncomputable def sig_container_Container_Flip (k : Nat) : Sig := ⟨⟨[], [(0, .d (.st (.pair (.int .u8) (.pair (.sl (.int .u16)) (.pair (.sl (.int .u64)) (.sl (.st (.pair (.int .u16) (.int .u16))))))))), (1, .d (.int .i64)), (2, .d (.int .i64))]⟩, ⟨[], [(0, .d (.st (.pair (.int .u8) (.pair (.sl (.int .u16)) (.pair (.sl (.int .u64)) (.sl (.st (.pair (.int .u16) (.int .u16)))))))))]⟩, fun x => container_Container_Flip k x.1 x.2.1 x.2.2⟩
noncomputable def G_container_Container_Flip (k : Nat) : Gl := { m := 0, n := 24, gl := gl, ty := ty, fz := fz, fn := fnTab [(34, sig_words_Flip k), (32, sig_container_Container_Canonical k), (11, sig_container_Container_Runs k), (35, sig_runs_Flip k)], lp := lpTab 0 [] }
theorem rfl_container_Container_Flip (k : Nat) (x) : (sig_container_Container_Flip k).F x = (ev (G_container_Container_Flip k) body_container_Container_Flip (head (sig_container_Container_Flip k).ps (ofTup (sig_container_Container_Flip k).ps.shs x))).den (funEnd (G_container_Container_Flip k) Go.Proofs.Tryd.f10.results.toList 0 (sig_container_Container_Flip k).rs) := by kernel_rfl
theorem calls_container_Container_Flip (k : Nat) : CallsOK Go.Proofs.Tryd.prog gl (G_container_Container_Flip k) := callsOK_tab (G := G_container_Container_Flip k) (tab := [(34, sig_words_Flip k), (32, sig_container_Container_Canonical k), (11, sig_container_Container_Runs k), (35, sig_runs_Flip k)]) (all_cons (ok_words_Flip k) (all_cons (ok_container_Container_Canonical k) (all_cons (ok_container_Container_Runs k) (all_cons (ok_runs_Flip k) all_nil))))
theorem bodyok_container_Container_Flip (k : Nat) : BodyOK Go.Proofs.Tryd.prog gl (G_container_Container_Flip k) Go.Proofs.Tryd.f10 body_container_Container_Flip (sig_container_Container_Flip k).ps (sig_container_Container_Flip k).rs :=
  ⟨rfl, by kernel_rfl, rfl, ty_ok _ rfl, calls_container_Container_Flip k, by kernel_rfl, by kernel_rfl, fun C hP hgl hm hN => loops_all (n := 0) (by kernel_rfl) lt_all0⟩
theorem ok_container_Container_Flip (k : Nat) : FnOK Go.Proofs.Tryd.prog gl 10 (sig_container_Container_Flip k) :=
  fun_ok (G := G_container_Container_Flip k) (ps := (sig_container_Container_Flip k).ps) (rs := (sig_container_Container_Flip k).rs) (F := (sig_container_Container_Flip k).F) mix_ok Go.Proofs.Tryd.func10 (c := body_container_Container_Flip) (by kernel_rfl) (by kernel_rfl) (bodyok_container_Container_Flip k) (rfl_container_Container_Flip k)

noncomputable def body_container_Container_With : Code := bodyOf Go.Proofs.Tryd.f25
noncomputable def sig_container_Container_With (k : Nat) : Sig := ⟨⟨[], [(0, .d (.st (.pair (.int .u8) (.pair (.sl (.int .u16)) (.pair (.sl (.int .u64)) (.sl (.st (.pair (.int .u16) (.int .u16))))))))), (1, .d (.int .u16))]⟩, ⟨[], [(0, .d (.st (.pair (.int .u8) (.pair (.sl (.int .u16)) (.pair (.sl (.int .u64)) (.sl (.st (.pair (.int .u16) (.int .u16)))))))))]⟩, fun x => container_Container_With k x.1 x.2⟩
noncomputable def G_container_Container_With (k : Nat) : Gl := { m := 0, n := 17, gl := gl, ty := ty, fz := fz, fn := fnTab [(45, sig_container_Container_Has k), (32, sig_container_Container_Canonical k), (10, sig_container_Container_Flip k)], lp := lpTab 0 [] }
theorem rfl_container_Container_With (k : Nat) (x) : (sig_container_Container_With k).F x = (ev (G_container_Container_With k) body_container_Container_With (head (sig_container_Container_With k).ps (ofTup (sig_container_Container_With k).ps.shs x))).den (funEnd (G_container_Container_With k) Go.Proofs.Tryd.f25.results.toList 0 (sig_container_Container_With k).rs) := by kernel_rfl
theorem calls_container_Container_With (k : Nat) : CallsOK Go.Proofs.Tryd.prog gl (G_container_Container_With k) := callsOK_tab (G := G_container_Container_With k) (tab := [(45, sig_container_Container_Has k), (32, sig_container_Container_Canonical k), (10, sig_container_Container_Flip k)]) (all_cons (ok_container_Container_Has k) (all_cons (ok_container_Container_Canonical k) (all_cons (ok_container_Container_Flip k) all_nil)))
theorem bodyok_container_Container_With (k : Nat) : BodyOK Go.Proofs.Tryd.prog gl (G_container_Container_With k) Go.Proofs.Tryd.f25 body_container_Container_With (sig_container_Container_With k).ps (sig_container_Container_With k).rs :=
  ⟨rfl, by kernel_rfl, rfl, ty_ok _ rfl, calls_container_Container_With k, by kernel_rfl, by kernel_rfl, fun C hP hgl hm hN => loops_all (n := 0) (by kernel_rfl) lt_all0⟩
theorem ok_container_Container_With (k : Nat) : FnOK Go.Proofs.Tryd.prog gl 25 (sig_container_Container_With k) :=
  fun_ok (G := G_container_Container_With k) (ps := (sig_container_Container_With k).ps) (rs := (sig_container_Container_With k).rs) (F := (sig_container_Container_With k).F) mix_ok Go.Proofs.Tryd.func25 (c := body_container_Container_With) (by kernel_rfl) (by kernel_rfl) (bodyok_container_Container_With k) (rfl_container_Container_With k)

noncomputable def body_container_Container_Size : Code := bodyOf Go.Proofs.Tryd.f13
noncomputable def sig_container_Container_Size (k : Nat) : Sig := ⟨⟨[], [(0, .d (.st (.pair (.int .u8) (.pair (.sl (.int .u16)) (.pair (.sl (.int .u64)) (.sl (.st (.pair (.int .u16) (.int .u16)))))))))]⟩, ⟨[], [(0, .d (.int .i64))]⟩, fun x => container_Container_Size k x⟩
noncomputable def G_container_Container_Size (k : Nat) : Gl := { m := 0, n := 18, gl := gl, ty := ty, fz := fz, fn := fnTab [], lp := lpTab 0 [] }
theorem rfl_container_Container_Size (k : Nat) (x) : (sig_container_Container_Size k).F x = (ev (G_container_Container_Size k) body_container_Container_Size (head (sig_container_Container_Size k).ps (ofTup (sig_container_Container_Size k).ps.shs x))).den (funEnd (G_container_Container_Size k) Go.Proofs.Tryd.f13.results.toList 0 (sig_container_Container_Size k).rs) := by kernel_rfl
theorem calls_container_Container_Size (k : Nat) : CallsOK Go.Proofs.Tryd.prog gl (G_container_Container_Size k) := callsOK_tab (G := G_container_Container_Size k) (tab := []) all_nil
theorem bodyok_container_Container_Size (k : Nat) : BodyOK Go.Proofs.Tryd.prog gl (G_container_Container_Size k) Go.Proofs.Tryd.f13 body_container_Container_Size (sig_container_Container_Size k).ps (sig_container_Container_Size k).rs :=
  ⟨rfl, by kernel_rfl, rfl, ty_ok _ rfl, calls_container_Container_Size k, by kernel_rfl, by kernel_rfl, fun C hP hgl hm hN => loops_all (n := 0) (by kernel_rfl) lt_all0⟩
theorem ok_container_Container_Size (k : Nat) : FnOK Go.Proofs.Tryd.prog gl 13 (sig_container_Container_Size k) :=
  fun_ok (G := G_container_Container_Size k) (ps := (sig_container_Container_Size k).ps) (rs := (sig_container_Container_Size k).rs) (F := (sig_container_Container_Size k).F) mix_ok Go.Proofs.Tryd.func13 (c := body_container_Container_Size) (by kernel_rfl) (by kernel_rfl) (bodyok_container_Container_Size k) (rfl_container_Container_Size k)

noncomputable def body_isinglasslaw07_known : Code := bodyOf Go.Proofs.Tryd.f6
noncomputable def sig_isinglasslaw07_known (k : Nat) : Sig := ⟨⟨[], []⟩, ⟨[], [(0, .d .bool)]⟩, fun x => isinglasslaw07_known k⟩
noncomputable def G_isinglasslaw07_known (k : Nat) : Gl := { m := 0, n := 73, gl := gl, ty := ty, fz := fz, fn := fnTab [(31, sig_container_OfArray k), (25, sig_container_Container_With k), (10, sig_container_Container_Flip k), (32, sig_container_Container_Canonical k), (22, sig_container_Container_Kind k), (13, sig_container_Container_Size k), (12, sig_container_Container_Len k)], lp := lpTab 0 [] }
theorem rfl_isinglasslaw07_known (k : Nat) (x) : (sig_isinglasslaw07_known k).F x = (ev (G_isinglasslaw07_known k) body_isinglasslaw07_known (head (sig_isinglasslaw07_known k).ps (ofTup (sig_isinglasslaw07_known k).ps.shs x))).den (funEnd (G_isinglasslaw07_known k) Go.Proofs.Tryd.f6.results.toList 0 (sig_isinglasslaw07_known k).rs) := by kernel_rfl
theorem calls_isinglasslaw07_known (k : Nat) : CallsOK Go.Proofs.Tryd.prog gl (G_isinglasslaw07_known k) := callsOK_tab (G := G_isinglasslaw07_known k) (tab := [(31, sig_container_OfArray k), (25, sig_container_Container_With k), (10, sig_container_Container_Flip k), (32, sig_container_Container_Canonical k), (22, sig_container_Container_Kind k), (13, sig_container_Container_Size k), (12, sig_container_Container_Len k)]) (all_cons (ok_container_OfArray k) (all_cons (ok_container_Container_With k) (all_cons (ok_container_Container_Flip k) (all_cons (ok_container_Container_Canonical k) (all_cons (ok_container_Container_Kind k) (all_cons (ok_container_Container_Size k) (all_cons (ok_container_Container_Len k) all_nil)))))))
theorem bodyok_isinglasslaw07_known (k : Nat) : BodyOK Go.Proofs.Tryd.prog gl (G_isinglasslaw07_known k) Go.Proofs.Tryd.f6 body_isinglasslaw07_known (sig_isinglasslaw07_known k).ps (sig_isinglasslaw07_known k).rs :=
  ⟨rfl, by kernel_rfl, rfl, ty_ok _ rfl, calls_isinglasslaw07_known k, by kernel_rfl, by kernel_rfl, fun C hP hgl hm hN => loops_all (n := 0) (by kernel_rfl) lt_all0⟩
theorem ok_isinglasslaw07_known (k : Nat) : FnOK Go.Proofs.Tryd.prog gl 6 (sig_isinglasslaw07_known k) :=
  fun_ok (G := G_isinglasslaw07_known k) (ps := (sig_isinglasslaw07_known k).ps) (rs := (sig_isinglasslaw07_known k).rs) (F := (sig_isinglasslaw07_known k).F) mix_ok Go.Proofs.Tryd.func6 (c := body_isinglasslaw07_known) (by kernel_rfl) (by kernel_rfl) (bodyok_isinglasslaw07_known k) (rfl_isinglasslaw07_known k)

noncomputable def body_isinglassref04_Of : Code := bodyOf Go.Proofs.Tryd.f9
noncomputable def lb_isinglassref04_Of_4 : Code := (loops body_isinglassref04_Of).getD 0 .skip
noncomputable def ls_isinglassref04_Of_4 (k : Nat) : LSig := ⟨⟨[(.tmp 3, .arr .bool)], [(0, .d (.sl (.int .u16))), (3, .ptr 0 0), (4, .d (.int .i64))]⟩, [(.exit 0, ⟨[(.tmp 3, .arr .bool)], [(3, .ptr 0 0)]⟩)], fun x => isinglassref04_Of_l0 k x.1 x.2.1 x.2.2⟩
noncomputable def sig_isinglassref04_Of (k : Nat) : Sig := ⟨⟨[], [(0, .d (.sl (.int .u16)))]⟩, ⟨[(.tmp 0, .arr .bool)], [(0, .ptr 0 0)]⟩, fun x => isinglassref04_Of k x⟩
noncomputable def G_isinglassref04_Of (k : Nat) : Gl := { m := 0, n := 21, gl := gl, ty := ty, fz := fz, fn := fnTab [], lp := lpTab 0 [(4, ls_isinglassref04_Of_4 k)] }
theorem rfl_isinglassref04_Of_4 (k : Nat) (x) : (ls_isinglassref04_Of_4 (k + 1)).F x = (ev (G_isinglassref04_Of k) lb_isinglassref04_Of_4 (head (ls_isinglassref04_Of_4 k).hd (ofTup (ls_isinglassref04_Of_4 k).hd.shs x))).den (roundEnd 0 (ls_isinglassref04_Of_4 k)) := by kernel_rfl
theorem rfl_isinglassref04_Of (k : Nat) (x) : (sig_isinglassref04_Of k).F x = (ev (G_isinglassref04_Of k) body_isinglassref04_Of (head (sig_isinglassref04_Of k).ps (ofTup (sig_isinglassref04_Of k).ps.shs x))).den (funEnd (G_isinglassref04_Of k) Go.Proofs.Tryd.f9.results.toList 0 (sig_isinglassref04_Of k).rs) := by kernel_rfl
theorem calls_isinglassref04_Of (k : Nat) : CallsOK Go.Proofs.Tryd.prog gl (G_isinglassref04_Of k) := callsOK_tab (G := G_isinglassref04_Of k) (tab := []) all_nil
theorem loop_isinglassref04_Of_4 (C : Ctx) (hP : C.P = Go.Proofs.Tryd.prog) (hgl : C.gl = gl) (hm : C.m = 0) (hN : C.N = Go.Proofs.Tryd.f9.ntmps) (k : Nat) : LoopOK C (G_isinglassref04_Of k) lb_isinglassref04_Of_4 :=
  LoopOK.of (by rw [hP]; exact mix_ok) (hd := (ls_isinglassref04_Of_4 0).hd) (ex := (ls_isinglassref04_Of_4 0).ex) (F := fun k => (ls_isinglassref04_Of_4 k).F) (Gk := G_isinglassref04_Of) (fun k => gok hP hgl hm hN rfl (by kernel_rfl) rfl (ty_ok _ rfl) (calls_isinglassref04_Of k)) (fun k => loops_all (n := 0) (by kernel_rfl) lt_all0) (fun x => rfl)
    (fun k x => by rw [hm]; exact rfl_isinglassref04_Of_4 k x) k (fun S => by rw [hm]; kernel_rfl)
theorem bodyok_isinglassref04_Of (k : Nat) : BodyOK Go.Proofs.Tryd.prog gl (G_isinglassref04_Of k) Go.Proofs.Tryd.f9 body_isinglassref04_Of (sig_isinglassref04_Of k).ps (sig_isinglassref04_Of k).rs :=
  ⟨rfl, by kernel_rfl, rfl, ty_ok _ rfl, calls_isinglassref04_Of k, by kernel_rfl, by kernel_rfl, fun C hP hgl hm hN => loops_all (n := 1) (by kernel_rfl) (lt_allS lt_all0 (loop_isinglassref04_Of_4 C hP hgl hm hN k))⟩
theorem ok_isinglassref04_Of (k : Nat) : FnOK Go.Proofs.Tryd.prog gl 9 (sig_isinglassref04_Of k) :=
  fun_ok (G := G_isinglassref04_Of k) (ps := (sig_isinglassref04_Of k).ps) (rs := (sig_isinglassref04_Of k).rs) (F := (sig_isinglassref04_Of k).F) mix_ok Go.Proofs.Tryd.func9 (c := body_isinglassref04_Of) (by kernel_rfl) (by kernel_rfl) (bodyok_isinglassref04_Of k) (rfl_isinglassref04_Of k)

noncomputable def body_isinglassref05_Words : Code := bodyOf Go.Proofs.Tryd.f8
noncomputable def lb_isinglassref05_Words_4 : Code := (loops body_isinglassref05_Words).getD 0 .skip
noncomputable def ls_isinglassref05_Words_4 (k : Nat) : LSig := ⟨⟨[(.pin 0, .arr .bool), (.tmp 3, .grow false (.int .u64) 57)], [(0, .ptr 0 0), (3, .own 1), (4, .d (.int .i64))]⟩, [(.exit 0, ⟨[(.pin 0, .arr .bool), (.tmp 3, .grow false (.int .u64) 57)], [(3, .own 1)]⟩)], fun x => isinglassref05_Words_l0 k x.1 x.2.1 x.2.2⟩
noncomputable def sig_isinglassref05_Words (k : Nat) : Sig := ⟨⟨[(.pin 0, .arr .bool)], [(0, .ptr 0 0)]⟩, ⟨[(.pin 0, .arr .bool)], [(0, .d (.sl (.int .u64)))]⟩, fun x => isinglassref05_Words k x⟩
noncomputable def G_isinglassref05_Words (k : Nat) : Gl := { m := 1, n := 30, gl := gl, ty := ty, fz := fz, fn := fnTab [], lp := lpTab 1 [(4, ls_isinglassref05_Words_4 k)] }
theorem rfl_isinglassref05_Words_4 (k : Nat) (x) : (ls_isinglassref05_Words_4 (k + 1)).F x = (ev (G_isinglassref05_Words k) lb_isinglassref05_Words_4 (head (ls_isinglassref05_Words_4 k).hd (ofTup (ls_isinglassref05_Words_4 k).hd.shs x))).den (roundEnd 1 (ls_isinglassref05_Words_4 k)) := by kernel_rfl
theorem rfl_isinglassref05_Words (k : Nat) (x) : (sig_isinglassref05_Words k).F x = (ev (G_isinglassref05_Words k) body_isinglassref05_Words (head (sig_isinglassref05_Words k).ps (ofTup (sig_isinglassref05_Words k).ps.shs x))).den (funEnd (G_isinglassref05_Words k) Go.Proofs.Tryd.f8.results.toList 1 (sig_isinglassref05_Words k).rs) := by kernel_rfl
theorem calls_isinglassref05_Words (k : Nat) : CallsOK Go.Proofs.Tryd.prog gl (G_isinglassref05_Words k) := callsOK_tab (G := G_isinglassref05_Words k) (tab := []) all_nil
theorem loop_isinglassref05_Words_4 (C : Ctx) (hP : C.P = Go.Proofs.Tryd.prog) (hgl : C.gl = gl) (hm : C.m = 1) (hN : C.N = Go.Proofs.Tryd.f8.ntmps) (k : Nat) : LoopOK C (G_isinglassref05_Words k) lb_isinglassref05_Words_4 :=
  LoopOK.of (by rw [hP]; exact mix_ok) (hd := (ls_isinglassref05_Words_4 0).hd) (ex := (ls_isinglassref05_Words_4 0).ex) (F := fun k => (ls_isinglassref05_Words_4 k).F) (Gk := G_isinglassref05_Words) (fun k => gok hP hgl hm hN rfl (by kernel_rfl) rfl (ty_ok _ rfl) (calls_isinglassref05_Words k)) (fun k => loops_all (n := 0) (by kernel_rfl) lt_all0) (fun x => rfl)
    (fun k x => by rw [hm]; exact rfl_isinglassref05_Words_4 k x) k (fun S => by rw [hm]; kernel_rfl)
theorem bodyok_isinglassref05_Words (k : Nat) : BodyOK Go.Proofs.Tryd.prog gl (G_isinglassref05_Words k) Go.Proofs.Tryd.f8 body_isinglassref05_Words (sig_isinglassref05_Words k).ps (sig_isinglassref05_Words k).rs :=
  ⟨rfl, by kernel_rfl, rfl, ty_ok _ rfl, calls_isinglassref05_Words k, by kernel_rfl, by kernel_rfl, fun C hP hgl hm hN => loops_all (n := 1) (by kernel_rfl) (lt_allS lt_all0 (loop_isinglassref05_Words_4 C hP hgl hm hN k))⟩
theorem ok_isinglassref05_Words (k : Nat) : FnOK Go.Proofs.Tryd.prog gl 8 (sig_isinglassref05_Words k) :=
  fun_ok (G := G_isinglassref05_Words k) (ps := (sig_isinglassref05_Words k).ps) (rs := (sig_isinglassref05_Words k).rs) (F := (sig_isinglassref05_Words k).F) mix_ok Go.Proofs.Tryd.func8 (c := body_isinglassref05_Words) (by kernel_rfl) (by kernel_rfl) (bodyok_isinglassref05_Words k) (rfl_isinglassref05_Words k)

noncomputable def body_container_OfWords : Code := bodyOf Go.Proofs.Tryd.f7
noncomputable def sig_container_OfWords (k : Nat) : Sig := ⟨⟨[], [(0, .d (.sl (.int .u64)))]⟩, ⟨[], [(0, .d (.st (.pair (.int .u8) (.pair (.sl (.int .u16)) (.pair (.sl (.int .u64)) (.sl (.st (.pair (.int .u16) (.int .u16))))))))), (1, .d .bool)]⟩, fun x => container_OfWords k x⟩
noncomputable def G_container_OfWords (k : Nat) : Gl := { m := 0, n := 11, gl := gl, ty := ty, fz := fz, fn := fnTab [(33, sig_slices_Clone_uint64 k)], lp := lpTab 0 [] }
theorem rfl_container_OfWords (k : Nat) (x) : (sig_container_OfWords k).F x = (ev (G_container_OfWords k) body_container_OfWords (head (sig_container_OfWords k).ps (ofTup (sig_container_OfWords k).ps.shs x))).den (funEnd (G_container_OfWords k) Go.Proofs.Tryd.f7.results.toList 0 (sig_container_OfWords k).rs) := by kernel_rfl
theorem calls_container_OfWords (k : Nat) : CallsOK Go.Proofs.Tryd.prog gl (G_container_OfWords k) := callsOK_tab (G := G_container_OfWords k) (tab := [(33, sig_slices_Clone_uint64 k)]) (all_cons (ok_slices_Clone_uint64 k) all_nil)
theorem bodyok_container_OfWords (k : Nat) : BodyOK Go.Proofs.Tryd.prog gl (G_container_OfWords k) Go.Proofs.Tryd.f7 body_container_OfWords (sig_container_OfWords k).ps (sig_container_OfWords k).rs :=
  ⟨rfl, by kernel_rfl, rfl, ty_ok _ rfl, calls_container_OfWords k, by kernel_rfl, by kernel_rfl, fun C hP hgl hm hN => loops_all (n := 0) (by kernel_rfl) lt_all0⟩
theorem ok_container_OfWords (k : Nat) : FnOK Go.Proofs.Tryd.prog gl 7 (sig_container_OfWords k) :=
  fun_ok (G := G_container_OfWords k) (ps := (sig_container_OfWords k).ps) (rs := (sig_container_OfWords k).rs) (F := (sig_container_OfWords k).F) mix_ok Go.Proofs.Tryd.func7 (c := body_container_OfWords) (by kernel_rfl) (by kernel_rfl) (bodyok_container_OfWords k) (rfl_container_OfWords k)

noncomputable def body_isinglassref04_Same : Code := bodyOf Go.Proofs.Tryd.f14
noncomputable def lb_isinglassref04_Same_5 : Code := (loops body_isinglassref04_Same).getD 0 .skip
noncomputable def ls_isinglassref04_Same_5 (k : Nat) : LSig := ⟨⟨[], [(0, .d (.sl (.int .u16))), (1, .d (.sl (.int .u16))), (5, .d (.int .i64))]⟩, [(.ret, ⟨[], [(4, .d .bool)]⟩), (.exit 0, ⟨[], []⟩)], fun x => isinglassref04_Same_l0 k x.1 x.2.1 x.2.2⟩
noncomputable def sig_isinglassref04_Same (k : Nat) : Sig := ⟨⟨[], [(0, .d (.sl (.int .u16))), (1, .d (.sl (.int .u16)))]⟩, ⟨[], [(0, .d .bool)]⟩, fun x => isinglassref04_Same k x.1 x.2⟩
noncomputable def G_isinglassref04_Same (k : Nat) : Gl := { m := 0, n := 26, gl := gl, ty := ty, fz := fz, fn := fnTab [], lp := lpTab 0 [(5, ls_isinglassref04_Same_5 k)] }
theorem rfl_isinglassref04_Same_5 (k : Nat) (x) : (ls_isinglassref04_Same_5 (k + 1)).F x = (ev (G_isinglassref04_Same k) lb_isinglassref04_Same_5 (head (ls_isinglassref04_Same_5 k).hd (ofTup (ls_isinglassref04_Same_5 k).hd.shs x))).den (roundEnd 0 (ls_isinglassref04_Same_5 k)) := by kernel_rfl
theorem rfl_isinglassref04_Same (k : Nat) (x) : (sig_isinglassref04_Same k).F x = (ev (G_isinglassref04_Same k) body_isinglassref04_Same (head (sig_isinglassref04_Same k).ps (ofTup (sig_isinglassref04_Same k).ps.shs x))).den (funEnd (G_isinglassref04_Same k) Go.Proofs.Tryd.f14.results.toList 0 (sig_isinglassref04_Same k).rs) := by kernel_rfl
theorem calls_isinglassref04_Same (k : Nat) : CallsOK Go.Proofs.Tryd.prog gl (G_isinglassref04_Same k) := callsOK_tab (G := G_isinglassref04_Same k) (tab := []) all_nil
theorem loop_isinglassref04_Same_5 (C : Ctx) (hP : C.P = Go.Proofs.Tryd.prog) (hgl : C.gl = gl) (hm : C.m = 0) (hN : C.N = Go.Proofs.Tryd.f14.ntmps) (k : Nat) : LoopOK C (G_isinglassref04_Same k) lb_isinglassref04_Same_5 :=
  LoopOK.of (by rw [hP]; exact mix_ok) (hd := (ls_isinglassref04_Same_5 0).hd) (ex := (ls_isinglassref04_Same_5 0).ex) (F := fun k => (ls_isinglassref04_Same_5 k).F) (Gk := G_isinglassref04_Same) (fun k => gok hP hgl hm hN rfl (by kernel_rfl) rfl (ty_ok _ rfl) (calls_isinglassref04_Same k)) (fun k => loops_all (n := 0) (by kernel_rfl) lt_all0) (fun x => rfl)
    (fun k x => by rw [hm]; exact rfl_isinglassref04_Same_5 k x) k (fun S => by rw [hm]; kernel_rfl)
theorem bodyok_isinglassref04_Same (k : Nat) : BodyOK Go.Proofs.Tryd.prog gl (G_isinglassref04_Same k) Go.Proofs.Tryd.f14 body_isinglassref04_Same (sig_isinglassref04_Same k).ps (sig_isinglassref04_Same k).rs :=
  ⟨rfl, by kernel_rfl, rfl, ty_ok _ rfl, calls_isinglassref04_Same k, by kernel_rfl, by kernel_rfl, fun C hP hgl hm hN => loops_all (n := 1) (by kernel_rfl) (lt_allS lt_all0 (loop_isinglassref04_Same_5 C hP hgl hm hN k))⟩
theorem ok_isinglassref04_Same (k : Nat) : FnOK Go.Proofs.Tryd.prog gl 14 (sig_isinglassref04_Same k) :=
  fun_ok (G := G_isinglassref04_Same k) (ps := (sig_isinglassref04_Same k).ps) (rs := (sig_isinglassref04_Same k).rs) (F := (sig_isinglassref04_Same k).F) mix_ok Go.Proofs.Tryd.func14 (c := body_isinglassref04_Same) (by kernel_rfl) (by kernel_rfl) (bodyok_isinglassref04_Same k) (rfl_isinglassref04_Same k)

noncomputable def body_container_sift_1 : Code := bodyOf Go.Proofs.Tryd.f74
noncomputable def sig_container_sift_1 (k : Nat) : Sig := ⟨⟨[(.pin 0, .cells [.fn 45 [.d (.st (.pair (.int .u8) (.pair (.sl (.int .u16)) (.pair (.sl (.int .u64)) (.sl (.st (.pair (.int .u16) (.int .u16))))))))] []])], [(0, .d (.int .u16)), (1, .ptr 0 0)]⟩, ⟨[(.pin 0, .cells [.fn 45 [.d (.st (.pair (.int .u8) (.pair (.sl (.int .u16)) (.pair (.sl (.int .u64)) (.sl (.st (.pair (.int .u16) (.int .u16))))))))] []])], [(0, .d .bool)]⟩, fun x => container_sift_1 k x.1 x.2⟩
noncomputable def G_container_sift_1 (k : Nat) : Gl := { m := 1, n := 8, gl := gl, ty := ty, fz := fz, fn := fnTab [(45, sig_container_Container_Has k)], lp := lpTab 1 [] }
theorem rfl_container_sift_1 (k : Nat) (x) : (sig_container_sift_1 k).F x = (ev (G_container_sift_1 k) body_container_sift_1 (head (sig_container_sift_1 k).ps (ofTup (sig_container_sift_1 k).ps.shs x))).den (funEnd (G_container_sift_1 k) Go.Proofs.Tryd.f74.results.toList 1 (sig_container_sift_1 k).rs) := by kernel_rfl
theorem calls_container_sift_1 (k : Nat) : CallsOK Go.Proofs.Tryd.prog gl (G_container_sift_1 k) := callsOK_tab (G := G_container_sift_1 k) (tab := [(45, sig_container_Container_Has k)]) (all_cons (ok_container_Container_Has k) all_nil)
theorem bodyok_container_sift_1 (k : Nat) : BodyOK Go.Proofs.Tryd.prog gl (G_container_sift_1 k) Go.Proofs.Tryd.f74 body_container_sift_1 (sig_container_sift_1 k).ps (sig_container_sift_1 k).rs :=
  ⟨rfl, by kernel_rfl, rfl, ty_ok _ rfl, calls_container_sift_1 k, by kernel_rfl, by kernel_rfl, fun C hP hgl hm hN => loops_all (n := 0) (by kernel_rfl) lt_all0⟩
theorem ok_container_sift_1 (k : Nat) : FnOK Go.Proofs.Tryd.prog gl 74 (sig_container_sift_1 k) :=
  fun_ok (G := G_container_sift_1 k) (ps := (sig_container_sift_1 k).ps) (rs := (sig_container_sift_1 k).rs) (F := (sig_container_sift_1 k).F) mix_ok Go.Proofs.Tryd.func74 (c := body_container_sift_1) (by kernel_rfl) (by kernel_rfl) (bodyok_container_sift_1 k) (rfl_container_sift_1 k)

noncomputable def body_slices_IndexFunc_uint16_sift_1 : Code := bodyOf Go.Proofs.Tryd.f96
noncomputable def lb_slices_IndexFunc_uint16_sift_1_3 : Code := (loops body_slices_IndexFunc_uint16_sift_1).getD 0 .skip
noncomputable def ls_slices_IndexFunc_uint16_sift_1_3 (k : Nat) : LSig := ⟨⟨[(.pin 0, .grow true (.int .u16) 40), (.pin 1, .cells [.fn 45 [.d (.st (.pair (.int .u8) (.pair (.sl (.int .u16)) (.pair (.sl (.int .u64)) (.sl (.st (.pair (.int .u16) (.int .u16))))))))] []])], [(0, .own 0), (1, .fn 74 [] [.ptr 1 0]), (7, .d (.int .i64)), (8, .d (.int .i64))]⟩, [(.ret, ⟨[(.pin 0, .grow true (.int .u16) 40), (.pin 1, .cells [.fn 45 [.d (.st (.pair (.int .u8) (.pair (.sl (.int .u16)) (.pair (.sl (.int .u64)) (.sl (.st (.pair (.int .u16) (.int .u16))))))))] []])], [(4, .d (.int .i64))]⟩), (.exit 0, ⟨[(.pin 0, .grow true (.int .u16) 40), (.pin 1, .cells [.fn 45 [.d (.st (.pair (.int .u8) (.pair (.sl (.int .u16)) (.pair (.sl (.int .u64)) (.sl (.st (.pair (.int .u16) (.int .u16))))))))] []])], []⟩)], fun x => slices_IndexFunc_uint16_sift_1_l0 k x.1 x.2.1 x.2.2.1 x.2.2.2⟩
noncomputable def sig_slices_IndexFunc_uint16_sift_1 (k : Nat) : Sig := ⟨⟨[(.pin 0, .grow true (.int .u16) 40), (.pin 1, .cells [.fn 45 [.d (.st (.pair (.int .u8) (.pair (.sl (.int .u16)) (.pair (.sl (.int .u64)) (.sl (.st (.pair (.int .u16) (.int .u16))))))))] []])], [(0, .own 0), (1, .fn 74 [] [.ptr 1 0])]⟩, ⟨[(.pin 0, .grow true (.int .u16) 40), (.pin 1, .cells [.fn 45 [.d (.st (.pair (.int .u8) (.pair (.sl (.int .u16)) (.pair (.sl (.int .u64)) (.sl (.st (.pair (.int .u16) (.int .u16))))))))] []])], [(0, .d (.int .i64))]⟩, fun x => slices_IndexFunc_uint16_sift_1 k x.1 x.2⟩
noncomputable def G_slices_IndexFunc_uint16_sift_1 (k : Nat) : Gl := { m := 2, n := 19, gl := gl, ty := ty, fz := fz, fn := fnTab [(74, sig_container_sift_1 k)], lp := lpTab 2 [(3, ls_slices_IndexFunc_uint16_sift_1_3 k)] }
theorem rfl_slices_IndexFunc_uint16_sift_1_3 (k : Nat) (x) : (ls_slices_IndexFunc_uint16_sift_1_3 (k + 1)).F x = (ev (G_slices_IndexFunc_uint16_sift_1 k) lb_slices_IndexFunc_uint16_sift_1_3 (head (ls_slices_IndexFunc_uint16_sift_1_3 k).hd (ofTup (ls_slices_IndexFunc_uint16_sift_1_3 k).hd.shs x))).den (roundEnd 2 (ls_slices_IndexFunc_uint16_sift_1_3 k)) := by kernel_rfl
theorem rfl_slices_IndexFunc_uint16_sift_1 (k : Nat) (x) : (sig_slices_IndexFunc_uint16_sift_1 k).F x = (ev (G_slices_IndexFunc_uint16_sift_1 k) body_slices_IndexFunc_uint16_sift_1 (head (sig_slices_IndexFunc_uint16_sift_1 k).ps (ofTup (sig_slices_IndexFunc_uint16_sift_1 k).ps.shs x))).den (funEnd (G_slices_IndexFunc_uint16_sift_1 k) Go.Proofs.Tryd.f96.results.toList 2 (sig_slices_IndexFunc_uint16_sift_1 k).rs) := by kernel_rfl
theorem calls_slices_IndexFunc_uint16_sift_1 (k : Nat) : CallsOK Go.Proofs.Tryd.prog gl (G_slices_IndexFunc_uint16_sift_1 k) := callsOK_tab (G := G_slices_IndexFunc_uint16_sift_1 k) (tab := [(74, sig_container_sift_1 k)]) (all_cons (ok_container_sift_1 k) all_nil)
theorem loop_slices_IndexFunc_uint16_sift_1_3 (C : Ctx) (hP : C.P = Go.Proofs.Tryd.prog) (hgl : C.gl = gl) (hm : C.m = 2) (hN : C.N = Go.Proofs.Tryd.f96.ntmps) (k : Nat) : LoopOK C (G_slices_IndexFunc_uint16_sift_1 k) lb_slices_IndexFunc_uint16_sift_1_3 :=
  LoopOK.of (by rw [hP]; exact mix_ok) (hd := (ls_slices_IndexFunc_uint16_sift_1_3 0).hd) (ex := (ls_slices_IndexFunc_uint16_sift_1_3 0).ex) (F := fun k => (ls_slices_IndexFunc_uint16_sift_1_3 k).F) (Gk := G_slices_IndexFunc_uint16_sift_1) (fun k => gok hP hgl hm hN rfl (by kernel_rfl) rfl (ty_ok _ rfl) (calls_slices_IndexFunc_uint16_sift_1 k)) (fun k => loops_all (n := 0) (by kernel_rfl) lt_all0) (fun x => rfl)
    (fun k x => by rw [hm]; exact rfl_slices_IndexFunc_uint16_sift_1_3 k x) k (fun S => by rw [hm]; kernel_rfl)
theorem bodyok_slices_IndexFunc_uint16_sift_1 (k : Nat) : BodyOK Go.Proofs.Tryd.prog gl (G_slices_IndexFunc_uint16_sift_1 k) Go.Proofs.Tryd.f96 body_slices_IndexFunc_uint16_sift_1 (sig_slices_IndexFunc_uint16_sift_1 k).ps (sig_slices_IndexFunc_uint16_sift_1 k).rs :=
  ⟨rfl, by kernel_rfl, rfl, ty_ok _ rfl, calls_slices_IndexFunc_uint16_sift_1 k, by kernel_rfl, by kernel_rfl, fun C hP hgl hm hN => loops_all (n := 1) (by kernel_rfl) (lt_allS lt_all0 (loop_slices_IndexFunc_uint16_sift_1_3 C hP hgl hm hN k))⟩
theorem ok_slices_IndexFunc_uint16_sift_1 (k : Nat) : FnOK Go.Proofs.Tryd.prog gl 96 (sig_slices_IndexFunc_uint16_sift_1 k) :=
  fun_ok (G := G_slices_IndexFunc_uint16_sift_1 k) (ps := (sig_slices_IndexFunc_uint16_sift_1 k).ps) (rs := (sig_slices_IndexFunc_uint16_sift_1 k).rs) (F := (sig_slices_IndexFunc_uint16_sift_1 k).F) mix_ok Go.Proofs.Tryd.func96 (c := body_slices_IndexFunc_uint16_sift_1) (by kernel_rfl) (by kernel_rfl) (bodyok_slices_IndexFunc_uint16_sift_1 k) (rfl_slices_IndexFunc_uint16_sift_1 k)

noncomputable def body_slices_DeleteFunc_uint16_sift_1 : Code := bodyOf Go.Proofs.Tryd.f73
noncomputable def lb_slices_DeleteFunc_uint16_sift_1_6 : Code := (loops body_slices_DeleteFunc_uint16_sift_1).getD 0 .skip
noncomputable def ls_slices_DeleteFunc_uint16_sift_1_6 (k : Nat) : LSig := ⟨⟨[(.pin 0, .grow true (.int .u16) 40), (.pin 1, .cells [.fn 45 [.d (.st (.pair (.int .u8) (.pair (.sl (.int .u16)) (.pair (.sl (.int .u64)) (.sl (.st (.pair (.int .u16) (.int .u16))))))))] []])], [(0, .own 0), (1, .fn 74 [] [.ptr 1 0]), (5, .d (.int .i64)), (6, .d (.int .i64))]⟩, [(.exit 0, ⟨[(.pin 0, .grow true (.int .u16) 40), (.pin 1, .cells [.fn 45 [.d (.st (.pair (.int .u8) (.pair (.sl (.int .u16)) (.pair (.sl (.int .u64)) (.sl (.st (.pair (.int .u16) (.int .u16))))))))] []])], [(0, .own 0), (5, .d (.int .i64))]⟩)], fun x => slices_DeleteFunc_uint16_sift_1_l0 k x.1 x.2.1 x.2.2.1 x.2.2.2⟩
noncomputable def sig_slices_DeleteFunc_uint16_sift_1 (k : Nat) : Sig := ⟨⟨[(.pin 0, .grow true (.int .u16) 40), (.pin 1, .cells [.fn 45 [.d (.st (.pair (.int .u8) (.pair (.sl (.int .u16)) (.pair (.sl (.int .u64)) (.sl (.st (.pair (.int .u16) (.int .u16))))))))] []])], [(0, .own 0), (1, .fn 74 [] [.ptr 1 0])]⟩, ⟨[(.pin 0, .gone), (.pin 1, .cells [.fn 45 [.d (.st (.pair (.int .u8) (.pair (.sl (.int .u16)) (.pair (.sl (.int .u64)) (.sl (.st (.pair (.int .u16) (.int .u16))))))))] []]), (.tmp 0, .grow true (.int .u16) 40)], [(0, .own 2)]⟩, fun x => slices_DeleteFunc_uint16_sift_1 k x.1 x.2⟩
noncomputable def G_slices_DeleteFunc_uint16_sift_1 (k : Nat) : Gl := { m := 2, n := 42, gl := gl, ty := ty, fz := fz, fn := fnTab [(96, sig_slices_IndexFunc_uint16_sift_1 k), (74, sig_container_sift_1 k)], lp := lpTab 2 [(6, ls_slices_DeleteFunc_uint16_sift_1_6 k)] }
theorem rfl_slices_DeleteFunc_uint16_sift_1_6 (k : Nat) (x) : (ls_slices_DeleteFunc_uint16_sift_1_6 (k + 1)).F x = (ev (G_slices_DeleteFunc_uint16_sift_1 k) lb_slices_DeleteFunc_uint16_sift_1_6 (head (ls_slices_DeleteFunc_uint16_sift_1_6 k).hd (ofTup (ls_slices_DeleteFunc_uint16_sift_1_6 k).hd.shs x))).den (roundEnd 2 (ls_slices_DeleteFunc_uint16_sift_1_6 k)) := by kernel_rfl
theorem rfl_slices_DeleteFunc_uint16_sift_1 (k : Nat) (x) : (sig_slices_DeleteFunc_uint16_sift_1 k).F x = (ev (G_slices_DeleteFunc_uint16_sift_1 k) body_slices_DeleteFunc_uint16_sift_1 (head (sig_slices_DeleteFunc_uint16_sift_1 k).ps (ofTup (sig_slices_DeleteFunc_uint16_sift_1 k).ps.shs x))).den (funEnd (G_slices_DeleteFunc_uint16_sift_1 k) Go.Proofs.Tryd.f73.results.toList 2 (sig_slices_DeleteFunc_uint16_sift_1 k).rs) := by kernel_rfl
theorem calls_slices_DeleteFunc_uint16_sift_1 (k : Nat) : CallsOK Go.Proofs.Tryd.prog gl (G_slices_DeleteFunc_uint16_sift_1 k) := callsOK_tab (G := G_slices_DeleteFunc_uint16_sift_1 k) (tab := [(96, sig_slices_IndexFunc_uint16_sift_1 k), (74, sig_container_sift_1 k)]) (all_cons (ok_slices_IndexFunc_uint16_sift_1 k) (all_cons (ok_container_sift_1 k) all_nil))
theorem loop_slices_DeleteFunc_uint16_sift_1_6 (C : Ctx) (hP : C.P = Go.Proofs.Tryd.prog) (hgl : C.gl = gl) (hm : C.m = 2) (hN : C.N = Go.Proofs.Tryd.f73.ntmps) (k : Nat) : LoopOK C (G_slices_DeleteFunc_uint16_sift_1 k) lb_slices_DeleteFunc_uint16_sift_1_6 :=
  LoopOK.of (by rw [hP]; exact mix_ok) (hd := (ls_slices_DeleteFunc_uint16_sift_1_6 0).hd) (ex := (ls_slices_DeleteFunc_uint16_sift_1_6 0).ex) (F := fun k => (ls_slices_DeleteFunc_uint16_sift_1_6 k).F) (Gk := G_slices_DeleteFunc_uint16_sift_1) (fun k => gok hP hgl hm hN rfl (by kernel_rfl) rfl (ty_ok _ rfl) (calls_slices_DeleteFunc_uint16_sift_1 k)) (fun k => loops_all (n := 0) (by kernel_rfl) lt_all0) (fun x => rfl)
    (fun k x => by rw [hm]; exact rfl_slices_DeleteFunc_uint16_sift_1_6 k x) k (fun S => by rw [hm]; kernel_rfl)
theorem bodyok_slices_DeleteFunc_uint16_sift_1 (k : Nat) : BodyOK Go.Proofs.Tryd.prog gl (G_slices_DeleteFunc_uint16_sift_1 k) Go.Proofs.Tryd.f73 body_slices_DeleteFunc_uint16_sift_1 (sig_slices_DeleteFunc_uint16_sift_1 k).ps (sig_slices_DeleteFunc_uint16_sift_1 k).rs :=
  ⟨rfl, by kernel_rfl, rfl, ty_ok _ rfl, calls_slices_DeleteFunc_uint16_sift_1 k, by kernel_rfl, by kernel_rfl, fun C hP hgl hm hN => loops_all (n := 1) (by kernel_rfl) (lt_allS lt_all0 (loop_slices_DeleteFunc_uint16_sift_1_6 C hP hgl hm hN k))⟩
theorem ok_slices_DeleteFunc_uint16_sift_1 (k : Nat) : FnOK Go.Proofs.Tryd.prog gl 73 (sig_slices_DeleteFunc_uint16_sift_1 k) :=
  fun_ok (G := G_slices_DeleteFunc_uint16_sift_1 k) (ps := (sig_slices_DeleteFunc_uint16_sift_1 k).ps) (rs := (sig_slices_DeleteFunc_uint16_sift_1 k).rs) (F := (sig_slices_DeleteFunc_uint16_sift_1 k).F) mix_ok Go.Proofs.Tryd.func73 (c := body_slices_DeleteFunc_uint16_sift_1) (by kernel_rfl) (by kernel_rfl) (bodyok_slices_DeleteFunc_uint16_sift_1 k) (rfl_slices_DeleteFunc_uint16_sift_1 k)

noncomputable def body_container_sift_Container_Has : Code := bodyOf Go.Proofs.Tryd.f44
noncomputable def sig_container_sift_Container_Has (k : Nat) : Sig := ⟨⟨[], [(0, .d (.sl (.int .u16))), (1, .fn 45 [.d (.st (.pair (.int .u8) (.pair (.sl (.int .u16)) (.pair (.sl (.int .u64)) (.sl (.st (.pair (.int .u16) (.int .u16))))))))] [])]⟩, ⟨[], [(0, .d (.st (.pair (.int .u8) (.pair (.sl (.int .u16)) (.pair (.sl (.int .u64)) (.sl (.st (.pair (.int .u16) (.int .u16)))))))))]⟩, fun x => container_sift_Container_Has k x.1 x.2⟩
noncomputable def G_container_sift_Container_Has (k : Nat) : Gl := { m := 0, n := 11, gl := gl, ty := ty, fz := fz, fn := fnTab [(43, sig_slices_Clone_uint16 k), (73, sig_slices_DeleteFunc_uint16_sift_1 k), (32, sig_container_Container_Canonical k)], lp := lpTab 0 [] }
theorem rfl_container_sift_Container_Has (k : Nat) (x) : (sig_container_sift_Container_Has k).F x = (ev (G_container_sift_Container_Has k) body_container_sift_Container_Has (head (sig_container_sift_Container_Has k).ps (ofTup (sig_container_sift_Container_Has k).ps.shs x))).den (funEnd (G_container_sift_Container_Has k) Go.Proofs.Tryd.f44.results.toList 0 (sig_container_sift_Container_Has k).rs) := by kernel_rfl
theorem calls_container_sift_Container_Has (k : Nat) : CallsOK Go.Proofs.Tryd.prog gl (G_container_sift_Container_Has k) := callsOK_tab (G := G_container_sift_Container_Has k) (tab := [(43, sig_slices_Clone_uint16 k), (73, sig_slices_DeleteFunc_uint16_sift_1 k), (32, sig_container_Container_Canonical k)]) (all_cons (ok_slices_Clone_uint16 k) (all_cons (ok_slices_DeleteFunc_uint16_sift_1 k) (all_cons (ok_container_Container_Canonical k) all_nil)))
theorem bodyok_container_sift_Container_Has (k : Nat) : BodyOK Go.Proofs.Tryd.prog gl (G_container_sift_Container_Has k) Go.Proofs.Tryd.f44 body_container_sift_Container_Has (sig_container_sift_Container_Has k).ps (sig_container_sift_Container_Has k).rs :=
  ⟨rfl, by kernel_rfl, rfl, ty_ok _ rfl, calls_container_sift_Container_Has k, by kernel_rfl, by kernel_rfl, fun C hP hgl hm hN => loops_all (n := 0) (by kernel_rfl) lt_all0⟩
theorem ok_container_sift_Container_Has (k : Nat) : FnOK Go.Proofs.Tryd.prog gl 44 (sig_container_sift_Container_Has k) :=
  fun_ok (G := G_container_sift_Container_Has k) (ps := (sig_container_sift_Container_Has k).ps) (rs := (sig_container_sift_Container_Has k).rs) (F := (sig_container_sift_Container_Has k).F) mix_ok Go.Proofs.Tryd.func44 (c := body_container_sift_Container_Has) (by kernel_rfl) (by kernel_rfl) (bodyok_container_sift_Container_Has k) (rfl_container_sift_Container_Has k)

noncomputable def body_arrays_And_1 : Code := bodyOf Go.Proofs.Tryd.f79
noncomputable def sig_arrays_And_1 (k : Nat) : Sig := ⟨⟨[], [(0, .d .bool), (1, .d .bool)]⟩, ⟨[], [(0, .d .bool)]⟩, fun x => arrays_And_1 k x.1 x.2⟩
noncomputable def G_arrays_And_1 (k : Nat) : Gl := { m := 0, n := 9, gl := gl, ty := ty, fz := fz, fn := fnTab [], lp := lpTab 0 [] }
theorem rfl_arrays_And_1 (k : Nat) (x) : (sig_arrays_And_1 k).F x = (ev (G_arrays_And_1 k) body_arrays_And_1 (head (sig_arrays_And_1 k).ps (ofTup (sig_arrays_And_1 k).ps.shs x))).den (funEnd (G_arrays_And_1 k) Go.Proofs.Tryd.f79.results.toList 0 (sig_arrays_And_1 k).rs) := by kernel_rfl
theorem calls_arrays_And_1 (k : Nat) : CallsOK Go.Proofs.Tryd.prog gl (G_arrays_And_1 k) := callsOK_tab (G := G_arrays_And_1 k) (tab := []) all_nil
theorem bodyok_arrays_And_1 (k : Nat) : BodyOK Go.Proofs.Tryd.prog gl (G_arrays_And_1 k) Go.Proofs.Tryd.f79 body_arrays_And_1 (sig_arrays_And_1 k).ps (sig_arrays_And_1 k).rs :=
  ⟨rfl, by kernel_rfl, rfl, ty_ok _ rfl, calls_arrays_And_1 k, by kernel_rfl, by kernel_rfl, fun C hP hgl hm hN => loops_all (n := 0) (by kernel_rfl) lt_all0⟩
theorem ok_arrays_And_1 (k : Nat) : FnOK Go.Proofs.Tryd.prog gl 79 (sig_arrays_And_1 k) :=
  fun_ok (G := G_arrays_And_1 k) (ps := (sig_arrays_And_1 k).ps) (rs := (sig_arrays_And_1 k).rs) (F := (sig_arrays_And_1 k).F) mix_ok Go.Proofs.Tryd.func79 (c := body_arrays_And_1) (by kernel_rfl) (by kernel_rfl) (bodyok_arrays_And_1 k) (rfl_arrays_And_1 k)

noncomputable def body_arrays_merge_And_1 : Code := bodyOf Go.Proofs.Tryd.f78
noncomputable def lb_arrays_merge_And_1_3 : Code := (loops body_arrays_merge_And_1).getD 0 .skip
noncomputable def ls_arrays_merge_And_1_3 (k : Nat) : LSig := ⟨⟨[(.tmp 7, .grow false (.int .u16) 40)], [(0, .d (.sl (.int .u16))), (1, .d (.sl (.int .u16))), (2, .fn 79 [] []), (7, .own 0)]⟩, [(.exit 0, ⟨[(.tmp 7, .grow false (.int .u16) 40)], [(7, .own 0)]⟩)], fun x => arrays_merge_And_1_l0 k x.1 x.2.1 x.2.2⟩
noncomputable def sig_arrays_merge_And_1 (k : Nat) : Sig := ⟨⟨[], [(0, .d (.sl (.int .u16))), (1, .d (.sl (.int .u16))), (2, .fn 79 [] [])]⟩, ⟨[], [(0, .d (.sl (.int .u16)))]⟩, fun x => arrays_merge_And_1 k x.1 x.2⟩
noncomputable def G_arrays_merge_And_1 (k : Nat) : Gl := { m := 0, n := 74, gl := gl, ty := ty, fz := fz, fn := fnTab [(79, sig_arrays_And_1 k)], lp := lpTab 0 [(3, ls_arrays_merge_And_1_3 k)] }
theorem rfl_arrays_merge_And_1_3 (k : Nat) (x) : (ls_arrays_merge_And_1_3 (k + 1)).F x = (ev (G_arrays_merge_And_1 k) lb_arrays_merge_And_1_3 (head (ls_arrays_merge_And_1_3 k).hd (ofTup (ls_arrays_merge_And_1_3 k).hd.shs x))).den (roundEnd 0 (ls_arrays_merge_And_1_3 k)) := by kernel_rfl
theorem rfl_arrays_merge_And_1 (k : Nat) (x) : (sig_arrays_merge_And_1 k).F x = (ev (G_arrays_merge_And_1 k) body_arrays_merge_And_1 (head (sig_arrays_merge_And_1 k).ps (ofTup (sig_arrays_merge_And_1 k).ps.shs x))).den (funEnd (G_arrays_merge_And_1 k) Go.Proofs.Tryd.f78.results.toList 0 (sig_arrays_merge_And_1 k).rs) := by kernel_rfl
theorem calls_arrays_merge_And_1 (k : Nat) : CallsOK Go.Proofs.Tryd.prog gl (G_arrays_merge_And_1 k) := callsOK_tab (G := G_arrays_merge_And_1 k) (tab := [(79, sig_arrays_And_1 k)]) (all_cons (ok_arrays_And_1 k) all_nil)
theorem loop_arrays_merge_And_1_3 (C : Ctx) (hP : C.P = Go.Proofs.Tryd.prog) (hgl : C.gl = gl) (hm : C.m = 0) (hN : C.N = Go.Proofs.Tryd.f78.ntmps) (k : Nat) : LoopOK C (G_arrays_merge_And_1 k) lb_arrays_merge_And_1_3 :=
  LoopOK.of (by rw [hP]; exact mix_ok) (hd := (ls_arrays_merge_And_1_3 0).hd) (ex := (ls_arrays_merge_And_1_3 0).ex) (F := fun k => (ls_arrays_merge_And_1_3 k).F) (Gk := G_arrays_merge_And_1) (fun k => gok hP hgl hm hN rfl (by kernel_rfl) rfl (ty_ok _ rfl) (calls_arrays_merge_And_1 k)) (fun k => loops_all (n := 0) (by kernel_rfl) lt_all0) (fun x => rfl)
    (fun k x => by rw [hm]; exact rfl_arrays_merge_And_1_3 k x) k (fun S => by rw [hm]; kernel_rfl)
theorem bodyok_arrays_merge_And_1 (k : Nat) : BodyOK Go.Proofs.Tryd.prog gl (G_arrays_merge_And_1 k) Go.Proofs.Tryd.f78 body_arrays_merge_And_1 (sig_arrays_merge_And_1 k).ps (sig_arrays_merge_And_1 k).rs :=
  ⟨rfl, by kernel_rfl, rfl, ty_ok _ rfl, calls_arrays_merge_And_1 k, by kernel_rfl, by kernel_rfl, fun C hP hgl hm hN => loops_all (n := 1) (by kernel_rfl) (lt_allS lt_all0 (loop_arrays_merge_And_1_3 C hP hgl hm hN k))⟩
theorem ok_arrays_merge_And_1 (k : Nat) : FnOK Go.Proofs.Tryd.prog gl 78 (sig_arrays_merge_And_1 k) :=
  fun_ok (G := G_arrays_merge_And_1 k) (ps := (sig_arrays_merge_And_1 k).ps) (rs := (sig_arrays_merge_And_1 k).rs) (F := (sig_arrays_merge_And_1 k).F) mix_ok Go.Proofs.Tryd.func78 (c := body_arrays_merge_And_1) (by kernel_rfl) (by kernel_rfl) (bodyok_arrays_merge_And_1 k) (rfl_arrays_merge_And_1 k)

noncomputable def body_arrays_And : Code := bodyOf Go.Proofs.Tryd.f46
noncomputable def sig_arrays_And (k : Nat) : Sig := ⟨⟨[], [(0, .d (.sl (.int .u16))), (1, .d (.sl (.int .u16)))]⟩, ⟨[], [(0, .d (.sl (.int .u16)))]⟩, fun x => arrays_And k x.1 x.2⟩
noncomputable def G_arrays_And (k : Nat) : Gl := { m := 0, n := 8, gl := gl, ty := ty, fz := fz, fn := fnTab [(78, sig_arrays_merge_And_1 k)], lp := lpTab 0 [] }
theorem rfl_arrays_And (k : Nat) (x) : (sig_arrays_And k).F x = (ev (G_arrays_And k) body_arrays_And (head (sig_arrays_And k).ps (ofTup (sig_arrays_And k).ps.shs x))).den (funEnd (G_arrays_And k) Go.Proofs.Tryd.f46.results.toList 0 (sig_arrays_And k).rs) := by kernel_rfl
theorem calls_arrays_And (k : Nat) : CallsOK Go.Proofs.Tryd.prog gl (G_arrays_And k) := callsOK_tab (G := G_arrays_And k) (tab := [(78, sig_arrays_merge_And_1 k)]) (all_cons (ok_arrays_merge_And_1 k) all_nil)
theorem bodyok_arrays_And (k : Nat) : BodyOK Go.Proofs.Tryd.prog gl (G_arrays_And k) Go.Proofs.Tryd.f46 body_arrays_And (sig_arrays_And k).ps (sig_arrays_And k).rs :=
  ⟨rfl, by kernel_rfl, rfl, ty_ok _ rfl, calls_arrays_And k, by kernel_rfl, by kernel_rfl, fun C hP hgl hm hN => loops_all (n := 0) (by kernel_rfl) lt_all0⟩
theorem ok_arrays_And (k : Nat) : FnOK Go.Proofs.Tryd.prog gl 46 (sig_arrays_And k) :=
  fun_ok (G := G_arrays_And k) (ps := (sig_arrays_And k).ps) (rs := (sig_arrays_And k).rs) (F := (sig_arrays_And k).F) mix_ok Go.Proofs.Tryd.func46 (c := body_arrays_And) (by kernel_rfl) (by kernel_rfl) (bodyok_arrays_And k) (rfl_arrays_And k)

noncomputable def body_runs_And_1 : Code := bodyOf Go.Proofs.Tryd.f82
noncomputable def sig_runs_And_1 (k : Nat) : Sig := ⟨⟨[], [(0, .d .bool), (1, .d .bool)]⟩, ⟨[], [(0, .d .bool)]⟩, fun x => runs_And_1 k x.1 x.2⟩
noncomputable def G_runs_And_1 (k : Nat) : Gl := { m := 0, n := 9, gl := gl, ty := ty, fz := fz, fn := fnTab [], lp := lpTab 0 [] }
theorem rfl_runs_And_1 (k : Nat) (x) : (sig_runs_And_1 k).F x = (ev (G_runs_And_1 k) body_runs_And_1 (head (sig_runs_And_1 k).ps (ofTup (sig_runs_And_1 k).ps.shs x))).den (funEnd (G_runs_And_1 k) Go.Proofs.Tryd.f82.results.toList 0 (sig_runs_And_1 k).rs) := by kernel_rfl
theorem calls_runs_And_1 (k : Nat) : CallsOK Go.Proofs.Tryd.prog gl (G_runs_And_1 k) := callsOK_tab (G := G_runs_And_1 k) (tab := []) all_nil
theorem bodyok_runs_And_1 (k : Nat) : BodyOK Go.Proofs.Tryd.prog gl (G_runs_And_1 k) Go.Proofs.Tryd.f82 body_runs_And_1 (sig_runs_And_1 k).ps (sig_runs_And_1 k).rs :=
  ⟨rfl, by kernel_rfl, rfl, ty_ok _ rfl, calls_runs_And_1 k, by kernel_rfl, by kernel_rfl, fun C hP hgl hm hN => loops_all (n := 0) (by kernel_rfl) lt_all0⟩
theorem ok_runs_And_1 (k : Nat) : FnOK Go.Proofs.Tryd.prog gl 82 (sig_runs_And_1 k) :=
  fun_ok (G := G_runs_And_1 k) (ps := (sig_runs_And_1 k).ps) (rs := (sig_runs_And_1 k).rs) (F := (sig_runs_And_1 k).F) mix_ok Go.Proofs.Tryd.func82 (c := body_runs_And_1) (by kernel_rfl) (by kernel_rfl) (bodyok_runs_And_1 k) (rfl_runs_And_1 k)

noncomputable def body_runs_edges_And_1 : Code := bodyOf Go.Proofs.Tryd.f66
noncomputable def lb_runs_edges_And_1_5 : Code := (loops body_runs_edges_And_1).getD 0 .skip
noncomputable def lb_runs_edges_And_1_11 : Code := (loops lb_runs_edges_And_1_5).getD 0 .skip
noncomputable def lb_runs_edges_And_1_13 : Code := (loops lb_runs_edges_And_1_5).getD 1 .skip
noncomputable def ls_runs_edges_And_1_11 (k : Nat) : LSig := ⟨⟨[(.tmp 7, .grow false (.st (.pair (.int .u16) (.int .u16))) 65)], [(0, .d (.sl (.int .i64))), (1, .d (.sl (.int .i64))), (2, .fn 82 [] []), (7, .own 0), (8, .d .bool), (9, .d (.int .i64)), (10, .d (.int .i64)), (11, .d (.int .i64)), (12, .d (.int .i64))]⟩, [(.exit 2, ⟨[(.tmp 7, .grow false (.st (.pair (.int .u16) (.int .u16))) 65)], [(0, .d (.sl (.int .i64))), (1, .d (.sl (.int .i64))), (2, .fn 82 [] []), (7, .own 0), (8, .d .bool), (9, .d (.int .i64)), (10, .d (.int .i64)), (11, .d (.int .i64)), (12, .d (.int .i64))]⟩)], fun x => runs_edges_And_1_l1 k x.1 x.2.1 x.2.2.1 x.2.2.2.1 x.2.2.2.2.1 x.2.2.2.2.2.1 x.2.2.2.2.2.2.1 x.2.2.2.2.2.2.2⟩
noncomputable def ls_runs_edges_And_1_13 (k : Nat) : LSig := ⟨⟨[(.tmp 7, .grow false (.st (.pair (.int .u16) (.int .u16))) 65)], [(0, .d (.sl (.int .i64))), (1, .d (.sl (.int .i64))), (2, .fn 82 [] []), (7, .own 0), (8, .d .bool), (9, .d (.int .i64)), (10, .d (.int .i64)), (11, .d (.int .i64)), (12, .d (.int .i64))]⟩, [(.exit 4, ⟨[(.tmp 7, .grow false (.st (.pair (.int .u16) (.int .u16))) 65)], [(0, .d (.sl (.int .i64))), (1, .d (.sl (.int .i64))), (2, .fn 82 [] []), (7, .own 0), (8, .d .bool), (9, .d (.int .i64)), (10, .d (.int .i64)), (11, .d (.int .i64)), (12, .d (.int .i64))]⟩)], fun x => runs_edges_And_1_l2 k x.1 x.2.1 x.2.2.1 x.2.2.2.1 x.2.2.2.2.1 x.2.2.2.2.2.1 x.2.2.2.2.2.2.1 x.2.2.2.2.2.2.2⟩
noncomputable def ls_runs_edges_And_1_5 (k : Nat) : LSig := ⟨⟨[(.tmp 7, .grow false (.st (.pair (.int .u16) (.int .u16))) 65)], [(0, .d (.sl (.int .i64))), (1, .d (.sl (.int .i64))), (2, .fn 82 [] []), (7, .own 0), (8, .d .bool), (9, .d (.int .i64)), (10, .d (.int .i64)), (11, .d (.int .i64))]⟩, [(.exit 0, ⟨[(.tmp 7, .grow false (.st (.pair (.int .u16) (.int .u16))) 65)], [(7, .own 0)]⟩)], fun x => runs_edges_And_1_l0 k x.1 x.2.1 x.2.2.1 x.2.2.2.1 x.2.2.2.2.1 x.2.2.2.2.2.1 x.2.2.2.2.2.2⟩
noncomputable def sig_runs_edges_And_1 (k : Nat) : Sig := ⟨⟨[], [(0, .d (.sl (.int .i64))), (1, .d (.sl (.int .i64))), (2, .fn 82 [] [])]⟩, ⟨[], [(0, .d (.sl (.st (.pair (.int .u16) (.int .u16)))))]⟩, fun x => runs_edges_And_1 k x.1 x.2⟩
noncomputable def G_runs_edges_And_1 (k : Nat) : Gl := { m := 0, n := 96, gl := gl, ty := ty, fz := fz, fn := fnTab [(82, sig_runs_And_1 k)], lp := lpTab 0 [(11, ls_runs_edges_And_1_11 k), (13, ls_runs_edges_And_1_13 k), (5, ls_runs_edges_And_1_5 k)] }
theorem rfl_runs_edges_And_1_11 (k : Nat) (x) : (ls_runs_edges_And_1_11 (k + 1)).F x = (ev (G_runs_edges_And_1 k) lb_runs_edges_And_1_11 (head (ls_runs_edges_And_1_11 k).hd (ofTup (ls_runs_edges_And_1_11 k).hd.shs x))).den (roundEnd 0 (ls_runs_edges_And_1_11 k)) := by kernel_rfl
theorem rfl_runs_edges_And_1_13 (k : Nat) (x) : (ls_runs_edges_And_1_13 (k + 1)).F x = (ev (G_runs_edges_And_1 k) lb_runs_edges_And_1_13 (head (ls_runs_edges_And_1_13 k).hd (ofTup (ls_runs_edges_And_1_13 k).hd.shs x))).den (roundEnd 0 (ls_runs_edges_And_1_13 k)) := by kernel_rfl
theorem rfl_runs_edges_And_1_5 (k : Nat) (x) : (ls_runs_edges_And_1_5 (k + 1)).F x = (ev (G_runs_edges_And_1 k) lb_runs_edges_And_1_5 (head (ls_runs_edges_And_1_5 k).hd (ofTup (ls_runs_edges_And_1_5 k).hd.shs x))).den (roundEnd 0 (ls_runs_edges_And_1_5 k)) := by kernel_rfl
theorem rfl_runs_edges_And_1 (k : Nat) (x) : (sig_runs_edges_And_1 k).F x = (ev (G_runs_edges_And_1 k) body_runs_edges_And_1 (head (sig_runs_edges_And_1 k).ps (ofTup (sig_runs_edges_And_1 k).ps.shs x))).den (funEnd (G_runs_edges_And_1 k) Go.Proofs.Tryd.f66.results.toList 0 (sig_runs_edges_And_1 k).rs) := by kernel_rfl
theorem calls_runs_edges_And_1 (k : Nat) : CallsOK Go.Proofs.Tryd.prog gl (G_runs_edges_And_1 k) := callsOK_tab (G := G_runs_edges_And_1 k) (tab := [(82, sig_runs_And_1 k)]) (all_cons (ok_runs_And_1 k) all_nil)
theorem loop_runs_edges_And_1_11 (C : Ctx) (hP : C.P = Go.Proofs.Tryd.prog) (hgl : C.gl = gl) (hm : C.m = 0) (hN : C.N = Go.Proofs.Tryd.f66.ntmps) (k : Nat) : LoopOK C (G_runs_edges_And_1 k) lb_runs_edges_And_1_11 :=
  LoopOK.of (by rw [hP]; exact mix_ok) (hd := (ls_runs_edges_And_1_11 0).hd) (ex := (ls_runs_edges_And_1_11 0).ex) (F := fun k => (ls_runs_edges_And_1_11 k).F) (Gk := G_runs_edges_And_1) (fun k => gok hP hgl hm hN rfl (by kernel_rfl) rfl (ty_ok _ rfl) (calls_runs_edges_And_1 k)) (fun k => loops_all (n := 0) (by kernel_rfl) lt_all0) (fun x => rfl)
    (fun k x => by rw [hm]; exact rfl_runs_edges_And_1_11 k x) k (fun S => by rw [hm]; kernel_rfl)
theorem loop_runs_edges_And_1_13 (C : Ctx) (hP : C.P = Go.Proofs.Tryd.prog) (hgl : C.gl = gl) (hm : C.m = 0) (hN : C.N = Go.Proofs.Tryd.f66.ntmps) (k : Nat) : LoopOK C (G_runs_edges_And_1 k) lb_runs_edges_And_1_13 :=
  LoopOK.of (by rw [hP]; exact mix_ok) (hd := (ls_runs_edges_And_1_13 0).hd) (ex := (ls_runs_edges_And_1_13 0).ex) (F := fun k => (ls_runs_edges_And_1_13 k).F) (Gk := G_runs_edges_And_1) (fun k => gok hP hgl hm hN rfl (by kernel_rfl) rfl (ty_ok _ rfl) (calls_runs_edges_And_1 k)) (fun k => loops_all (n := 0) (by kernel_rfl) lt_all0) (fun x => rfl)
    (fun k x => by rw [hm]; exact rfl_runs_edges_And_1_13 k x) k (fun S => by rw [hm]; kernel_rfl)
theorem loop_runs_edges_And_1_5 (C : Ctx) (hP : C.P = Go.Proofs.Tryd.prog) (hgl : C.gl = gl) (hm : C.m = 0) (hN : C.N = Go.Proofs.Tryd.f66.ntmps) (k : Nat) : LoopOK C (G_runs_edges_And_1 k) lb_runs_edges_And_1_5 :=
  LoopOK.of (by rw [hP]; exact mix_ok) (hd := (ls_runs_edges_And_1_5 0).hd) (ex := (ls_runs_edges_And_1_5 0).ex) (F := fun k => (ls_runs_edges_And_1_5 k).F) (Gk := G_runs_edges_And_1) (fun k => gok hP hgl hm hN rfl (by kernel_rfl) rfl (ty_ok _ rfl) (calls_runs_edges_And_1 k)) (fun k => loops_all (n := 2) (by kernel_rfl) (lt_allS (lt_allS lt_all0 (loop_runs_edges_And_1_11 C hP hgl hm hN k)) (loop_runs_edges_And_1_13 C hP hgl hm hN k))) (fun x => rfl)
    (fun k x => by rw [hm]; exact rfl_runs_edges_And_1_5 k x) k (fun S => by rw [hm]; kernel_rfl)
theorem bodyok_runs_edges_And_1 (k : Nat) : BodyOK Go.Proofs.Tryd.prog gl (G_runs_edges_And_1 k) Go.Proofs.Tryd.f66 body_runs_edges_And_1 (sig_runs_edges_And_1 k).ps (sig_runs_edges_And_1 k).rs :=
  ⟨rfl, by kernel_rfl, rfl, ty_ok _ rfl, calls_runs_edges_And_1 k, by kernel_rfl, by kernel_rfl, fun C hP hgl hm hN => loops_all (n := 1) (by kernel_rfl) (lt_allS lt_all0 (loop_runs_edges_And_1_5 C hP hgl hm hN k))⟩
theorem ok_runs_edges_And_1 (k : Nat) : FnOK Go.Proofs.Tryd.prog gl 66 (sig_runs_edges_And_1 k) :=
  fun_ok (G := G_runs_edges_And_1 k) (ps := (sig_runs_edges_And_1 k).ps) (rs := (sig_runs_edges_And_1 k).rs) (F := (sig_runs_edges_And_1 k).F) mix_ok Go.Proofs.Tryd.func66 (c := body_runs_edges_And_1) (by kernel_rfl) (by kernel_rfl) (bodyok_runs_edges_And_1 k) (rfl_runs_edges_And_1 k)

noncomputable def body_runs_And : Code := bodyOf Go.Proofs.Tryd.f48
noncomputable def sig_runs_And (k : Nat) : Sig := ⟨⟨[], [(0, .d (.sl (.st (.pair (.int .u16) (.int .u16))))), (1, .d (.sl (.st (.pair (.int .u16) (.int .u16)))))]⟩, ⟨[], [(0, .d (.sl (.st (.pair (.int .u16) (.int .u16)))))]⟩, fun x => runs_And k x.1 x.2⟩
noncomputable def G_runs_And (k : Nat) : Gl := { m := 0, n := 10, gl := gl, ty := ty, fz := fz, fn := fnTab [(67, sig_runs_row k), (66, sig_runs_edges_And_1 k)], lp := lpTab 0 [] }
theorem rfl_runs_And (k : Nat) (x) : (sig_runs_And k).F x = (ev (G_runs_And k) body_runs_And (head (sig_runs_And k).ps (ofTup (sig_runs_And k).ps.shs x))).den (funEnd (G_runs_And k) Go.Proofs.Tryd.f48.results.toList 0 (sig_runs_And k).rs) := by kernel_rfl
theorem calls_runs_And (k : Nat) : CallsOK Go.Proofs.Tryd.prog gl (G_runs_And k) := callsOK_tab (G := G_runs_And k) (tab := [(67, sig_runs_row k), (66, sig_runs_edges_And_1 k)]) (all_cons (ok_runs_row k) (all_cons (ok_runs_edges_And_1 k) all_nil))
theorem bodyok_runs_And (k : Nat) : BodyOK Go.Proofs.Tryd.prog gl (G_runs_And k) Go.Proofs.Tryd.f48 body_runs_And (sig_runs_And k).ps (sig_runs_And k).rs :=
  ⟨rfl, by kernel_rfl, rfl, ty_ok _ rfl, calls_runs_And k, by kernel_rfl, by kernel_rfl, fun C hP hgl hm hN => loops_all (n := 0) (by kernel_rfl) lt_all0⟩
theorem ok_runs_And (k : Nat) : FnOK Go.Proofs.Tryd.prog gl 48 (sig_runs_And k) :=
  fun_ok (G := G_runs_And k) (ps := (sig_runs_And k).ps) (rs := (sig_runs_And k).rs) (F := (sig_runs_And k).F) mix_ok Go.Proofs.Tryd.func48 (c := body_runs_And) (by kernel_rfl) (by kernel_rfl) (bodyok_runs_And k) (rfl_runs_And k)

noncomputable def body_words_And_1 : Code := bodyOf Go.Proofs.Tryd.f81
noncomputable def sig_words_And_1 (k : Nat) : Sig := ⟨⟨[], [(0, .d (.int .u64)), (1, .d (.int .u64))]⟩, ⟨[], [(0, .d (.int .u64))]⟩, fun x => words_And_1 k x.1 x.2⟩
noncomputable def G_words_And_1 (k : Nat) : Gl := { m := 0, n := 8, gl := gl, ty := ty, fz := fz, fn := fnTab [], lp := lpTab 0 [] }
theorem rfl_words_And_1 (k : Nat) (x) : (sig_words_And_1 k).F x = (ev (G_words_And_1 k) body_words_And_1 (head (sig_words_And_1 k).ps (ofTup (sig_words_And_1 k).ps.shs x))).den (funEnd (G_words_And_1 k) Go.Proofs.Tryd.f81.results.toList 0 (sig_words_And_1 k).rs) := by kernel_rfl
theorem calls_words_And_1 (k : Nat) : CallsOK Go.Proofs.Tryd.prog gl (G_words_And_1 k) := callsOK_tab (G := G_words_And_1 k) (tab := []) all_nil
theorem bodyok_words_And_1 (k : Nat) : BodyOK Go.Proofs.Tryd.prog gl (G_words_And_1 k) Go.Proofs.Tryd.f81 body_words_And_1 (sig_words_And_1 k).ps (sig_words_And_1 k).rs :=
  ⟨rfl, by kernel_rfl, rfl, ty_ok _ rfl, calls_words_And_1 k, by kernel_rfl, by kernel_rfl, fun C hP hgl hm hN => loops_all (n := 0) (by kernel_rfl) lt_all0⟩
theorem ok_words_And_1 (k : Nat) : FnOK Go.Proofs.Tryd.prog gl 81 (sig_words_And_1 k) :=
  fun_ok (G := G_words_And_1 k) (ps := (sig_words_And_1 k).ps) (rs := (sig_words_And_1 k).rs) (F := (sig_words_And_1 k).F) mix_ok Go.Proofs.Tryd.func81 (c := body_words_And_1) (by kernel_rfl) (by kernel_rfl) (bodyok_words_And_1 k) (rfl_words_And_1 k)

noncomputable def body_words_each_And_1 : Code := bodyOf Go.Proofs.Tryd.f80
noncomputable def lb_words_each_And_1_4 : Code := (loops body_words_each_And_1).getD 0 .skip
noncomputable def ls_words_each_And_1_4 (k : Nat) : LSig := ⟨⟨[(.tmp 7, .grow false (.int .u64) 57)], [(0, .d (.sl (.int .u64))), (1, .d (.sl (.int .u64))), (2, .fn 81 [] []), (7, .own 0), (14, .d (.int .i64)), (15, .d (.int .i64))]⟩, [(.exit 0, ⟨[(.tmp 7, .grow false (.int .u64) 57)], [(7, .own 0)]⟩)], fun x => words_each_And_1_l0 k x.1 x.2.1 x.2.2.1 x.2.2.2.1 x.2.2.2.2⟩
noncomputable def sig_words_each_And_1 (k : Nat) : Sig := ⟨⟨[], [(0, .d (.sl (.int .u64))), (1, .d (.sl (.int .u64))), (2, .fn 81 [] [])]⟩, ⟨[], [(0, .d (.sl (.int .u64)))]⟩, fun x => words_each_And_1 k x.1 x.2⟩
noncomputable def G_words_each_And_1 (k : Nat) : Gl := { m := 0, n := 33, gl := gl, ty := ty, fz := fz, fn := fnTab [(81, sig_words_And_1 k)], lp := lpTab 0 [(4, ls_words_each_And_1_4 k)] }
theorem rfl_words_each_And_1_4 (k : Nat) (x) : (ls_words_each_And_1_4 (k + 1)).F x = (ev (G_words_each_And_1 k) lb_words_each_And_1_4 (head (ls_words_each_And_1_4 k).hd (ofTup (ls_words_each_And_1_4 k).hd.shs x))).den (roundEnd 0 (ls_words_each_And_1_4 k)) := by kernel_rfl
theorem rfl_words_each_And_1 (k : Nat) (x) : (sig_words_each_And_1 k).F x = (ev (G_words_each_And_1 k) body_words_each_And_1 (head (sig_words_each_And_1 k).ps (ofTup (sig_words_each_And_1 k).ps.shs x))).den (funEnd (G_words_each_And_1 k) Go.Proofs.Tryd.f80.results.toList 0 (sig_words_each_And_1 k).rs) := by kernel_rfl
theorem calls_words_each_And_1 (k : Nat) : CallsOK Go.Proofs.Tryd.prog gl (G_words_each_And_1 k) := callsOK_tab (G := G_words_each_And_1 k) (tab := [(81, sig_words_And_1 k)]) (all_cons (ok_words_And_1 k) all_nil)
theorem loop_words_each_And_1_4 (C : Ctx) (hP : C.P = Go.Proofs.Tryd.prog) (hgl : C.gl = gl) (hm : C.m = 0) (hN : C.N = Go.Proofs.Tryd.f80.ntmps) (k : Nat) : LoopOK C (G_words_each_And_1 k) lb_words_each_And_1_4 :=
  LoopOK.of (by rw [hP]; exact mix_ok) (hd := (ls_words_each_And_1_4 0).hd) (ex := (ls_words_each_And_1_4 0).ex) (F := fun k => (ls_words_each_And_1_4 k).F) (Gk := G_words_each_And_1) (fun k => gok hP hgl hm hN rfl (by kernel_rfl) rfl (ty_ok _ rfl) (calls_words_each_And_1 k)) (fun k => loops_all (n := 0) (by kernel_rfl) lt_all0) (fun x => rfl)
    (fun k x => by rw [hm]; exact rfl_words_each_And_1_4 k x) k (fun S => by rw [hm]; kernel_rfl)
theorem bodyok_words_each_And_1 (k : Nat) : BodyOK Go.Proofs.Tryd.prog gl (G_words_each_And_1 k) Go.Proofs.Tryd.f80 body_words_each_And_1 (sig_words_each_And_1 k).ps (sig_words_each_And_1 k).rs :=
  ⟨rfl, by kernel_rfl, rfl, ty_ok _ rfl, calls_words_each_And_1 k, by kernel_rfl, by kernel_rfl, fun C hP hgl hm hN => loops_all (n := 1) (by kernel_rfl) (lt_allS lt_all0 (loop_words_each_And_1_4 C hP hgl hm hN k))⟩
theorem ok_words_each_And_1 (k : Nat) : FnOK Go.Proofs.Tryd.prog gl 80 (sig_words_each_And_1 k) :=
  fun_ok (G := G_words_each_And_1 k) (ps := (sig_words_each_And_1 k).ps) (rs := (sig_words_each_And_1 k).rs) (F := (sig_words_each_And_1 k).F) mix_ok Go.Proofs.Tryd.func80 (c := body_words_each_And_1) (by kernel_rfl) (by kernel_rfl) (bodyok_words_each_And_1 k) (rfl_words_each_And_1 k)

noncomputable def body_words_And : Code := bodyOf Go.Proofs.Tryd.f47
noncomputable def sig_words_And (k : Nat) : Sig := ⟨⟨[], [(0, .d (.sl (.int .u64))), (1, .d (.sl (.int .u64)))]⟩, ⟨[], [(0, .d (.sl (.int .u64)))]⟩, fun x => words_And k x.1 x.2⟩
noncomputable def G_words_And (k : Nat) : Gl := { m := 0, n := 8, gl := gl, ty := ty, fz := fz, fn := fnTab [(80, sig_words_each_And_1 k)], lp := lpTab 0 [] }
theorem rfl_words_And (k : Nat) (x) : (sig_words_And k).F x = (ev (G_words_And k) body_words_And (head (sig_words_And k).ps (ofTup (sig_words_And k).ps.shs x))).den (funEnd (G_words_And k) Go.Proofs.Tryd.f47.results.toList 0 (sig_words_And k).rs) := by kernel_rfl
theorem calls_words_And (k : Nat) : CallsOK Go.Proofs.Tryd.prog gl (G_words_And k) := callsOK_tab (G := G_words_And k) (tab := [(80, sig_words_each_And_1 k)]) (all_cons (ok_words_each_And_1 k) all_nil)
theorem bodyok_words_And (k : Nat) : BodyOK Go.Proofs.Tryd.prog gl (G_words_And k) Go.Proofs.Tryd.f47 body_words_And (sig_words_And k).ps (sig_words_And k).rs :=
  ⟨rfl, by kernel_rfl, rfl, ty_ok _ rfl, calls_words_And k, by kernel_rfl, by kernel_rfl, fun C hP hgl hm hN => loops_all (n := 0) (by kernel_rfl) lt_all0⟩
theorem ok_words_And (k : Nat) : FnOK Go.Proofs.Tryd.prog gl 47 (sig_words_And k) :=
  fun_ok (G := G_words_And k) (ps := (sig_words_And k).ps) (rs := (sig_words_And k).rs) (F := (sig_words_And k).F) mix_ok Go.Proofs.Tryd.func47 (c := body_words_And) (by kernel_rfl) (by kernel_rfl) (bodyok_words_And k) (rfl_words_And k)

noncomputable def body_container_pair_do : Code := bodyOf Go.Proofs.Tryd.f49
noncomputable def sig_container_pair_do (k : Nat) : Sig := ⟨⟨[], [(0, .agg [.fn 46 [] [], .fn 47 [] [], .fn 48 [] []]), (1, .d (.st (.pair (.int .u8) (.pair (.sl (.int .u16)) (.pair (.sl (.int .u64)) (.sl (.st (.pair (.int .u16) (.int .u16))))))))), (2, .d (.st (.pair (.int .u8) (.pair (.sl (.int .u16)) (.pair (.sl (.int .u64)) (.sl (.st (.pair (.int .u16) (.int .u16)))))))))]⟩, ⟨[], [(0, .d (.st (.pair (.int .u8) (.pair (.sl (.int .u16)) (.pair (.sl (.int .u64)) (.sl (.st (.pair (.int .u16) (.int .u16)))))))))]⟩, fun x => container_pair_do k x.1 x.2⟩
noncomputable def G_container_pair_do (k : Nat) : Gl := { m := 0, n := 52, gl := gl, ty := ty, fz := fz, fn := fnTab [(22, sig_container_Container_Kind k), (46, sig_arrays_And k), (32, sig_container_Container_Canonical k), (48, sig_runs_And k), (29, sig_container_Container_Words k), (47, sig_words_And k)], lp := lpTab 0 [] }
theorem rfl_container_pair_do (k : Nat) (x) : (sig_container_pair_do k).F x = (ev (G_container_pair_do k) body_container_pair_do (head (sig_container_pair_do k).ps (ofTup (sig_container_pair_do k).ps.shs x))).den (funEnd (G_container_pair_do k) Go.Proofs.Tryd.f49.results.toList 0 (sig_container_pair_do k).rs) := by kernel_rfl
theorem calls_container_pair_do (k : Nat) : CallsOK Go.Proofs.Tryd.prog gl (G_container_pair_do k) := callsOK_tab (G := G_container_pair_do k) (tab := [(22, sig_container_Container_Kind k), (46, sig_arrays_And k), (32, sig_container_Container_Canonical k), (48, sig_runs_And k), (29, sig_container_Container_Words k), (47, sig_words_And k)]) (all_cons (ok_container_Container_Kind k) (all_cons (ok_arrays_And k) (all_cons (ok_container_Container_Canonical k) (all_cons (ok_runs_And k) (all_cons (ok_container_Container_Words k) (all_cons (ok_words_And k) all_nil))))))
theorem bodyok_container_pair_do (k : Nat) : BodyOK Go.Proofs.Tryd.prog gl (G_container_pair_do k) Go.Proofs.Tryd.f49 body_container_pair_do (sig_container_pair_do k).ps (sig_container_pair_do k).rs :=
  ⟨rfl, by kernel_rfl, rfl, ty_ok _ rfl, calls_container_pair_do k, by kernel_rfl, by kernel_rfl, fun C hP hgl hm hN => loops_all (n := 0) (by kernel_rfl) lt_all0⟩
theorem ok_container_pair_do (k : Nat) : FnOK Go.Proofs.Tryd.prog gl 49 (sig_container_pair_do k) :=
  fun_ok (G := G_container_pair_do k) (ps := (sig_container_pair_do k).ps) (rs := (sig_container_pair_do k).rs) (F := (sig_container_pair_do k).F) mix_ok Go.Proofs.Tryd.func49 (c := body_container_pair_do) (by kernel_rfl) (by kernel_rfl) (bodyok_container_pair_do k) (rfl_container_pair_do k)

noncomputable def body_container_Container_And : Code := bodyOf Go.Proofs.Tryd.f16
noncomputable def sig_container_Container_And (k : Nat) : Sig := ⟨⟨[], [(0, .d (.st (.pair (.int .u8) (.pair (.sl (.int .u16)) (.pair (.sl (.int .u64)) (.sl (.st (.pair (.int .u16) (.int .u16))))))))), (1, .d (.st (.pair (.int .u8) (.pair (.sl (.int .u16)) (.pair (.sl (.int .u64)) (.sl (.st (.pair (.int .u16) (.int .u16)))))))))]⟩, ⟨[], [(0, .d (.st (.pair (.int .u8) (.pair (.sl (.int .u16)) (.pair (.sl (.int .u64)) (.sl (.st (.pair (.int .u16) (.int .u16)))))))))]⟩, fun x => container_Container_And k x.1 x.2⟩
noncomputable def G_container_Container_And (k : Nat) : Gl := { m := 0, n := 27, gl := gl, ty := ty, fz := fz, fn := fnTab [(22, sig_container_Container_Kind k), (44, sig_container_sift_Container_Has k), (49, sig_container_pair_do k)], lp := lpTab 0 [] }
theorem rfl_container_Container_And (k : Nat) (x) : (sig_container_Container_And k).F x = (ev (G_container_Container_And k) body_container_Container_And (head (sig_container_Container_And k).ps (ofTup (sig_container_Container_And k).ps.shs x))).den (funEnd (G_container_Container_And k) Go.Proofs.Tryd.f16.results.toList 0 (sig_container_Container_And k).rs) := by kernel_rfl
theorem calls_container_Container_And (k : Nat) : CallsOK Go.Proofs.Tryd.prog gl (G_container_Container_And k) := callsOK_tab (G := G_container_Container_And k) (tab := [(22, sig_container_Container_Kind k), (44, sig_container_sift_Container_Has k), (49, sig_container_pair_do k)]) (all_cons (ok_container_Container_Kind k) (all_cons (ok_container_sift_Container_Has k) (all_cons (ok_container_pair_do k) all_nil)))
theorem bodyok_container_Container_And (k : Nat) : BodyOK Go.Proofs.Tryd.prog gl (G_container_Container_And k) Go.Proofs.Tryd.f16 body_container_Container_And (sig_container_Container_And k).ps (sig_container_Container_And k).rs :=
  ⟨rfl, by kernel_rfl, rfl, ty_ok _ rfl, calls_container_Container_And k, by kernel_rfl, by kernel_rfl, fun C hP hgl hm hN => loops_all (n := 0) (by kernel_rfl) lt_all0⟩
theorem ok_container_Container_And (k : Nat) : FnOK Go.Proofs.Tryd.prog gl 16 (sig_container_Container_And k) :=
  fun_ok (G := G_container_Container_And k) (ps := (sig_container_Container_And k).ps) (rs := (sig_container_Container_And k).rs) (F := (sig_container_Container_And k).F) mix_ok Go.Proofs.Tryd.func16 (c := body_container_Container_And) (by kernel_rfl) (by kernel_rfl) (bodyok_container_Container_And k) (rfl_container_Container_And k)

noncomputable def body_arrays_Or_1 : Code := bodyOf Go.Proofs.Tryd.f83
noncomputable def sig_arrays_Or_1 (k : Nat) : Sig := ⟨⟨[], [(0, .d .bool), (1, .d .bool)]⟩, ⟨[], [(0, .d .bool)]⟩, fun x => arrays_Or_1 k x.1 x.2⟩
noncomputable def G_arrays_Or_1 (k : Nat) : Gl := { m := 0, n := 5, gl := gl, ty := ty, fz := fz, fn := fnTab [], lp := lpTab 0 [] }
theorem rfl_arrays_Or_1 (k : Nat) (x) : (sig_arrays_Or_1 k).F x = (ev (G_arrays_Or_1 k) body_arrays_Or_1 (head (sig_arrays_Or_1 k).ps (ofTup (sig_arrays_Or_1 k).ps.shs x))).den (funEnd (G_arrays_Or_1 k) Go.Proofs.Tryd.f83.results.toList 0 (sig_arrays_Or_1 k).rs) := by kernel_rfl
theorem calls_arrays_Or_1 (k : Nat) : CallsOK Go.Proofs.Tryd.prog gl (G_arrays_Or_1 k) := callsOK_tab (G := G_arrays_Or_1 k) (tab := []) all_nil
theorem bodyok_arrays_Or_1 (k : Nat) : BodyOK Go.Proofs.Tryd.prog gl (G_arrays_Or_1 k) Go.Proofs.Tryd.f83 body_arrays_Or_1 (sig_arrays_Or_1 k).ps (sig_arrays_Or_1 k).rs :=
  ⟨rfl, by kernel_rfl, rfl, ty_ok _ rfl, calls_arrays_Or_1 k, by kernel_rfl, by kernel_rfl, fun C hP hgl hm hN => loops_all (n := 0) (by kernel_rfl) lt_all0⟩
theorem ok_arrays_Or_1 (k : Nat) : FnOK Go.Proofs.Tryd.prog gl 83 (sig_arrays_Or_1 k) :=
  fun_ok (G := G_arrays_Or_1 k) (ps := (sig_arrays_Or_1 k).ps) (rs := (sig_arrays_Or_1 k).rs) (F := (sig_arrays_Or_1 k).F) mix_ok Go.Proofs.Tryd.func83 (c := body_arrays_Or_1) (by kernel_rfl) (by kernel_rfl) (bodyok_arrays_Or_1 k) (rfl_arrays_Or_1 k)

noncomputable def body_arrays_merge_Or_1 : Code := bodyOf Go.Proofs.Tryd.f78
noncomputable def lb_arrays_merge_Or_1_3 : Code := (loops body_arrays_merge_Or_1).getD 0 .skip
noncomputable def ls_arrays_merge_Or_1_3 (k : Nat) : LSig := ⟨⟨[(.tmp 7, .grow false (.int .u16) 40)], [(0, .d (.sl (.int .u16))), (1, .d (.sl (.int .u16))), (2, .fn 83 [] []), (7, .own 0)]⟩, [(.exit 0, ⟨[(.tmp 7, .grow false (.int .u16) 40)], [(7, .own 0)]⟩)], fun x => arrays_merge_Or_1_l0 k x.1 x.2.1 x.2.2⟩
noncomputable def sig_arrays_merge_Or_1 (k : Nat) : Sig := ⟨⟨[], [(0, .d (.sl (.int .u16))), (1, .d (.sl (.int .u16))), (2, .fn 83 [] [])]⟩, ⟨[], [(0, .d (.sl (.int .u16)))]⟩, fun x => arrays_merge_Or_1 k x.1 x.2⟩
noncomputable def G_arrays_merge_Or_1 (k : Nat) : Gl := { m := 0, n := 74, gl := gl, ty := ty, fz := fz, fn := fnTab [(83, sig_arrays_Or_1 k)], lp := lpTab 0 [(3, ls_arrays_merge_Or_1_3 k)] }
theorem rfl_arrays_merge_Or_1_3 (k : Nat) (x) : (ls_arrays_merge_Or_1_3 (k + 1)).F x = (ev (G_arrays_merge_Or_1 k) lb_arrays_merge_Or_1_3 (head (ls_arrays_merge_Or_1_3 k).hd (ofTup (ls_arrays_merge_Or_1_3 k).hd.shs x))).den (roundEnd 0 (ls_arrays_merge_Or_1_3 k)) := by kernel_rfl
theorem rfl_arrays_merge_Or_1 (k : Nat) (x) : (sig_arrays_merge_Or_1 k).F x = (ev (G_arrays_merge_Or_1 k) body_arrays_merge_Or_1 (head (sig_arrays_merge_Or_1 k).ps (ofTup (sig_arrays_merge_Or_1 k).ps.shs x))).den (funEnd (G_arrays_merge_Or_1 k) Go.Proofs.Tryd.f78.results.toList 0 (sig_arrays_merge_Or_1 k).rs) := by kernel_rfl
theorem calls_arrays_merge_Or_1 (k : Nat) : CallsOK Go.Proofs.Tryd.prog gl (G_arrays_merge_Or_1 k) := callsOK_tab (G := G_arrays_merge_Or_1 k) (tab := [(83, sig_arrays_Or_1 k)]) (all_cons (ok_arrays_Or_1 k) all_nil)
theorem loop_arrays_merge_Or_1_3 (C : Ctx) (hP : C.P = Go.Proofs.Tryd.prog) (hgl : C.gl = gl) (hm : C.m = 0) (hN : C.N = Go.Proofs.Tryd.f78.ntmps) (k : Nat) : LoopOK C (G_arrays_merge_Or_1 k) lb_arrays_merge_Or_1_3 :=
  LoopOK.of (by rw [hP]; exact mix_ok) (hd := (ls_arrays_merge_Or_1_3 0).hd) (ex := (ls_arrays_merge_Or_1_3 0).ex) (F := fun k => (ls_arrays_merge_Or_1_3 k).F) (Gk := G_arrays_merge_Or_1) (fun k => gok hP hgl hm hN rfl (by kernel_rfl) rfl (ty_ok _ rfl) (calls_arrays_merge_Or_1 k)) (fun k => loops_all (n := 0) (by kernel_rfl) lt_all0) (fun x => rfl)
    (fun k x => by rw [hm]; exact rfl_arrays_merge_Or_1_3 k x) k (fun S => by rw [hm]; kernel_rfl)
theorem bodyok_arrays_merge_Or_1 (k : Nat) : BodyOK Go.Proofs.Tryd.prog gl (G_arrays_merge_Or_1 k) Go.Proofs.Tryd.f78 body_arrays_merge_Or_1 (sig_arrays_merge_Or_1 k).ps (sig_arrays_merge_Or_1 k).rs :=
  ⟨rfl, by kernel_rfl, rfl, ty_ok _ rfl, calls_arrays_merge_Or_1 k, by kernel_rfl, by kernel_rfl, fun C hP hgl hm hN => loops_all (n := 1) (by kernel_rfl) (lt_allS lt_all0 (loop_arrays_merge_Or_1_3 C hP hgl hm hN k))⟩
theorem ok_arrays_merge_Or_1 (k : Nat) : FnOK Go.Proofs.Tryd.prog gl 78 (sig_arrays_merge_Or_1 k) :=
  fun_ok (G := G_arrays_merge_Or_1 k) (ps := (sig_arrays_merge_Or_1 k).ps) (rs := (sig_arrays_merge_Or_1 k).rs) (F := (sig_arrays_merge_Or_1 k).F) mix_ok Go.Proofs.Tryd.func78 (c := body_arrays_merge_Or_1) (by kernel_rfl) (by kernel_rfl) (bodyok_arrays_merge_Or_1 k) (rfl_arrays_merge_Or_1 k)

noncomputable def body_arrays_Or : Code := bodyOf Go.Proofs.Tryd.f50
noncomputable def sig_arrays_Or (k : Nat) : Sig := ⟨⟨[], [(0, .d (.sl (.int .u16))), (1, .d (.sl (.int .u16)))]⟩, ⟨[], [(0, .d (.sl (.int .u16)))]⟩, fun x => arrays_Or k x.1 x.2⟩
noncomputable def G_arrays_Or (k : Nat) : Gl := { m := 0, n := 8, gl := gl, ty := ty, fz := fz, fn := fnTab [(78, sig_arrays_merge_Or_1 k)], lp := lpTab 0 [] }
theorem rfl_arrays_Or (k : Nat) (x) : (sig_arrays_Or k).F x = (ev (G_arrays_Or k) body_arrays_Or (head (sig_arrays_Or k).ps (ofTup (sig_arrays_Or k).ps.shs x))).den (funEnd (G_arrays_Or k) Go.Proofs.Tryd.f50.results.toList 0 (sig_arrays_Or k).rs) := by kernel_rfl
theorem calls_arrays_Or (k : Nat) : CallsOK Go.Proofs.Tryd.prog gl (G_arrays_Or k) := callsOK_tab (G := G_arrays_Or k) (tab := [(78, sig_arrays_merge_Or_1 k)]) (all_cons (ok_arrays_merge_Or_1 k) all_nil)
theorem bodyok_arrays_Or (k : Nat) : BodyOK Go.Proofs.Tryd.prog gl (G_arrays_Or k) Go.Proofs.Tryd.f50 body_arrays_Or (sig_arrays_Or k).ps (sig_arrays_Or k).rs :=
  ⟨rfl, by kernel_rfl, rfl, ty_ok _ rfl, calls_arrays_Or k, by kernel_rfl, by kernel_rfl, fun C hP hgl hm hN => loops_all (n := 0) (by kernel_rfl) lt_all0⟩
theorem ok_arrays_Or (k : Nat) : FnOK Go.Proofs.Tryd.prog gl 50 (sig_arrays_Or k) :=
  fun_ok (G := G_arrays_Or k) (ps := (sig_arrays_Or k).ps) (rs := (sig_arrays_Or k).rs) (F := (sig_arrays_Or k).F) mix_ok Go.Proofs.Tryd.func50 (c := body_arrays_Or) (by kernel_rfl) (by kernel_rfl) (bodyok_arrays_Or k) (rfl_arrays_Or k)

noncomputable def body_runs_Or_1 : Code := bodyOf Go.Proofs.Tryd.f85
noncomputable def sig_runs_Or_1 (k : Nat) : Sig := ⟨⟨[], [(0, .d .bool), (1, .d .bool)]⟩, ⟨[], [(0, .d .bool)]⟩, fun x => runs_Or_1 k x.1 x.2⟩
noncomputable def G_runs_Or_1 (k : Nat) : Gl := { m := 0, n := 9, gl := gl, ty := ty, fz := fz, fn := fnTab [], lp := lpTab 0 [] }
theorem rfl_runs_Or_1 (k : Nat) (x) : (sig_runs_Or_1 k).F x = (ev (G_runs_Or_1 k) body_runs_Or_1 (head (sig_runs_Or_1 k).ps (ofTup (sig_runs_Or_1 k).ps.shs x))).den (funEnd (G_runs_Or_1 k) Go.Proofs.Tryd.f85.results.toList 0 (sig_runs_Or_1 k).rs) := by kernel_rfl
theorem calls_runs_Or_1 (k : Nat) : CallsOK Go.Proofs.Tryd.prog gl (G_runs_Or_1 k) := callsOK_tab (G := G_runs_Or_1 k) (tab := []) all_nil
theorem bodyok_runs_Or_1 (k : Nat) : BodyOK Go.Proofs.Tryd.prog gl (G_runs_Or_1 k) Go.Proofs.Tryd.f85 body_runs_Or_1 (sig_runs_Or_1 k).ps (sig_runs_Or_1 k).rs :=
  ⟨rfl, by kernel_rfl, rfl, ty_ok _ rfl, calls_runs_Or_1 k, by kernel_rfl, by kernel_rfl, fun C hP hgl hm hN => loops_all (n := 0) (by kernel_rfl) lt_all0⟩
theorem ok_runs_Or_1 (k : Nat) : FnOK Go.Proofs.Tryd.prog gl 85 (sig_runs_Or_1 k) :=
  fun_ok (G := G_runs_Or_1 k) (ps := (sig_runs_Or_1 k).ps) (rs := (sig_runs_Or_1 k).rs) (F := (sig_runs_Or_1 k).F) mix_ok Go.Proofs.Tryd.func85 (c := body_runs_Or_1) (by kernel_rfl) (by kernel_rfl) (bodyok_runs_Or_1 k) (rfl_runs_Or_1 k)

noncomputable def body_runs_edges_Or_1 : Code := bodyOf Go.Proofs.Tryd.f66
noncomputable def lb_runs_edges_Or_1_5 : Code := (loops body_runs_edges_Or_1).getD 0 .skip
noncomputable def lb_runs_edges_Or_1_11 : Code := (loops lb_runs_edges_Or_1_5).getD 0 .skip
noncomputable def lb_runs_edges_Or_1_13 : Code := (loops lb_runs_edges_Or_1_5).getD 1 .skip
noncomputable def ls_runs_edges_Or_1_11 (k : Nat) : LSig := ⟨⟨[(.tmp 7, .grow false (.st (.pair (.int .u16) (.int .u16))) 65)], [(0, .d (.sl (.int .i64))), (1, .d (.sl (.int .i64))), (2, .fn 85 [] []), (7, .own 0), (8, .d .bool), (9, .d (.int .i64)), (10, .d (.int .i64)), (11, .d (.int .i64)), (12, .d (.int .i64))]⟩, [(.exit 2, ⟨[(.tmp 7, .grow false (.st (.pair (.int .u16) (.int .u16))) 65)], [(0, .d (.sl (.int .i64))), (1, .d (.sl (.int .i64))), (2, .fn 85 [] []), (7, .own 0), (8, .d .bool), (9, .d (.int .i64)), (10, .d (.int .i64)), (11, .d (.int .i64)), (12, .d (.int .i64))]⟩)], fun x => runs_edges_Or_1_l1 k x.1 x.2.1 x.2.2.1 x.2.2.2.1 x.2.2.2.2.1 x.2.2.2.2.2.1 x.2.2.2.2.2.2.1 x.2.2.2.2.2.2.2⟩
noncomputable def ls_runs_edges_Or_1_13 (k : Nat) : LSig := ⟨⟨[(.tmp 7, .grow false (.st (.pair (.int .u16) (.int .u16))) 65)], [(0, .d (.sl (.int .i64))), (1, .d (.sl (.int .i64))), (2, .fn 85 [] []), (7, .own 0), (8, .d .bool), (9, .d (.int .i64)), (10, .d (.int .i64)), (11, .d (.int .i64)), (12, .d (.int .i64))]⟩, [(.exit 4, ⟨[(.tmp 7, .grow false (.st (.pair (.int .u16) (.int .u16))) 65)], [(0, .d (.sl (.int .i64))), (1, .d (.sl (.int .i64))), (2, .fn 85 [] []), (7, .own 0), (8, .d .bool), (9, .d (.int .i64)), (10, .d (.int .i64)), (11, .d (.int .i64)), (12, .d (.int .i64))]⟩)], fun x => runs_edges_Or_1_l2 k x.1 x.2.1 x.2.2.1 x.2.2.2.1 x.2.2.2.2.1 x.2.2.2.2.2.1 x.2.2.2.2.2.2.1 x.2.2.2.2.2.2.2⟩
noncomputable def ls_runs_edges_Or_1_5 (k : Nat) : LSig := ⟨⟨[(.tmp 7, .grow false (.st (.pair (.int .u16) (.int .u16))) 65)], [(0, .d (.sl (.int .i64))), (1, .d (.sl (.int .i64))), (2, .fn 85 [] []), (7, .own 0), (8, .d .bool), (9, .d (.int .i64)), (10, .d (.int .i64)), (11, .d (.int .i64))]⟩, [(.exit 0, ⟨[(.tmp 7, .grow false (.st (.pair (.int .u16) (.int .u16))) 65)], [(7, .own 0)]⟩)], fun x => runs_edges_Or_1_l0 k x.1 x.2.1 x.2.2.1 x.2.2.2.1 x.2.2.2.2.1 x.2.2.2.2.2.1 x.2.2.2.2.2.2⟩
noncomputable def sig_runs_edges_Or_1 (k : Nat) : Sig := ⟨⟨[], [(0, .d (.sl (.int .i64))), (1, .d (.sl (.int .i64))), (2, .fn 85 [] [])]⟩, ⟨[], [(0, .d (.sl (.st (.pair (.int .u16) (.int .u16)))))]⟩, fun x => runs_edges_Or_1 k x.1 x.2⟩
noncomputable def G_runs_edges_Or_1 (k : Nat) : Gl := { m := 0, n := 96, gl := gl, ty := ty, fz := fz, fn := fnTab [(85, sig_runs_Or_1 k)], lp := lpTab 0 [(11, ls_runs_edges_Or_1_11 k), (13, ls_runs_edges_Or_1_13 k), (5, ls_runs_edges_Or_1_5 k)] }
theorem rfl_runs_edges_Or_1_11 (k : Nat) (x) : (ls_runs_edges_Or_1_11 (k + 1)).F x = (ev (G_runs_edges_Or_1 k) lb_runs_edges_Or_1_11 (head (ls_runs_edges_Or_1_11 k).hd (ofTup (ls_runs_edges_Or_1_11 k).hd.shs x))).den (roundEnd 0 (ls_runs_edges_Or_1_11 k)) := by kernel_rfl
theorem rfl_runs_edges_Or_1_13 (k : Nat) (x) : (ls_runs_edges_Or_1_13 (k + 1)).F x = (ev (G_runs_edges_Or_1 k) lb_runs_edges_Or_1_13 (head (ls_runs_edges_Or_1_13 k).hd (ofTup (ls_runs_edges_Or_1_13 k).hd.shs x))).den (roundEnd 0 (ls_runs_edges_Or_1_13 k)) := by kernel_rfl
theorem rfl_runs_edges_Or_1_5 (k : Nat) (x) : (ls_runs_edges_Or_1_5 (k + 1)).F x = (ev (G_runs_edges_Or_1 k) lb_runs_edges_Or_1_5 (head (ls_runs_edges_Or_1_5 k).hd (ofTup (ls_runs_edges_Or_1_5 k).hd.shs x))).den (roundEnd 0 (ls_runs_edges_Or_1_5 k)) := by kernel_rfl
theorem rfl_runs_edges_Or_1 (k : Nat) (x) : (sig_runs_edges_Or_1 k).F x = (ev (G_runs_edges_Or_1 k) body_runs_edges_Or_1 (head (sig_runs_edges_Or_1 k).ps (ofTup (sig_runs_edges_Or_1 k).ps.shs x))).den (funEnd (G_runs_edges_Or_1 k) Go.Proofs.Tryd.f66.results.toList 0 (sig_runs_edges_Or_1 k).rs) := by kernel_rfl
theorem calls_runs_edges_Or_1 (k : Nat) : CallsOK Go.Proofs.Tryd.prog gl (G_runs_edges_Or_1 k) := callsOK_tab (G := G_runs_edges_Or_1 k) (tab := [(85, sig_runs_Or_1 k)]) (all_cons (ok_runs_Or_1 k) all_nil)
theorem loop_runs_edges_Or_1_11 (C : Ctx) (hP : C.P = Go.Proofs.Tryd.prog) (hgl : C.gl = gl) (hm : C.m = 0) (hN : C.N = Go.Proofs.Tryd.f66.ntmps) (k : Nat) : LoopOK C (G_runs_edges_Or_1 k) lb_runs_edges_Or_1_11 :=
  LoopOK.of (by rw [hP]; exact mix_ok) (hd := (ls_runs_edges_Or_1_11 0).hd) (ex := (ls_runs_edges_Or_1_11 0).ex) (F := fun k => (ls_runs_edges_Or_1_11 k).F) (Gk := G_runs_edges_Or_1) (fun k => gok hP hgl hm hN rfl (by kernel_rfl) rfl (ty_ok _ rfl) (calls_runs_edges_Or_1 k)) (fun k => loops_all (n := 0) (by kernel_rfl) lt_all0) (fun x => rfl)
    (fun k x => by rw [hm]; exact rfl_runs_edges_Or_1_11 k x) k (fun S => by rw [hm]; kernel_rfl)
theorem loop_runs_edges_Or_1_13 (C : Ctx) (hP : C.P = Go.Proofs.Tryd.prog) (hgl : C.gl = gl) (hm : C.m = 0) (hN : C.N = Go.Proofs.Tryd.f66.ntmps) (k : Nat) : LoopOK C (G_runs_edges_Or_1 k) lb_runs_edges_Or_1_13 :=
  LoopOK.of (by rw [hP]; exact mix_ok) (hd := (ls_runs_edges_Or_1_13 0).hd) (ex := (ls_runs_edges_Or_1_13 0).ex) (F := fun k => (ls_runs_edges_Or_1_13 k).F) (Gk := G_runs_edges_Or_1) (fun k => gok hP hgl hm hN rfl (by kernel_rfl) rfl (ty_ok _ rfl) (calls_runs_edges_Or_1 k)) (fun k => loops_all (n := 0) (by kernel_rfl) lt_all0) (fun x => rfl)
    (fun k x => by rw [hm]; exact rfl_runs_edges_Or_1_13 k x) k (fun S => by rw [hm]; kernel_rfl)
theorem loop_runs_edges_Or_1_5 (C : Ctx) (hP : C.P = Go.Proofs.Tryd.prog) (hgl : C.gl = gl) (hm : C.m = 0) (hN : C.N = Go.Proofs.Tryd.f66.ntmps) (k : Nat) : LoopOK C (G_runs_edges_Or_1 k) lb_runs_edges_Or_1_5 :=
  LoopOK.of (by rw [hP]; exact mix_ok) (hd := (ls_runs_edges_Or_1_5 0).hd) (ex := (ls_runs_edges_Or_1_5 0).ex) (F := fun k => (ls_runs_edges_Or_1_5 k).F) (Gk := G_runs_edges_Or_1) (fun k => gok hP hgl hm hN rfl (by kernel_rfl) rfl (ty_ok _ rfl) (calls_runs_edges_Or_1 k)) (fun k => loops_all (n := 2) (by kernel_rfl) (lt_allS (lt_allS lt_all0 (loop_runs_edges_Or_1_11 C hP hgl hm hN k)) (loop_runs_edges_Or_1_13 C hP hgl hm hN k))) (fun x => rfl)
    (fun k x => by rw [hm]; exact rfl_runs_edges_Or_1_5 k x) k (fun S => by rw [hm]; kernel_rfl)
theorem bodyok_runs_edges_Or_1 (k : Nat) : BodyOK Go.Proofs.Tryd.prog gl (G_runs_edges_Or_1 k) Go.Proofs.Tryd.f66 body_runs_edges_Or_1 (sig_runs_edges_Or_1 k).ps (sig_runs_edges_Or_1 k).rs :=
  ⟨rfl, by kernel_rfl, rfl, ty_ok _ rfl, calls_runs_edges_Or_1 k, by kernel_rfl, by kernel_rfl, fun C hP hgl hm hN => loops_all (n := 1) (by kernel_rfl) (lt_allS lt_all0 (loop_runs_edges_Or_1_5 C hP hgl hm hN k))⟩
theorem ok_runs_edges_Or_1 (k : Nat) : FnOK Go.Proofs.Tryd.prog gl 66 (sig_runs_edges_Or_1 k) :=
  fun_ok (G := G_runs_edges_Or_1 k) (ps := (sig_runs_edges_Or_1 k).ps) (rs := (sig_runs_edges_Or_1 k).rs) (F := (sig_runs_edges_Or_1 k).F) mix_ok Go.Proofs.Tryd.func66 (c := body_runs_edges_Or_1) (by kernel_rfl) (by kernel_rfl) (bodyok_runs_edges_Or_1 k) (rfl_runs_edges_Or_1 k)

noncomputable def body_runs_Or : Code := bodyOf Go.Proofs.Tryd.f52
noncomputable def sig_runs_Or (k : Nat) : Sig := ⟨⟨[], [(0, .d (.sl (.st (.pair (.int .u16) (.int .u16))))), (1, .d (.sl (.st (.pair (.int .u16) (.int .u16)))))]⟩, ⟨[], [(0, .d (.sl (.st (.pair (.int .u16) (.int .u16)))))]⟩, fun x => runs_Or k x.1 x.2⟩
noncomputable def G_runs_Or (k : Nat) : Gl := { m := 0, n := 10, gl := gl, ty := ty, fz := fz, fn := fnTab [(67, sig_runs_row k), (66, sig_runs_edges_Or_1 k)], lp := lpTab 0 [] }
theorem rfl_runs_Or (k : Nat) (x) : (sig_runs_Or k).F x = (ev (G_runs_Or k) body_runs_Or (head (sig_runs_Or k).ps (ofTup (sig_runs_Or k).ps.shs x))).den (funEnd (G_runs_Or k) Go.Proofs.Tryd.f52.results.toList 0 (sig_runs_Or k).rs) := by kernel_rfl
theorem calls_runs_Or (k : Nat) : CallsOK Go.Proofs.Tryd.prog gl (G_runs_Or k) := callsOK_tab (G := G_runs_Or k) (tab := [(67, sig_runs_row k), (66, sig_runs_edges_Or_1 k)]) (all_cons (ok_runs_row k) (all_cons (ok_runs_edges_Or_1 k) all_nil))
theorem bodyok_runs_Or (k : Nat) : BodyOK Go.Proofs.Tryd.prog gl (G_runs_Or k) Go.Proofs.Tryd.f52 body_runs_Or (sig_runs_Or k).ps (sig_runs_Or k).rs :=
  ⟨rfl, by kernel_rfl, rfl, ty_ok _ rfl, calls_runs_Or k, by kernel_rfl, by kernel_rfl, fun C hP hgl hm hN => loops_all (n := 0) (by kernel_rfl) lt_all0⟩
theorem ok_runs_Or (k : Nat) : FnOK Go.Proofs.Tryd.prog gl 52 (sig_runs_Or k) :=
  fun_ok (G := G_runs_Or k) (ps := (sig_runs_Or k).ps) (rs := (sig_runs_Or k).rs) (F := (sig_runs_Or k).F) mix_ok Go.Proofs.Tryd.func52 (c := body_runs_Or) (by kernel_rfl) (by kernel_rfl) (bodyok_runs_Or k) (rfl_runs_Or k)

noncomputable def body_words_Or_1 : Code := bodyOf Go.Proofs.Tryd.f84
noncomputable def sig_words_Or_1 (k : Nat) : Sig := ⟨⟨[], [(0, .d (.int .u64)), (1, .d (.int .u64))]⟩, ⟨[], [(0, .d (.int .u64))]⟩, fun x => words_Or_1 k x.1 x.2⟩
noncomputable def G_words_Or_1 (k : Nat) : Gl := { m := 0, n := 8, gl := gl, ty := ty, fz := fz, fn := fnTab [], lp := lpTab 0 [] }
theorem rfl_words_Or_1 (k : Nat) (x) : (sig_words_Or_1 k).F x = (ev (G_words_Or_1 k) body_words_Or_1 (head (sig_words_Or_1 k).ps (ofTup (sig_words_Or_1 k).ps.shs x))).den (funEnd (G_words_Or_1 k) Go.Proofs.Tryd.f84.results.toList 0 (sig_words_Or_1 k).rs) := by kernel_rfl
theorem calls_words_Or_1 (k : Nat) : CallsOK Go.Proofs.Tryd.prog gl (G_words_Or_1 k) := callsOK_tab (G := G_words_Or_1 k) (tab := []) all_nil
theorem bodyok_words_Or_1 (k : Nat) : BodyOK Go.Proofs.Tryd.prog gl (G_words_Or_1 k) Go.Proofs.Tryd.f84 body_words_Or_1 (sig_words_Or_1 k).ps (sig_words_Or_1 k).rs :=
  ⟨rfl, by kernel_rfl, rfl, ty_ok _ rfl, calls_words_Or_1 k, by kernel_rfl, by kernel_rfl, fun C hP hgl hm hN => loops_all (n := 0) (by kernel_rfl) lt_all0⟩
theorem ok_words_Or_1 (k : Nat) : FnOK Go.Proofs.Tryd.prog gl 84 (sig_words_Or_1 k) :=
  fun_ok (G := G_words_Or_1 k) (ps := (sig_words_Or_1 k).ps) (rs := (sig_words_Or_1 k).rs) (F := (sig_words_Or_1 k).F) mix_ok Go.Proofs.Tryd.func84 (c := body_words_Or_1) (by kernel_rfl) (by kernel_rfl) (bodyok_words_Or_1 k) (rfl_words_Or_1 k)

noncomputable def body_words_each_Or_1 : Code := bodyOf Go.Proofs.Tryd.f80
noncomputable def lb_words_each_Or_1_4 : Code := (loops body_words_each_Or_1).getD 0 .skip
noncomputable def ls_words_each_Or_1_4 (k : Nat) : LSig := ⟨⟨[(.tmp 7, .grow false (.int .u64) 57)], [(0, .d (.sl (.int .u64))), (1, .d (.sl (.int .u64))), (2, .fn 84 [] []), (7, .own 0), (14, .d (.int .i64)), (15, .d (.int .i64))]⟩, [(.exit 0, ⟨[(.tmp 7, .grow false (.int .u64) 57)], [(7, .own 0)]⟩)], fun x => words_each_Or_1_l0 k x.1 x.2.1 x.2.2.1 x.2.2.2.1 x.2.2.2.2⟩
noncomputable def sig_words_each_Or_1 (k : Nat) : Sig := ⟨⟨[], [(0, .d (.sl (.int .u64))), (1, .d (.sl (.int .u64))), (2, .fn 84 [] [])]⟩, ⟨[], [(0, .d (.sl (.int .u64)))]⟩, fun x => words_each_Or_1 k x.1 x.2⟩
noncomputable def G_words_each_Or_1 (k : Nat) : Gl := { m := 0, n := 33, gl := gl, ty := ty, fz := fz, fn := fnTab [(84, sig_words_Or_1 k)], lp := lpTab 0 [(4, ls_words_each_Or_1_4 k)] }
theorem rfl_words_each_Or_1_4 (k : Nat) (x) : (ls_words_each_Or_1_4 (k + 1)).F x = (ev (G_words_each_Or_1 k) lb_words_each_Or_1_4 (head (ls_words_each_Or_1_4 k).hd (ofTup (ls_words_each_Or_1_4 k).hd.shs x))).den (roundEnd 0 (ls_words_each_Or_1_4 k)) := by kernel_rfl
theorem rfl_words_each_Or_1 (k : Nat) (x) : (sig_words_each_Or_1 k).F x = (ev (G_words_each_Or_1 k) body_words_each_Or_1 (head (sig_words_each_Or_1 k).ps (ofTup (sig_words_each_Or_1 k).ps.shs x))).den (funEnd (G_words_each_Or_1 k) Go.Proofs.Tryd.f80.results.toList 0 (sig_words_each_Or_1 k).rs) := by kernel_rfl
theorem calls_words_each_Or_1 (k : Nat) : CallsOK Go.Proofs.Tryd.prog gl (G_words_each_Or_1 k) := callsOK_tab (G := G_words_each_Or_1 k) (tab := [(84, sig_words_Or_1 k)]) (all_cons (ok_words_Or_1 k) all_nil)
theorem loop_words_each_Or_1_4 (C : Ctx) (hP : C.P = Go.Proofs.Tryd.prog) (hgl : C.gl = gl) (hm : C.m = 0) (hN : C.N = Go.Proofs.Tryd.f80.ntmps) (k : Nat) : LoopOK C (G_words_each_Or_1 k) lb_words_each_Or_1_4 :=
  LoopOK.of (by rw [hP]; exact mix_ok) (hd := (ls_words_each_Or_1_4 0).hd) (ex := (ls_words_each_Or_1_4 0).ex) (F := fun k => (ls_words_each_Or_1_4 k).F) (Gk := G_words_each_Or_1) (fun k => gok hP hgl hm hN rfl (by kernel_rfl) rfl (ty_ok _ rfl) (calls_words_each_Or_1 k)) (fun k => loops_all (n := 0) (by kernel_rfl) lt_all0) (fun x => rfl)
    (fun k x => by rw [hm]; exact rfl_words_each_Or_1_4 k x) k (fun S => by rw [hm]; kernel_rfl)
theorem bodyok_words_each_Or_1 (k : Nat) : BodyOK Go.Proofs.Tryd.prog gl (G_words_each_Or_1 k) Go.Proofs.Tryd.f80 body_words_each_Or_1 (sig_words_each_Or_1 k).ps (sig_words_each_Or_1 k).rs :=
  ⟨rfl, by kernel_rfl, rfl, ty_ok _ rfl, calls_words_each_Or_1 k, by kernel_rfl, by kernel_rfl, fun C hP hgl hm hN => loops_all (n := 1) (by kernel_rfl) (lt_allS lt_all0 (loop_words_each_Or_1_4 C hP hgl hm hN k))⟩
theorem ok_words_each_Or_1 (k : Nat) : FnOK Go.Proofs.Tryd.prog gl 80 (sig_words_each_Or_1 k) :=
  fun_ok (G := G_words_each_Or_1 k) (ps := (sig_words_each_Or_1 k).ps) (rs := (sig_words_each_Or_1 k).rs) (F := (sig_words_each_Or_1 k).F) mix_ok Go.Proofs.Tryd.func80 (c := body_words_each_Or_1) (by kernel_rfl) (by kernel_rfl) (bodyok_words_each_Or_1 k) (rfl_words_each_Or_1 k)

noncomputable def body_words_Or : Code := bodyOf Go.Proofs.Tryd.f51
noncomputable def sig_words_Or (k : Nat) : Sig := ⟨⟨[], [(0, .d (.sl (.int .u64))), (1, .d (.sl (.int .u64)))]⟩, ⟨[], [(0, .d (.sl (.int .u64)))]⟩, fun x => words_Or k x.1 x.2⟩
noncomputable def G_words_Or (k : Nat) : Gl := { m := 0, n := 8, gl := gl, ty := ty, fz := fz, fn := fnTab [(80, sig_words_each_Or_1 k)], lp := lpTab 0 [] }
theorem rfl_words_Or (k : Nat) (x) : (sig_words_Or k).F x = (ev (G_words_Or k) body_words_Or (head (sig_words_Or k).ps (ofTup (sig_words_Or k).ps.shs x))).den (funEnd (G_words_Or k) Go.Proofs.Tryd.f51.results.toList 0 (sig_words_Or k).rs) := by kernel_rfl
theorem calls_words_Or (k : Nat) : CallsOK Go.Proofs.Tryd.prog gl (G_words_Or k) := callsOK_tab (G := G_words_Or k) (tab := [(80, sig_words_each_Or_1 k)]) (all_cons (ok_words_each_Or_1 k) all_nil)
theorem bodyok_words_Or (k : Nat) : BodyOK Go.Proofs.Tryd.prog gl (G_words_Or k) Go.Proofs.Tryd.f51 body_words_Or (sig_words_Or k).ps (sig_words_Or k).rs :=
  ⟨rfl, by kernel_rfl, rfl, ty_ok _ rfl, calls_words_Or k, by kernel_rfl, by kernel_rfl, fun C hP hgl hm hN => loops_all (n := 0) (by kernel_rfl) lt_all0⟩
theorem ok_words_Or (k : Nat) : FnOK Go.Proofs.Tryd.prog gl 51 (sig_words_Or k) :=
  fun_ok (G := G_words_Or k) (ps := (sig_words_Or k).ps) (rs := (sig_words_Or k).rs) (F := (sig_words_Or k).F) mix_ok Go.Proofs.Tryd.func51 (c := body_words_Or) (by kernel_rfl) (by kernel_rfl) (bodyok_words_Or k) (rfl_words_Or k)

end Go.Rx.Tryd

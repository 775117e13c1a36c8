/- Rx, part 22: a function, from what its body evaluates to. -/
import Derived.Test.YtlncjconodmjjaaDoorSound
import Derived.Laws.Sem
namespace Go.Rx
set_option linter.unusedVariables false
set_option linter.unusedSimpArgs false
theorem strict_get : ∀ {ids : List (Option Nat)} {n : Nat}, strictIds ids n = true → ∀ j : Nat, j < ids.length → ids[j]? = some (some (n + j))
  | [], _, _, j, hj => by simp at hj
  | none :: r, _, h, _, _ => by cases h
  | some a :: r, n, h, j, hj => by
    simp only [strictIds] at h
    split at h
    · rename_i hb
      have hb : a = n := by simpa using hb
      subst hb
      cases j with
      | zero => rfl
      | succ j =>
        have := strict_get (n := a + 1) h j (by simpa using hj)
        rw [List.getElem?_cons_succ, this]
        congr 2
        omega
    · cases h
theorem projO_len {m : Nat} {S : AS} {ids : List (Option Nat)} : ∀ {os : List (Loc × OS)} {is : List (Option Nat)} {r : List Dat × List Nat}, projO m S ids os is = some r → is.length = os.length
  | [], [], _, _ => rfl
  | [], _ :: _, _, h => by cases h
  | _ :: _, [], _, h => by cases h
  | o :: os, i :: is, r, h => by
    simp only [projO] at h
    split at h
    · rename_i h2
      simp [projO_len h2]
    · cases h
theorem args_get (args : List AV) (H : List Obj) (t : Nat) : (argsState args H).get t = match args[t]? with | some v => v | none => .unk := by
  show (match look (zipI 0 args) t with | some v => v | none => .unk) = _
  rw [look_zip]
  simp
theorem args_obj (args : List AV) (H : List Obj) (id : Nat) : (argsState args H).obj id = H[id]? := by
  show look (zipI 0 H) id = _
  rw [look_zip]
  simp
def ssOrd : List (Nat × SD) → Nat → Bool
  | [], _ => true
  | s :: r, n => match Nat.beq s.1 n with | true => ssOrd r (n + 1) | false => false
theorem takeS_ord : ∀ {ss : List (Nat × SD)} {n : Nat} (l : List Dat), ssOrd ss n = true → (takeS ss l).length = ss.length ∧ ∀ j p, (takeS ss l)[j]? = some p → look (takeS ss l) (n + j) = some p.2
  | [], n, l, _ => ⟨rfl, fun j p h => by cases h⟩
  | s :: r, n, l, h => by
    simp only [ssOrd] at h
    split at h
    · rename_i hb
      have hb : s.1 = n := by simpa using hb
      obtain ⟨i1, i2⟩ := takeS_ord (takeSD s.2 l).2 h
      refine ⟨by simp [takeS, i1], fun j p hj => ?_⟩
      simp only [takeS] at hj ⊢
      rw [look_cons]
      cases j with
      | zero => cases hj; simp [hb]
      | succ j =>
        rw [if_neg (by omega)]
        have := i2 j p (by simpa using hj)
        rwa [show n + (j + 1) = n + 1 + j by omega]
    · cases h
theorem repL_of {D : Nat → Prop} {E : Env} {A : Nat → Prop} {w : World} : ∀ {l : List AV} {vs : List Value}, l.length = vs.length → (∀ j v, l[j]? = some v → RepV D E A w v (vs.getD j undef)) → RepL D E A w l vs
  | [], [], _, _ => by simp [RepL]
  | [], _ :: _, h, _ => by simp at h
  | _ :: _, [], h, _ => by simp at h
  | v :: l, x :: vs, h, hv => by
    simp only [RepL]
    exact ⟨x, vs, rfl, by simpa using hv 0 v rfl, repL_of (by simpa using h) fun j u hj => by simpa using hv (j + 1) u (by simpa using hj)⟩
/-- A function's fact, as the table holds it. -/
def FnOK (P : Program) (gl : Nat → Option Tab) (f : FuncId) (s : Sig) : Prop :=
  ∀ args H l x y, projArgs s.ps args H = some l → toTup s.ps.shs l = some x → s.F x = some y → FSpec P gl f args H (resAV (head s.rs (ofTup s.rs.shs y)).t) (head s.rs (ofTup s.rs.shs y)).h
theorem callsOK_tab {P : Program} {gl : Nat → Option Tab} {G : Gl} : ∀ {tab : List (FuncId × Sig)}, (∀ p, p ∈ tab → FnOK P gl p.1 p.2) → ∀ f as H cs r, fnTab tab f as H = some cs → cs.o = some r → FSpec P gl f as H (cs.out r).1 (cs.out r).2
  | [], _, f, as, H, cs, r, h, _ => by cases h
  | p :: t, hp, f, as, H, cs, r, h, hr => by
    simp only [fnTab] at h
    have rest := callsOK_tab (G := G) (tab := t) (fun q hq => hp q (by simp [hq])) f as H cs r
    split at h
    · rename_i hf
      have hf : p.1 = f := by simpa using hf
      subst hf
      split at h
      · rename_i c hc
        cases h
        unfold Sig.cs at hc
        split at hc
        · cases hc
        · rename_i l hl
          split at hc
          · cases hc
          · rename_i x hx
            cases hc
            exact hp p (by simp) as H l x r hl hx hr
      · exact rest h hr
    · exact rest h hr
/-- All that is asked, beside the evaluation. -/
structure BodyOK (P : Program) (gl : Nat → Option Tab) (G : Gl) (fn : Func) (c : Code) (ps rs : Descr) : Prop where
  hm : G.m = ps.os.length
  hn : G.n = fn.ntmps
  hgl : G.gl = gl
  hty : TyOK P G
  hcalls : CallsOK P gl G
  hps : Nat.ble ps.ss.length fn.ntmps = true
  hrs : ssOrd rs.ss 0 = true
  hloops : ∀ C : Ctx, C.P = P → C.gl = gl → C.m = ps.os.length → C.N = fn.ntmps → ∀ b, b ∈ loops c → LoopOK C G b
theorem resOf_ok {C : Ctx} {S : AS} {E : Env} {a : Act} {w : World} {G : Gl} (hty : TyOK C.P G) (hR : RepE C S E a w) : ∀ {rvs : List ResultVar} {l : List AV}, resOf G S rvs = some l →
    ∃ vs : List Value, (rvs.mapM (fun rv : ResultVar => match rv with | .tmp t => (pure (a.tmps.getD t undef) : Sem Value) | .cell x t => do loadVar t (← asAddr (a.tmps.getD x undef)))).run C.P w = .ok vs w ∧ RepL (Dom S) E (Al C S E w) w l vs ∧ vs.length = rvs.length
  | [], l, h => by
    cases h
    exact ⟨[], by simp, by simp [RepL], rfl⟩
  | .tmp t :: r, l, h => by
    simp only [resOf] at h
    split at h
    · rename_i l' hl'
      cases h
      obtain ⟨vs, h1, h2, h3⟩ := resOf_ok hty hR hl'
      refine ⟨a.tmps.getD t undef :: vs, ?_, by simp only [RepL]; exact ⟨_, vs, rfl, hR.t t, h2⟩, by simp [h3]⟩
      rw [List.mapM_cons]
      simp only [Sem.run_bind, Sem.run_pure, Result.andThen_ok, h1]
    · cases h
  | .cell x t :: r, l, h => by
    simp only [resOf] at h
    split at h
    · rename_i ti id off hti hx
      split at h
      · rename_i cs hcs
        split at h
        · rename_i v l' hv hl'
          cases h
          obtain ⟨vs, h1, h2, h3⟩ := resOf_ok hty hR hl'
          have hx' := hR.t x
          rw [hx] at hx'
          simp only [RepV] at hx'
          obtain ⟨us, et, q1, q2⟩ := hR.h.objs id _ hcs
          obtain ⟨z, r1, r2⟩ := load_cells (P := C.P) (ty := G.ty) (hty _ _ hti) (b := E.β id) (o := 0) hv q2 (w := w) (fun j u hj => by
            simp [World.cell?, q1, hj])
          refine ⟨z :: vs, ?_, by simp only [RepL]; exact ⟨_, vs, rfl, r2, h2⟩, by simp [h3]⟩
          rw [List.mapM_cons]
          rw [Nat.zero_add] at r1
          have ha : (asAddr (a.tmps.getD x undef)).run C.P w = .ok ⟨E.β id, off, none⟩ w := by rw [hx'.2]; simp [asAddr]
          simp only [Sem.run_bind, Sem.run_pure, Result.andThen_ok, ha, r1, h1]
        · cases h
      · cases h
    · cases h
/-- A function, by a walk of its body. -/
theorem fun_wp {P : Program} {gl : Nat → Option Tab} {G : Gl} {f : FuncId} {fn : Func} {c : Code} (hf : P.funcs[f]? = some fn) (hb : fn.body = some c) (hnm : (fn.name == "runtime.NumGoroutine") = false)
    {ps rs : Descr} {F : tupT ps.shs → Option (tupT rs.shs)} (ok : BodyOK P gl G fn c ps rs)
    (hF : ∀ x y, F x = some y → ∀ C : Ctx, C.P = P → C.gl = gl → C.m = ps.os.length → C.N = fn.ntmps → GOK C G → ∀ E a w, Bd (head ps (ofTup ps.shs x)) → RepE C (head ps (ofTup ps.shs x)) E a w →
      c.wp C.P (Post C fun p => funEnd G fn.results.toList ps.os.length rs p = some y) a w) : FnOK P gl f ⟨ps, rs, F⟩ := by
  intro args H l x y hl hx hy
  refine ⟨⟨fn, c, hf, hb, hnm⟩, fun w A0 O0 E0 vs hpre => ?_⟩
  have hy : F x = some y := hy
  unfold projArgs at hl
  simp only at hl
  split at hl
  case h_2 => cases hl
  rename_i hlen1 hlen2
  split at hl
  case h_1 => cases hl
  rename_i ids hids
  split at hl
  case h_2 => cases hl
  rename_i d1 d2 h1 h2
  split at hl
  case h_2 => cases hl
  rename_i hst
  cases hl
  have hlen1 : ps.ss.length = args.length := by simpa using hlen1
  have hlen2 : ps.os.length = H.length := by simpa using hlen2
  have hidl : ids.length = H.length := by rw [projO_len h1]; exact hlen2
  have hvs := repL_length hpre.args
  have hps : ps.ss.length ≤ fn.ntmps := by simpa using ok.hps
  refine calls_of_wp hf hb ?_
  let C : Ctx := FCtx P gl w A0 O0 E0 H.length fn.ntmps
  let a0 : Act := { tmps := vs.toArray ++ Array.replicate (fn.ntmps - vs.toArray.size) undef, defers := [] }
  have hD : ∀ id, Dom (argsState args H) id ↔ id < H.length := by
    intro id
    unfold Dom
    rw [args_obj]
    simp
  have hobj : (argsState args H).obj = (stateOf (zipI 0 H)).obj := by
    funext id
    rw [args_obj, obj_zip]
  have hDD : Dom (argsState args H) = Dom (stateOf (zipI 0 H)) := by funext id; simp [Dom, hobj]
  have hup : ∀ b, A0 b → Al C (argsState args H) E0 w b := fun b hb => .inl hb
  have hext : Ext (Dom (stateOf (zipI 0 H))) E0 A0 w (Dom (argsState args H)) E0 (Al C (argsState args H) E0 w) w := by
    rw [hDD]
    exact up_ext hup
  have start : RepE C (argsState args H) E0 a0 w := by
    refine ⟨?_, rfl, ⟨hpre.a0, hpre.gl, Later.refl _, fun _ _ _ => rfl, ?_, ?_, ?_, ?_⟩, ?_⟩
    · show (vs.toArray ++ Array.replicate (fn.ntmps - vs.toArray.size) undef).size = fn.ntmps
      simp
      omega
    · intro i hi
      exact ⟨(hD i).2 hi, rfl, rfl, rfl⟩
    · intro id o ho hw
      have ho' := ho
      rw [hobj] at ho
      obtain ⟨q1, q2⟩ := hpre.own id o ho hw
      refine ⟨q1, .inr ⟨q2, ?_⟩⟩
      rw [args_obj] at ho'
      cases o with
      | grow en e et xs => exact hpre.en id en e et xs ho'
      | gone => exact hw.elim
      | froz e xs => exact hw.elim
      | cells cs => exact (List.getElem?_eq_some_iff.1 ho').1
      | arr e xs => exact (List.getElem?_eq_some_iff.1 ho').1
    · intro i j o o' hi hwi hj hwj
      rw [hobj] at hi hj
      exact hpre.inj i j o o' hi hwi hj hwj
    · intro id o ho
      have ho' := ho
      rw [hobj] at ho
      exact hext.repO ((by unfold Dom; rw [ho]; simp)) (fun _ => rfl) (hpre.objs id o ho)
    · intro t
      rw [args_get]
      cases ht : args[t]? with
      | none => simp [RepV]
      | some v =>
        obtain ⟨z, hz, hz2⟩ := repL_get hpre.args ht
        have : a0.tmps.getD t undef = z := by
          show (vs.toArray ++ Array.replicate (fn.ntmps - vs.toArray.size) undef).getD t undef = z
          have hlt := (List.getElem?_eq_some_iff.1 hz).1
          rw [Array.getD_eq_getD_getElem?, Array.getElem?_append_left (by simpa using hlt)]
          simp [hz]
        rw [this]
        exact hext.repV hz2
  have hid : ∀ j : Nat, j < ids.length → ids[j]? = some (some j) := fun j hj => by simpa using strict_get hst j hj
  obtain ⟨E1, _, r1, r2⟩ := head_ok (C := C) start (D := ps) (ids := ids) h1 h2 (fun id i j hi hj => by
      replace hi := live_sub hi
      replace hj := live_sub hj
      have hi' := (List.getElem?_eq_some_iff.1 hi).1
      have hj' := (List.getElem?_eq_some_iff.1 hj).1
      rw [hid i hi'] at hi
      rw [hid j hj'] at hj
      cases hi; cases hj; rfl) (fun i hi => hid i (by rw [hidl]; exact hi)) (fun id hid => by cases hid)
  have hG : GOK C G := ⟨by rw [ok.hm]; exact hlen2, ok.hn, ok.hgl, ok.hty, ok.hcalls⟩
  rw [← ofTup_toTup hx] at r1 r2
  have main := hF x y hy C rfl rfl hlen2.symm rfl hG E1 a0 w r2 r1
  refine wp_mono main ?_
  have fin : ∀ (e : AE), (∀ id, e ≠ .exit id) → ∀ a w', In C (fun p => funEnd G fn.results.toList ps.os.length rs p = some y) e a w' →
      a.defers = [] ∧ ∃ v, (results fn a.tmps).run P w' = .ok v w' ∧ FPost (FCtx P gl w A0 O0 E0 H.length 0) (resAV (head rs (ofTup rs.shs y)).t) (head rs (ofTup rs.shs y)).h (.returned v) w' := by
    intro e hne a w' hin
    obtain ⟨S, E, q1, q2, q3, q4⟩ := hin
    refine ⟨q4.d, ?_⟩
    unfold funEnd at q1
    split at q1
    · rename_i id hid; exact absurd hid (hne id)
    · split at q1
      · rename_i rl hrl
        split at q1
        case h_2 => cases q1
        rename_i hlr
        have hlr : rl.length = rs.ss.length := by simpa using hlr
        obtain ⟨us, u1, u2, u3⟩ := resOf_ok (a := a) ok.hty q4 hrl
        have hus := repL_length u2
        -- the results, as a state of their own
        let C' : Ctx := FCtx P gl w A0 O0 E0 H.length us.length
        have hS' : RepE C' ⟨zipI 0 rl, S.h, S.nx, []⟩ E ⟨us.toArray, []⟩ w' := by
          refine ⟨by simp [C', FCtx], rfl, ⟨q4.h.a0, q4.h.gl, q4.h.lat, q4.h.keep, q4.h.pin, q4.h.fresh, q4.h.inj, q4.h.objs⟩, ?_⟩
          intro t
          show RepV (Dom S) E (Al C S E w') w' (match look (zipI 0 rl) t with | some v => v | none => .unk) _
          rw [look_zip]
          simp only [Nat.zero_le, if_true, Nat.sub_zero]
          cases ht : rl[t]? with
          | none => simp [RepV]
          | some v =>
            obtain ⟨z, hz, hz2⟩ := repL_get u2 ht
            have : us.toArray.getD t undef = z := by simp [Array.getD_eq_getD_getElem?, hz]
            rw [this]
            exact hz2
        obtain ⟨E2, s1, _, _⟩ := projT_ok (C := C') (show projT rs H.length _ = some y by rw [← hlen2]; exact q1) hS'
        have hord := takeS_ord (takeO rs.os 0 (ofTup rs.shs y)).2 ok.hrs
        have hL : RepL (Dom (head rs (ofTup rs.shs y))) E2 (Al C' (head rs (ofTup rs.shs y)) E2 w') w' ((head rs (ofTup rs.shs y)).t.map (·.2)) us := by
          refine repL_of ?_ fun j v hj => ?_
          · rw [List.length_map]
            exact hord.1.trans (by omega)
          · rw [List.getElem?_map] at hj
            cases hp : (head rs (ofTup rs.shs y)).t[j]? with
            | none => rw [hp] at hj; cases hj
            | some p =>
              rw [hp] at hj
              cases hj
              have := s1.t j
              have hg : (head rs (ofTup rs.shs y)).get j = p.2 := by
                have := hord.2 j p hp
                rw [Nat.zero_add] at this
                show (match look (takeS rs.ss (takeO rs.os 0 (ofTup rs.shs y)).2) j with | some v => v | none => .unk) = _
                rw [this]
              rw [hg] at this
              have hgd : (us.toArray).getD j undef = us.getD j undef := by simp [Array.getD_eq_getD_getElem?]
              rw [hgd] at this
              exact this
        have hmap : (fn.results.mapM (fun rv : ResultVar => match rv with | .tmp t => (pure (a.tmps.getD t undef) : Sem Value) | .cell x t => do loadVar t (← asAddr (a.tmps.getD x undef)))).run P w' = .ok us.toArray w' := by
          rw [Array.mapM_eq_mapM_toList, map_eq_pure_bind, Sem.run_bind]
          have u1' := u1
          change Sem.run P _ w' = _ at u1'
          rw [u1']
          simp
        refine ⟨if h : us.toArray.size = 1 then us.toArray[0] else .tuple us.toArray, ?_, _, E2, rfl, ⟨s1.h.a0, s1.h.gl, s1.h.lat, s1.h.keep, s1.h.pin, s1.h.fresh, s1.h.inj, s1.h.objs⟩, ?_⟩
        · unfold results
          rw [Sem.run_bind]
          refine (congrArg (fun r => Result.andThen r _) (show Sem.run P _ w' = _ from hmap)).trans ?_
          simp only [Result.andThen_ok, Sem.run_pure]
        · show RepV (Dom (head rs (ofTup rs.shs y))) E2 (Al C' (head rs (ofTup rs.shs y)) E2 w') w' (resAV (head rs (ofTup rs.shs y)).t) _
          generalize (head rs (ofTup rs.shs y)).t = tl at hL
          unfold resAV
          split
          · rename_i p
            simp only [List.map_cons, List.map_nil, RepL] at hL
            obtain ⟨z, t, rfl, h3, rfl⟩ := hL
            simpa using h3
          · rename_i hne1
            have : us.toArray.size ≠ 1 := by
              intro hq
              have := repL_length hL
              simp at hq this
              rw [hq] at this
              obtain ⟨p, hp⟩ := List.length_eq_one_iff.1 this.symm
              exact hne1 p hp
            rw [dif_neg this]
            simp only [RepV]
            exact ⟨us, rfl, hL⟩
      · cases q1
  intro e a w' q
  cases e with
  | normal => exact fin .norm (fun _ h => by cases h) a w' q
  | ret => exact fin .ret (fun _ h => by cases h) a w' q
  | exit id =>
    obtain ⟨S, E, q1, _⟩ := q
    cases q1
  | goto l => exact q
  | panic l => exact q.elim
  | outgrown => exact q.elim
theorem fun_ok {P : Program} {gl : Nat → Option Tab} {G : Gl} {f : FuncId} {fn : Func} {c : Code} (hmix : P.follows .mixedOrders = true) (hf : P.funcs[f]? = some fn) (hb : fn.body = some c) (hnm : (fn.name == "runtime.NumGoroutine") = false)
    {ps rs : Descr} {F : tupT ps.shs → Option (tupT rs.shs)} (ok : BodyOK P gl G fn c ps rs)
    (hF : ∀ x, F x = (ev G c (head ps (ofTup ps.shs x))).den (funEnd G fn.results.toList ps.os.length rs)) : FnOK P gl f ⟨ps, rs, F⟩ :=
  fun_wp hf hb hnm ok fun x y hy C h1 h2 h3 h4 hG E a w hB hR => by
    rw [hF] at hy
    exact ev_sound hG (by rw [h1]; exact hmix) c (ok.hloops C h1 h2 h3 h4) (den_sat hy) (fun p hp => by cases hp) hB hR
/-! ### slices.Clone: its code asks whether a slice is nil, which the lists do not tell -/
def both {R : Type} : Option R → Option R → Option R
  | some a, some _ => some a
  | _, _ => none
def nilOnly {T : Type} : Option (List T) → Option (List T)
  | some [] => some []
  | _ => none
theorem nilOnly_some {T : Type} {x : Option (List T)} {y : List T} (h : nilOnly x = some y) : x = some [] ∧ y = [] := by
  unfold nilOnly at h
  split at h
  · cases h; exact ⟨rfl, rfl⟩
  · cases h
theorem both_some {R : Type} {x y : Option R} {z : R} (h : both x y = some z) : x = some z ∧ ∃ u, y = some u := by
  unfold both at h
  split at h
  · cases h; exact ⟨rfl, _, rfl⟩
  · cases h
noncomputable def ambEnd (G : Gl) (t : Nat) (A B : Code) {T : Type} (L : AE × AS → Option (List T)) (q : AE × AS) : Option (List T) :=
  match q.1, q.2.get t with
  | .norm, .anyB => both (nilOnly ((ev G (.seq A B) q.2).den L)) (nilOnly ((ev G B q.2).den L))
  | _, _ => none
noncomputable def ambMid (G : Gl) (t : Nat) (r1 A B : Code) {T : Type} (L : AE × AS → Option (List T)) (p : AE × AS) : Option (List T) :=
  match p.1 with
  | .norm => (ev G r1 p.2).den (ambEnd G t A B L)
  | _ => none
def ambR0 : Code → Code
  | .seq r0 _ => r0
  | c => c
def ambR1 : Code → Code
  | .seq _ (.seq (.seq r1 _) _) => r1
  | c => c
def ambT : Code → Nat
  | .seq _ (.seq (.seq _ (.cond (.tmp t) _ _)) _) => t
  | _ => 0
def ambA : Code → Code
  | .seq _ (.seq (.seq _ (.cond _ A _)) _) => A
  | c => c
def ambB : Code → Code
  | .seq _ (.seq _ B) => B
  | c => c
theorem wp_amb {C : Ctx} {G : Gl} (hG : GOK C G) (hmix : C.P.follows .mixedOrders = true) {r0 r1 A B : Code} {t : Nat} {T : Type} {L : AE × AS → Option (List T)} {S : AS} {E : Env} {a : Act} {w : World}
    (hl0 : loops r0 = []) (hl1 : loops r1 = []) (hlA : loops A = []) (hlB : loops B = []) {y : List T} (h : (ev G r0 S).den (ambMid G t r1 A B L) = some y) (hd : DecOK S) (hb : Bd S) (hR : RepE C S E a w) :
    (Code.seq r0 (.seq (.seq r1 (.cond (.tmp t) A .skip)) B)).wp C.P (Post C fun p => L p = some []) a w := by
  have no : ∀ {c : Code}, loops c = [] → ∀ b, b ∈ loops c → LoopOK C G b := fun h b hb => by rw [h] at hb; cases hb
  refine wp_seq (wp_mono (ev_sound hG hmix r0 (no hl0) (den_sat h) hd hb hR) ?_)
  intro e a1 w1 q
  cases e with
  | normal =>
    obtain ⟨S1, E1, q1, q2, q3, q4⟩ := q
    refine wp_seq (wp_seq (wp_mono (ev_sound hG hmix r1 (no hl1) (den_sat (show (ev G r1 S1).den (ambEnd G t A B L) = some y from q1)) q2 q3 q4) ?_))
    intro e a2 w2 r
    cases e with
    | normal =>
      obtain ⟨S2, E2, r1', r2, r3, r4⟩ := r
      simp only [ambEnd] at r1'
      split at r1'
      · rename_i hq1 hq2
        obtain ⟨b1, u, b2⟩ := both_some r1'
        have c1 := (nilOnly_some b1).1
        have c2 := (nilOnly_some b2).1
        have ht := r4.t t
        rw [hq2] at ht
        simp only [RepV] at ht
        obtain ⟨b, hbv⟩ := ht
        have hbv : a2.eval (.tmp t) = .bool b := hbv
        refine wp_cond hbv ?_
        cases b with
        | true =>
          have s1 := sat_bnd (den_sat c1)
          refine wp_mono (ev_sound hG hmix A (no hlA) s1 r2 r3 r4) ?_
          intro e a3 w3 u
          cases e with
          | normal =>
            obtain ⟨S3, E3, u1, u2, u3, u4⟩ := u
            exact ev_sound hG hmix B (no hlB) u1 u2 u3 u4
          | exit id => obtain ⟨S3, E3, u1, u2⟩ := u; exact ⟨S3, E3, u1, u2⟩
          | ret => obtain ⟨S3, E3, u1, u2⟩ := u; exact ⟨S3, E3, u1, u2⟩
          | goto l => exact u
          | panic l => exact u
          | outgrown => exact u
        | false => exact wp_skip (ev_sound hG hmix B (no hlB) (den_sat c2) r2 r3 r4)
      · cases r1'
    | exit id => obtain ⟨S2, E2, r1', _⟩ := r; cases r1'
    | ret => obtain ⟨S2, E2, r1', _⟩ := r; cases r1'
    | goto l => exact r
    | panic l => exact r
    | outgrown => exact r
  | exit id => obtain ⟨S1, E1, q1, _⟩ := q; cases q1
  | ret => obtain ⟨S1, E1, q1, _⟩ := q; cases q1
  | goto l => exact q
  | panic l => exact q
  | outgrown => exact q
end Go.Rx

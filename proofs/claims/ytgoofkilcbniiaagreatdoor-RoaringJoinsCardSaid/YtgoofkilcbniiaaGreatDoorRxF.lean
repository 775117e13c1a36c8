/- RxF: texts of one kind, laid side by side. -/
import Derived.Test.YtgoofkilcbniiaaGreatDoorRxE
import Derived.Scope
import Derived.Laws.Sem
import Derived.RowKit3
import Derived.ProofKit
import Derived.Deep.Slices
import Derived.OpenShut
/-! Rx, part 21: a code's run comes to what its evaluation says; loops, by their fuel. -/
namespace Go.Rx
set_option linter.unusedVariables false
set_option linter.unusedSimpArgs false
def In (C : Ctx) (R : AE × AS → Prop) (e : AE) (a : Act) (w : World) : Prop := ∃ S E, R (e, S) ∧ DecOK S ∧ Bd S ∧ RepE C S E a w
def Post (C : Ctx) (R : AE × AS → Prop) : Exit → Act → World → Prop
  | .normal, a, w => In C R .norm a w
  | .exit id, a, w => In C R (.exit id) a w
  | .ret, a, w => In C R .ret a w
  | _, _, _ => False
theorem In.mono {C : Ctx} {R R' : AE × AS → Prop} {e : AE} {a : Act} {w : World} (h : In C R e a w) (hR : ∀ S, R (e, S) → R' (e, S)) : In C R' e a w := by
  obtain ⟨S, E, h1, h2⟩ := h
  exact ⟨S, E, hR S h1, h2⟩
theorem Post.mono {C : Ctx} {R R' : AE × AS → Prop} (hR : ∀ p, R p → R' p) : ∀ e a w, Post C R e a w → Post C R' e a w
  | .normal, _, _, h => In.mono h fun _ => hR _
  | .exit _, _, _, h => In.mono h fun _ => hR _
  | .ret, _, _, h => In.mono h fun _ => hR _
  | .goto _, _, _, h => h
  | .panic _, _, _, h => h
  | .outgrown, _, _, h => h
def LoopOK (C : Ctx) (G : Gl) (b : Code) : Prop := ∀ S ls y E a w, G.lp (keyOf b) S = some ls → ls.o = some y → DecOK S → Bd S → RepE C S E a w → ∀ R, (ls.tr y).sat R → (Code.loop b).wp C.P (Post C R) a w
theorem bd_dec {S : AS} {dec : List (Nat × Bool)} (h : Bd S) : Bd { S with dec := dec } := h
section
variable {C : Ctx} {G : Gl}
theorem ev_sound (hG : GOK C G) (hmix : C.P.follows .mixedOrders = true) : ∀ (c : Code) {S : AS} {E : Env} {a : Act} {w : World} {R : AE × AS → Prop}, (∀ b, b ∈ loops c → LoopOK C G b) → (ev G c S).sat R → DecOK S → Bd S → RepE C S E a w → c.wp C.P (Post C R) a w := by
  intro c
  induction c with
  | skip => intro S E a w R _ h hd hb hR; exact wp_skip ⟨S, E, h, hd, hb, hR⟩
  | label l => intro S E a w R _ h hd hb hR; exact wp_label ⟨S, E, h, hd, hb, hR⟩
  | ret => intro S E a w R _ h hd hb hR; exact wp_ret ⟨S, E, h, hd, hb, hR⟩
  | exit id => intro S E a w R _ h hd hb hR; exact wp_exit ⟨S, E, h, hd, hb, hR⟩
  | region id ops draw =>
    intro S E a w R _ h hd hb hR
    refine region_ok hG hmix hd hb hR (sat_bnd h) (fun S' E' a' w' q h1 h2 h3 => ⟨S', E', q, h1, h2, h3⟩)
  | seq x y ihx ihy =>
    intro S E a w R hl h hd hb hR
    have h1 := ihx (fun b hb => hl b (by simp [loops, hb])) (sat_bnd h) hd hb hR
    refine wp_seq (wp_mono h1 ?_)
    intro e a' w' q
    cases e with
    | normal =>
      obtain ⟨S', E', q1, q2, q3, q4⟩ := q
      exact ihy (fun b hb => hl b (by simp [loops, hb])) q1 q2 q3 q4
    | exit id => exact In.mono q fun _ h => h
    | ret => exact In.mono q fun _ h => h
    | goto l => exact q
    | panic l => exact q
    | outgrown => exact q
  | cond x t f iht ihf =>
    intro S E a w R hl h hd hb hR
    have hx := hR.ev x
    rcases withBoolC_sat hd h with ⟨b, dec, h1, h2, h3⟩ | ⟨h2, h1, h1'⟩
    · rw [h2] at hx
      simp only [RepV] at hx
      have hd' : DecOK { S with dec := dec ++ S.dec } := hd.dec fun p hp => (h3 p hp).1
      have hR' : RepE C { S with dec := dec ++ S.dec } E a w := hR.eqv (dec_eqv S _).symm
      refine wp_cond hx ?_
      cases b with
      | true => exact iht (fun b hb => hl b (by simp [loops, hb])) h1 hd' hb hR'
      | false => exact ihf (fun b hb => hl b (by simp [loops, hb])) h1 hd' hb hR'
    · rw [h2] at hx
      simp only [RepV] at hx
      obtain ⟨b, hx⟩ := hx
      refine wp_cond hx ?_
      cases b with
      | true => exact iht (fun b hb => hl b (by simp [loops, hb])) h1 hd hb hR
      | false => exact ihf (fun b hb => hl b (by simp [loops, hb])) h1' hd hb hR
  | block id b ih =>
    intro S E a w R hl h hd hb hR
    have h1 := ih (fun b hb => hl b (by simpa [loops] using hb)) (sat_bnd h) hd hb hR
    refine wp_block (wp_mono h1 ?_)
    intro e a' w' q
    cases e with
    | normal => exact In.mono q fun _ h => h
    | exit id' =>
      obtain ⟨S', E', q1, q2⟩ := q
      show if id' = id then _ else _
      simp only at q1
      by_cases hid : id' = id
      · rw [if_pos hid]
        have : Nat.beq id' id = true := by simp [hid]
        rw [this] at q1
        exact ⟨S', E', q1, q2⟩
      · rw [if_neg hid]
        have : Nat.beq id' id = false := by rw [Bool.eq_false_iff]; intro q; exact hid (by simpa using q)
        rw [this] at q1
        exact ⟨S', E', q1, q2⟩
    | ret => exact In.mono q fun _ h => h
    | goto l => exact q
    | panic l => exact q
    | outgrown => exact q
  | loop b ih =>
    intro S E a w R hl h hd hb hR
    simp only [ev] at h
    split at h
    · rename_i ls hls
      obtain ⟨y, h1, h2⟩ := h
      exact hl b (by simp [loops]) S ls y E a w hls h1 hd hb hR R h2
    · cases h
  | scope b ih =>
    intro S E a w R hl h hd hb hR
    refine wp_scope_straight (wp_mono (ih (fun b hb => hl b (by simpa [loops] using hb)) h hd hb hR) ?_)
    intro e a' w' q
    cases e <;> exact q
  | rangeFunc f ps x y _ _ => intro S E a w R _ h; exact h.elim
  | goto l => intro S E a w R _ h; exact h.elim
  | refuse why => intro S E a w R _ h; exact h.elim
theorem den_sat {α R : Type} {L : α → Option R} {y : R} : ∀ {t : Tree α}, t.den L = some y → t.sat (fun a => L a = some y)
  | .leaf a, h => h
  | .br b t e, h => by
    cases b with
    | true => exact .inl ⟨rfl, den_sat h⟩
    | false => exact .inr ⟨rfl, den_sat h⟩
  | .chk b t, h => by
    cases b with
    | true => exact ⟨rfl, den_sat h⟩
    | false => cases h
  | .bind ρ o k, h => by
    cases o with
    | none => cases h
    | some r => exact ⟨r, rfl, den_sat h⟩
  | .alt β γ z k k', h => by
    cases z with
    | inl r => exact .inl ⟨r, rfl, den_sat h⟩
    | inr r => exact .inr ⟨r, rfl, den_sat h⟩
  | .amb a b, h => by
    obtain ⟨h1, h2⟩ := bothEq_some h
    exact ⟨den_sat h1, den_sat h2⟩
  | .fail, h => by cases h
theorem exTr_sat {R : AE × AS → Prop} : ∀ {l : List (AE × Descr)} {y : exT l}, (exTr l y).sat R → R (exOut l y)
  | [], y, _ => nomatch y
  | [p], y, h => h
  | p :: q :: r, y, h => by
    rcases h with ⟨z, h1, h2⟩ | ⟨z, h1, h2⟩
    · subst h1; exact h2
    · subst h1; exact exTr_sat (l := q :: r) h2
theorem projT_ok {D : Descr} {S : AS} {E : Env} {a : Act} {w : World} {x : tupT D.shs} (h : projT D C.m S = some x) (hR : RepE C S E a w) :
    ∃ E', RepE C (head D (ofTup D.shs x)) E' a w ∧ DecOK (head D (ofTup D.shs x)) ∧ Bd (head D (ofTup D.shs x)) := by
  unfold projT at h
  split at h
  · rename_i l hl
    rw [ofTup_toTup h]
    unfold proj at hl
    split at hl
    · cases hl
    · rename_i ids hids
      split at hl
      · rename_i d1 v1 d2 v2 h1 h2
        split at hl
        · rename_i q1 q2 q3
          cases hl
          obtain ⟨E', _, r1, r2⟩ := head_ok hR h1 h2 (fun id i j => nodupO_inj q1 i j) (pinned_get q2) (fun id hid => (apartO_get q3 id hid).1)
          exact ⟨E', r1, fun p hp => (by cases hp), r2⟩
        · cases hl
      · cases hl
  · cases h
theorem beqE_eq {e e' : AE} (h : beqE e e' = true) : e = e' := by
  cases e <;> cases e' <;> simp [beqE] at h <;> simp [h]
theorem exProj_ok {S : AS} {E : Env} {a : Act} {w : World} {e : AE} (hR : RepE C S E a w) : ∀ {l : List (AE × Descr)} {y : exT l}, exProj C.m l e S = some y →
    ∃ S' E', exOut l y = (e, S') ∧ RepE C S' E' a w ∧ DecOK S' ∧ Bd S'
  | [], y, h => nomatch y
  | [p], y, h => by
    simp only [exProj] at h
    split at h
    · rename_i hb
      obtain ⟨E', r⟩ := projT_ok h hR
      exact ⟨_, E', by simp only [exOut, beqE_eq hb], r⟩
    · cases h
  | p :: q :: r, y, h => by
    simp only [exProj] at h
    split at h
    · rename_i hb
      split at h
      · rename_i z hz
        cases h
        obtain ⟨E', r⟩ := projT_ok hz hR
        exact ⟨_, E', by simp only [exOut, beqE_eq hb], r⟩
      · cases h
    · split at h
      · rename_i z hz
        cases h
        obtain ⟨S', E', r1, r2⟩ := exProj_ok hR hz
        exact ⟨S', E', by simpa only [exOut] using r1, r2⟩
      · cases h
theorem least {p : Nat → Prop} (h : ∃ k, p k) : ∃ k, p k ∧ ∀ j, p j → k ≤ j := by
  obtain ⟨k, hk⟩ := h
  induction k using Nat.strongRecOn with
  | _ k ih =>
    by_cases q : ∃ j, j < k ∧ p j
    · obtain ⟨j, h1, h2⟩ := q
      exact ih j h1 h2
    · exact ⟨k, hk, fun j hj => Nat.le_of_not_lt fun hlt => q ⟨j, hlt, hj⟩⟩
theorem wp_loop_fuel {P : Program} {Q : Exit → Act → World → Prop} {b : Code} (J : Nat → Act → World → Prop) (h0 : ∀ a w, ¬ J 0 a w)
    (round : ∀ k a w, J (k + 1) a w → b.wp P (Exit.then (J k) Q) a w) {k : Nat} {a : Act} {w : World} (h : J k a w) : (Code.loop b).wp P Q a w := by
  classical
  let μ : Act → World → Nat := fun a w => if h : ∃ k, J k a w then (least h).choose else 0
  have hμ : ∀ a w, (∃ k, J k a w) → J (μ a w) a w ∧ ∀ j, J j a w → μ a w ≤ j := by
    intro a w h
    simp only [μ, dif_pos h]
    exact (least h).choose_spec
  refine wp_loop (fun a w => ∃ k, J k a w) μ ⟨k, h⟩ (fun a w hI => ?_)
  obtain ⟨h1, h2⟩ := hμ a w hI
  cases hk : μ a w with
  | zero => rw [hk] at h1; exact absurd h1 (h0 a w)
  | succ n =>
    rw [hk] at h1
    refine wp_mono (round n a w h1) ?_
    intro e a' w' q
    cases e with
    | normal =>
      refine ⟨⟨n, q⟩, ?_⟩
      have := (hμ a' w' ⟨n, q⟩).2 n q
      omega
    | exit id => exact q
    | ret => exact q
    | goto l => exact q
    | panic l => exact q
    | outgrown => exact q
theorem loop_ok (hmix : C.P.follows .mixedOrders = true) {b : Code} {hd : Descr} {ex : List (AE × Descr)} {F : Nat → tupT hd.shs → Option (exT ex)} {Gk : Nat → Gl} {K : Nat} (hG : ∀ k, k < K → GOK C (Gk k))
    (hin : ∀ k, k < K → ∀ b', b' ∈ loops b → LoopOK C (Gk k) b') (hF0 : ∀ x, F 0 x = none)
    (hF : ∀ k x, F (k + 1) x = (ev (Gk k) b (head hd (ofTup hd.shs x))).den (roundEnd C.m ⟨hd, ex, F k⟩)) (k : Nat) (hkK : k ≤ K) {S : AS} {E : Env} {a : Act} {w : World} {x : tupT hd.shs} {y : exT ex}
    (hx : projT hd C.m S = some x) (hy : F k x = some y) (hR : RepE C S E a w) : (Code.loop b).wp C.P (Post C (· = exOut ex y)) a w := by
  let J : Nat → Act → World → Prop := fun k a w => k ≤ K ∧ ∃ x E, F k x = some y ∧ RepE C (head hd (ofTup hd.shs x)) E a w ∧ DecOK (head hd (ofTup hd.shs x)) ∧ Bd (head hd (ofTup hd.shs x))
  have start : J k a w := by
    obtain ⟨E', r⟩ := projT_ok hx hR
    exact ⟨hkK, x, E', hy, r⟩
  refine wp_loop_fuel J (fun a w ⟨_, x, E, h, _⟩ => by rw [hF0] at h; cases h) (fun k a w h => ?_) start
  obtain ⟨hk, x, E, h1, h2, h3, h4⟩ := h
  have hk : k < K := hk
  rw [hF] at h1
  refine wp_mono (ev_sound (hG k hk) hmix b (hin k hk) (den_sat h1) h3 h4 h2) ?_
  intro e a' w' q
  cases e with
  | normal =>
    obtain ⟨S', E', q1, q2, q3, q4⟩ := q
    simp only [roundEnd] at q1
    cases hp : projT hd C.m S' with
    | none => rw [hp] at q1; cases q1
    | some x' =>
      rw [hp] at q1
      obtain ⟨E'', r⟩ := projT_ok hp q4
      exact ⟨Nat.le_of_lt hk, x', E'', q1, r⟩
  | exit id =>
    obtain ⟨S', E', q1, q2, q3, q4⟩ := q
    obtain ⟨S2, E2, r1, r2, r3, r4⟩ := exProj_ok q4 (show exProj C.m ex (.exit id) S' = some y from q1)
    exact ⟨S2, E2, r1.symm, r3, r4, r2⟩
  | ret =>
    obtain ⟨S', E', q1, q2, q3, q4⟩ := q
    obtain ⟨S2, E2, r1, r2, r3, r4⟩ := exProj_ok q4 (show exProj C.m ex .ret S' = some y from q1)
    exact ⟨S2, E2, r1.symm, r3, r4, r2⟩
  | goto l => exact q
  | panic l => exact q
  | outgrown => exact q
/-- A loop's entry in the table. -/
theorem LoopOK.of (hmix : C.P.follows .mixedOrders = true) {b : Code} {hd : Descr} {ex : List (AE × Descr)} {F : Nat → tupT hd.shs → Option (exT ex)} {Gk : Nat → Gl} (k : Nat) (hG : ∀ j, j < k → GOK C (Gk j))
    (hin : ∀ j, j < k → ∀ b', b' ∈ loops b → LoopOK C (Gk j) b') (hF0 : ∀ x, F 0 x = none)
    (hF : ∀ k x, F (k + 1) x = (ev (Gk k) b (head hd (ofTup hd.shs x))).den (roundEnd C.m ⟨hd, ex, F k⟩)) (hlp : ∀ S, (G.lp (keyOf b) S) = LSig.ls C.m ⟨hd, ex, F k⟩ S) : LoopOK C G b := by
  intro S ls y E a w h1 h2 h3 h4 h5 R hR
  rw [hlp] at h1
  unfold LSig.ls at h1
  split at h1
  · cases h1
  · rename_i x hx
    cases h1
    exact wp_mono (loop_ok hmix hG hin hF0 hF k (Nat.le_refl _) hx h2 h5) (Post.mono fun p hp => by rw [hp]; exact exTr_sat hR)
end
end Go.Rx
/-! Rx, part 22: a function, from what its body evaluates to. -/
namespace Go.Rx
set_option linter.unusedVariables false
set_option linter.unusedSimpArgs false
theorem strict_get : ∀ {ids : List (Option Nat)} {n : Nat}, strictIds ids n = true → ∀ j : Nat, j < ids.length → ids[j]? = some (some (n + j))
  | [], _, _, j, hj => by simp at hj
  | none :: r, _, h, _, _ => by cases h
  | some a :: r, n, h, j, hj => by
    simp only [strictIds] at h
    split at h
    · rename_i hb
      have hb : a = n := by simpa using hb
      subst hb
      cases j with
      | zero => rfl
      | succ j =>
        have := strict_get (n := a + 1) h j (by simpa using hj)
        rw [List.getElem?_cons_succ, this]
        congr 2
        omega
    · cases h
theorem projO_len {m : Nat} {S : AS} {ids : List (Option Nat)} : ∀ {os : List (Loc × OS)} {is : List (Option Nat)} {r : List Dat × List Nat}, projO m S ids os is = some r → is.length = os.length
  | [], [], _, _ => rfl
  | [], _ :: _, _, h => by cases h
  | _ :: _, [], _, h => by cases h
  | o :: os, i :: is, r, h => by
    simp only [projO] at h
    split at h
    · rename_i h2
      simp [projO_len h2]
    · cases h
theorem args_get (args : List AV) (H : List Obj) (t : Nat) : (argsState args H).get t = match args[t]? with | some v => v | none => .unk := by
  show (match look (zipI 0 args) t with | some v => v | none => .unk) = _
  rw [look_zip]
  simp
theorem args_obj (args : List AV) (H : List Obj) (id : Nat) : (argsState args H).obj id = H[id]? := by
  show look (zipI 0 H) id = _
  rw [look_zip]
  simp
def ssOrd : List (Nat × SD) → Nat → Bool
  | [], _ => true
  | s :: r, n => match Nat.beq s.1 n with | true => ssOrd r (n + 1) | false => false
theorem takeS_ord : ∀ {ss : List (Nat × SD)} {n : Nat} (l : List Dat), ssOrd ss n = true → (takeS ss l).length = ss.length ∧ ∀ j p, (takeS ss l)[j]? = some p → look (takeS ss l) (n + j) = some p.2
  | [], n, l, _ => ⟨rfl, fun j p h => by cases h⟩
  | s :: r, n, l, h => by
    simp only [ssOrd] at h
    split at h
    · rename_i hb
      have hb : s.1 = n := by simpa using hb
      obtain ⟨i1, i2⟩ := takeS_ord (takeSD s.2 l).2 h
      refine ⟨by simp [takeS, i1], fun j p hj => ?_⟩
      simp only [takeS] at hj ⊢
      rw [look_cons]
      cases j with
      | zero => cases hj; simp [hb]
      | succ j =>
        rw [if_neg (by omega)]
        have := i2 j p (by simpa using hj)
        rwa [show n + (j + 1) = n + 1 + j by omega]
    · cases h
theorem repL_of {D : Nat → Prop} {E : Env} {A : Nat → Prop} {w : World} : ∀ {l : List AV} {vs : List Value}, l.length = vs.length → (∀ j v, l[j]? = some v → RepV D E A w v (vs.getD j undef)) → RepL D E A w l vs
  | [], [], _, _ => by simp [RepL]
  | [], _ :: _, h, _ => by simp at h
  | _ :: _, [], h, _ => by simp at h
  | v :: l, x :: vs, h, hv => by
    simp only [RepL]
    exact ⟨x, vs, rfl, by simpa using hv 0 v rfl, repL_of (by simpa using h) fun j u hj => by simpa using hv (j + 1) u (by simpa using hj)⟩
/-- A function's fact, as the table holds it. -/
def FnOK (P : Program) (gl : Nat → Option Tab) (f : FuncId) (s : Sig) : Prop :=
  ∀ args H l x y, projArgs s.ps args H = some l → toTup s.ps.shs l = some x → s.F x = some y → FSpec P gl f args H (resAV (head s.rs (ofTup s.rs.shs y)).t) (head s.rs (ofTup s.rs.shs y)).h
theorem callsOK_tab {P : Program} {gl : Nat → Option Tab} {G : Gl} : ∀ {tab : List (FuncId × Sig)}, (∀ p, p ∈ tab → FnOK P gl p.1 p.2) → ∀ f as H cs r, fnTab tab f as H = some cs → cs.o = some r → FSpec P gl f as H (cs.out r).1 (cs.out r).2
  | [], _, f, as, H, cs, r, h, _ => by cases h
  | p :: t, hp, f, as, H, cs, r, h, hr => by
    simp only [fnTab] at h
    have rest := callsOK_tab (G := G) (tab := t) (fun q hq => hp q (by simp [hq])) f as H cs r
    split at h
    · rename_i hf
      have hf : p.1 = f := by simpa using hf
      subst hf
      split at h
      · rename_i c hc
        cases h
        unfold Sig.cs at hc
        split at hc
        · cases hc
        · rename_i l hl
          split at hc
          · cases hc
          · rename_i x hx
            cases hc
            exact hp p (by simp) as H l x r hl hx hr
      · exact rest h hr
    · exact rest h hr
/-- All that is asked, beside the evaluation. -/
structure BodyOK (P : Program) (gl : Nat → Option Tab) (G : Gl) (fn : Func) (c : Code) (ps rs : Descr) : Prop where
  hm : G.m = ps.os.length
  hn : G.n = fn.ntmps
  hgl : G.gl = gl
  hty : TyOK P G
  hcalls : CallsOK P gl G
  hps : Nat.ble ps.ss.length fn.ntmps = true
  hrs : ssOrd rs.ss 0 = true
  hloops : ∀ C : Ctx, C.P = P → C.gl = gl → C.m = ps.os.length → C.N = fn.ntmps → ∀ b, b ∈ loops c → LoopOK C G b
theorem resOf_ok {C : Ctx} {S : AS} {E : Env} {a : Act} {w : World} {G : Gl} (hty : TyOK C.P G) (hR : RepE C S E a w) : ∀ {rvs : List ResultVar} {l : List AV}, resOf G S rvs = some l →
    ∃ vs : List Value, (rvs.mapM (fun rv : ResultVar => match rv with | .tmp t => (pure (a.tmps.getD t undef) : Sem Value) | .cell x t => do loadVar t (← asAddr (a.tmps.getD x undef)))).run C.P w = .ok vs w ∧ RepL (Dom S) E (Al C S E w) w l vs ∧ vs.length = rvs.length
  | [], l, h => by
    cases h
    exact ⟨[], by simp, by simp [RepL], rfl⟩
  | .tmp t :: r, l, h => by
    simp only [resOf] at h
    split at h
    · rename_i l' hl'
      cases h
      obtain ⟨vs, h1, h2, h3⟩ := resOf_ok hty hR hl'
      refine ⟨a.tmps.getD t undef :: vs, ?_, by simp only [RepL]; exact ⟨_, vs, rfl, hR.t t, h2⟩, by simp [h3]⟩
      rw [List.mapM_cons]
      simp only [Sem.run_bind, Sem.run_pure, Result.andThen_ok, h1]
    · cases h
  | .cell x t :: r, l, h => by
    simp only [resOf] at h
    split at h
    · rename_i ti id off hti hx
      split at h
      · rename_i cs hcs
        split at h
        · rename_i v l' hv hl'
          cases h
          obtain ⟨vs, h1, h2, h3⟩ := resOf_ok hty hR hl'
          have hx' := hR.t x
          rw [hx] at hx'
          simp only [RepV] at hx'
          obtain ⟨us, et, q1, q2⟩ := hR.h.objs id _ hcs
          obtain ⟨z, r1, r2⟩ := load_cells (P := C.P) (ty := G.ty) (hty _ _ hti) (b := E.β id) (o := 0) hv q2 (w := w) (fun j u hj => by
            simp [World.cell?, q1, hj])
          refine ⟨z :: vs, ?_, by simp only [RepL]; exact ⟨_, vs, rfl, r2, h2⟩, by simp [h3]⟩
          rw [List.mapM_cons]
          rw [Nat.zero_add] at r1
          have ha : (asAddr (a.tmps.getD x undef)).run C.P w = .ok ⟨E.β id, off, none⟩ w := by rw [hx'.2]; simp [asAddr]
          simp only [Sem.run_bind, Sem.run_pure, Result.andThen_ok, ha, r1, h1]
        · cases h
      · cases h
    · cases h
/-- A function, by a walk of its body. -/
theorem fun_wp {P : Program} {gl : Nat → Option Tab} {G : Gl} {f : FuncId} {fn : Func} {c : Code} (hf : P.funcs[f]? = some fn) (hb : fn.body = some c) (hnm : (fn.name == "runtime.NumGoroutine") = false)
    {ps rs : Descr} {F : tupT ps.shs → Option (tupT rs.shs)} (ok : BodyOK P gl G fn c ps rs)
    (hF : ∀ x y, F x = some y → ∀ C : Ctx, C.P = P → C.gl = gl → C.m = ps.os.length → C.N = fn.ntmps → GOK C G → ∀ E a w, Bd (head ps (ofTup ps.shs x)) → RepE C (head ps (ofTup ps.shs x)) E a w →
      c.wp C.P (Post C fun p => funEnd G fn.results.toList ps.os.length rs p = some y) a w) : FnOK P gl f ⟨ps, rs, F⟩ := by
  intro args H l x y hl hx hy
  refine ⟨⟨fn, c, hf, hb, hnm⟩, fun w A0 O0 E0 vs hpre => ?_⟩
  have hy : F x = some y := hy
  unfold projArgs at hl
  simp only at hl
  split at hl
  case h_2 => cases hl
  rename_i hlen1 hlen2
  split at hl
  case h_1 => cases hl
  rename_i ids hids
  split at hl
  case h_2 => cases hl
  rename_i d1 d2 h1 h2
  split at hl
  case h_2 => cases hl
  rename_i hst
  cases hl
  have hlen1 : ps.ss.length = args.length := by simpa using hlen1
  have hlen2 : ps.os.length = H.length := by simpa using hlen2
  have hidl : ids.length = H.length := by rw [projO_len h1]; exact hlen2
  have hvs := repL_length hpre.args
  have hps : ps.ss.length ≤ fn.ntmps := by simpa using ok.hps
  refine calls_of_wp hf hb ?_
  let C : Ctx := FCtx P gl w A0 O0 E0 H.length fn.ntmps
  let a0 : Act := { tmps := vs.toArray ++ Array.replicate (fn.ntmps - vs.toArray.size) undef, defers := [] }
  have hD : ∀ id, Dom (argsState args H) id ↔ id < H.length := by
    intro id
    unfold Dom
    rw [args_obj]
    simp
  have hobj : (argsState args H).obj = (stateOf (zipI 0 H)).obj := by
    funext id
    rw [args_obj, obj_zip]
  have hDD : Dom (argsState args H) = Dom (stateOf (zipI 0 H)) := by funext id; simp [Dom, hobj]
  have hup : ∀ b, A0 b → Al C (argsState args H) E0 w b := fun b hb => .inl hb
  have hext : Ext (Dom (stateOf (zipI 0 H))) E0 A0 w (Dom (argsState args H)) E0 (Al C (argsState args H) E0 w) w := by
    rw [hDD]
    exact up_ext hup
  have start : RepE C (argsState args H) E0 a0 w := by
    refine ⟨?_, rfl, ⟨hpre.a0, hpre.gl, Later.refl _, fun _ _ _ => rfl, ?_, ?_, ?_, ?_⟩, ?_⟩
    · show (vs.toArray ++ Array.replicate (fn.ntmps - vs.toArray.size) undef).size = fn.ntmps
      simp
      omega
    · intro i hi
      exact ⟨(hD i).2 hi, rfl, rfl, rfl⟩
    · intro id o ho hw
      have ho' := ho
      rw [hobj] at ho
      obtain ⟨q1, q2⟩ := hpre.own id o ho hw
      refine ⟨q1, .inr ⟨q2, ?_⟩⟩
      rw [args_obj] at ho'
      cases o with
      | grow en e et xs => exact hpre.en id en e et xs ho'
      | gone => exact hw.elim
      | froz e xs => exact hw.elim
      | cells cs => exact (List.getElem?_eq_some_iff.1 ho').1
      | arr e xs => exact (List.getElem?_eq_some_iff.1 ho').1
    · intro i j o o' hi hwi hj hwj
      rw [hobj] at hi hj
      exact hpre.inj i j o o' hi hwi hj hwj
    · intro id o ho
      have ho' := ho
      rw [hobj] at ho
      exact hext.repO ((by unfold Dom; rw [ho]; simp)) (fun _ => rfl) (hpre.objs id o ho)
    · intro t
      rw [args_get]
      cases ht : args[t]? with
      | none => simp [RepV]
      | some v =>
        obtain ⟨z, hz, hz2⟩ := repL_get hpre.args ht
        have : a0.tmps.getD t undef = z := by
          show (vs.toArray ++ Array.replicate (fn.ntmps - vs.toArray.size) undef).getD t undef = z
          have hlt := (List.getElem?_eq_some_iff.1 hz).1
          rw [Array.getD_eq_getD_getElem?, Array.getElem?_append_left (by simpa using hlt)]
          simp [hz]
        rw [this]
        exact hext.repV hz2
  have hid : ∀ j : Nat, j < ids.length → ids[j]? = some (some j) := fun j hj => by simpa using strict_get hst j hj
  obtain ⟨E1, _, r1, r2⟩ := head_ok (C := C) start (D := ps) (ids := ids) h1 h2 (fun id i j hi hj => by
      replace hi := live_sub hi
      replace hj := live_sub hj
      have hi' := (List.getElem?_eq_some_iff.1 hi).1
      have hj' := (List.getElem?_eq_some_iff.1 hj).1
      rw [hid i hi'] at hi
      rw [hid j hj'] at hj
      cases hi; cases hj; rfl) (fun i hi => hid i (by rw [hidl]; exact hi)) (fun id hid => by cases hid)
  have hG : GOK C G := ⟨by rw [ok.hm]; exact hlen2, ok.hn, ok.hgl, ok.hty, ok.hcalls⟩
  rw [← ofTup_toTup hx] at r1 r2
  have main := hF x y hy C rfl rfl hlen2.symm rfl hG E1 a0 w r2 r1
  refine wp_mono main ?_
  have fin : ∀ (e : AE), (∀ id, e ≠ .exit id) → ∀ a w', In C (fun p => funEnd G fn.results.toList ps.os.length rs p = some y) e a w' →
      a.defers = [] ∧ ∃ v, (results fn a.tmps).run P w' = .ok v w' ∧ FPost (FCtx P gl w A0 O0 E0 H.length 0) (resAV (head rs (ofTup rs.shs y)).t) (head rs (ofTup rs.shs y)).h (.returned v) w' := by
    intro e hne a w' hin
    obtain ⟨S, E, q1, q2, q3, q4⟩ := hin
    refine ⟨q4.d, ?_⟩
    unfold funEnd at q1
    split at q1
    · rename_i id hid; exact absurd hid (hne id)
    · split at q1
      · rename_i rl hrl
        split at q1
        case h_2 => cases q1
        rename_i hlr
        have hlr : rl.length = rs.ss.length := by simpa using hlr
        obtain ⟨us, u1, u2, u3⟩ := resOf_ok (a := a) ok.hty q4 hrl
        have hus := repL_length u2
        -- the results, as a state of their own
        let C' : Ctx := FCtx P gl w A0 O0 E0 H.length us.length
        have hS' : RepE C' ⟨zipI 0 rl, S.h, S.nx, []⟩ E ⟨us.toArray, []⟩ w' := by
          refine ⟨by simp [C', FCtx], rfl, ⟨q4.h.a0, q4.h.gl, q4.h.lat, q4.h.keep, q4.h.pin, q4.h.fresh, q4.h.inj, q4.h.objs⟩, ?_⟩
          intro t
          show RepV (Dom S) E (Al C S E w') w' (match look (zipI 0 rl) t with | some v => v | none => .unk) _
          rw [look_zip]
          simp only [Nat.zero_le, if_true, Nat.sub_zero]
          cases ht : rl[t]? with
          | none => simp [RepV]
          | some v =>
            obtain ⟨z, hz, hz2⟩ := repL_get u2 ht
            have : us.toArray.getD t undef = z := by simp [Array.getD_eq_getD_getElem?, hz]
            rw [this]
            exact hz2
        obtain ⟨E2, s1, _, _⟩ := projT_ok (C := C') (show projT rs H.length _ = some y by rw [← hlen2]; exact q1) hS'
        have hord := takeS_ord (takeO rs.os 0 (ofTup rs.shs y)).2 ok.hrs
        have hL : RepL (Dom (head rs (ofTup rs.shs y))) E2 (Al C' (head rs (ofTup rs.shs y)) E2 w') w' ((head rs (ofTup rs.shs y)).t.map (·.2)) us := by
          refine repL_of ?_ fun j v hj => ?_
          · rw [List.length_map]
            exact hord.1.trans (by omega)
          · rw [List.getElem?_map] at hj
            cases hp : (head rs (ofTup rs.shs y)).t[j]? with
            | none => rw [hp] at hj; cases hj
            | some p =>
              rw [hp] at hj
              cases hj
              have := s1.t j
              have hg : (head rs (ofTup rs.shs y)).get j = p.2 := by
                have := hord.2 j p hp
                rw [Nat.zero_add] at this
                show (match look (takeS rs.ss (takeO rs.os 0 (ofTup rs.shs y)).2) j with | some v => v | none => .unk) = _
                rw [this]
              rw [hg] at this
              have hgd : (us.toArray).getD j undef = us.getD j undef := by simp [Array.getD_eq_getD_getElem?]
              rw [hgd] at this
              exact this
        have hmap : (fn.results.mapM (fun rv : ResultVar => match rv with | .tmp t => (pure (a.tmps.getD t undef) : Sem Value) | .cell x t => do loadVar t (← asAddr (a.tmps.getD x undef)))).run P w' = .ok us.toArray w' := by
          rw [Array.mapM_eq_mapM_toList, map_eq_pure_bind, Sem.run_bind]
          have u1' := u1
          change Sem.run P _ w' = _ at u1'
          rw [u1']
          simp
        refine ⟨if h : us.toArray.size = 1 then us.toArray[0] else .tuple us.toArray, ?_, _, E2, rfl, ⟨s1.h.a0, s1.h.gl, s1.h.lat, s1.h.keep, s1.h.pin, s1.h.fresh, s1.h.inj, s1.h.objs⟩, ?_⟩
        · unfold results
          rw [Sem.run_bind]
          refine (congrArg (fun r => Result.andThen r _) (show Sem.run P _ w' = _ from hmap)).trans ?_
          simp only [Result.andThen_ok, Sem.run_pure]
        · show RepV (Dom (head rs (ofTup rs.shs y))) E2 (Al C' (head rs (ofTup rs.shs y)) E2 w') w' (resAV (head rs (ofTup rs.shs y)).t) _
          generalize (head rs (ofTup rs.shs y)).t = tl at hL
          unfold resAV
          split
          · rename_i p
            simp only [List.map_cons, List.map_nil, RepL] at hL
            obtain ⟨z, t, rfl, h3, rfl⟩ := hL
            simpa using h3
          · rename_i hne1
            have : us.toArray.size ≠ 1 := by
              intro hq
              have := repL_length hL
              simp at hq this
              rw [hq] at this
              obtain ⟨p, hp⟩ := List.length_eq_one_iff.1 this.symm
              exact hne1 p hp
            rw [dif_neg this]
            simp only [RepV]
            exact ⟨us, rfl, hL⟩
      · cases q1
  intro e a w' q
  cases e with
  | normal => exact fin .norm (fun _ h => by cases h) a w' q
  | ret => exact fin .ret (fun _ h => by cases h) a w' q
  | exit id =>
    obtain ⟨S, E, q1, _⟩ := q
    cases q1
  | goto l => exact q
  | panic l => exact q.elim
  | outgrown => exact q.elim
theorem fun_ok {P : Program} {gl : Nat → Option Tab} {G : Gl} {f : FuncId} {fn : Func} {c : Code} (hmix : P.follows .mixedOrders = true) (hf : P.funcs[f]? = some fn) (hb : fn.body = some c) (hnm : (fn.name == "runtime.NumGoroutine") = false)
    {ps rs : Descr} {F : tupT ps.shs → Option (tupT rs.shs)} (ok : BodyOK P gl G fn c ps rs)
    (hF : ∀ x, F x = (ev G c (head ps (ofTup ps.shs x))).den (funEnd G fn.results.toList ps.os.length rs)) : FnOK P gl f ⟨ps, rs, F⟩ :=
  fun_wp hf hb hnm ok fun x y hy C h1 h2 h3 h4 hG E a w hB hR => by
    rw [hF] at hy
    exact ev_sound hG (by rw [h1]; exact hmix) c (ok.hloops C h1 h2 h3 h4) (den_sat hy) (fun p hp => by cases hp) hB hR
/-! ### slices.Clone: its code asks whether a slice is nil, which the lists do not tell -/
def both {R : Type} : Option R → Option R → Option R
  | some a, some _ => some a
  | _, _ => none
def nilOnly {T : Type} : Option (List T) → Option (List T)
  | some [] => some []
  | _ => none
theorem nilOnly_some {T : Type} {x : Option (List T)} {y : List T} (h : nilOnly x = some y) : x = some [] ∧ y = [] := by
  unfold nilOnly at h
  split at h
  · cases h; exact ⟨rfl, rfl⟩
  · cases h
theorem both_some {R : Type} {x y : Option R} {z : R} (h : both x y = some z) : x = some z ∧ ∃ u, y = some u := by
  unfold both at h
  split at h
  · cases h; exact ⟨rfl, _, rfl⟩
  · cases h
noncomputable def ambEnd (G : Gl) (t : Nat) (A B : Code) {T : Type} (L : AE × AS → Option (List T)) (q : AE × AS) : Option (List T) :=
  match q.1, q.2.get t with
  | .norm, .anyB => both (nilOnly ((ev G (.seq A B) q.2).den L)) (nilOnly ((ev G B q.2).den L))
  | _, _ => none
noncomputable def ambMid (G : Gl) (t : Nat) (r1 A B : Code) {T : Type} (L : AE × AS → Option (List T)) (p : AE × AS) : Option (List T) :=
  match p.1 with
  | .norm => (ev G r1 p.2).den (ambEnd G t A B L)
  | _ => none
def ambR0 : Code → Code
  | .seq r0 _ => r0
  | c => c
def ambR1 : Code → Code
  | .seq _ (.seq (.seq r1 _) _) => r1
  | c => c
def ambT : Code → Nat
  | .seq _ (.seq (.seq _ (.cond (.tmp t) _ _)) _) => t
  | _ => 0
def ambA : Code → Code
  | .seq _ (.seq (.seq _ (.cond _ A _)) _) => A
  | c => c
def ambB : Code → Code
  | .seq _ (.seq _ B) => B
  | c => c
theorem wp_amb {C : Ctx} {G : Gl} (hG : GOK C G) (hmix : C.P.follows .mixedOrders = true) {r0 r1 A B : Code} {t : Nat} {T : Type} {L : AE × AS → Option (List T)} {S : AS} {E : Env} {a : Act} {w : World}
    (hl0 : loops r0 = []) (hl1 : loops r1 = []) (hlA : loops A = []) (hlB : loops B = []) {y : List T} (h : (ev G r0 S).den (ambMid G t r1 A B L) = some y) (hd : DecOK S) (hb : Bd S) (hR : RepE C S E a w) :
    (Code.seq r0 (.seq (.seq r1 (.cond (.tmp t) A .skip)) B)).wp C.P (Post C fun p => L p = some []) a w := by
  have no : ∀ {c : Code}, loops c = [] → ∀ b, b ∈ loops c → LoopOK C G b := fun h b hb => by rw [h] at hb; cases hb
  refine wp_seq (wp_mono (ev_sound hG hmix r0 (no hl0) (den_sat h) hd hb hR) ?_)
  intro e a1 w1 q
  cases e with
  | normal =>
    obtain ⟨S1, E1, q1, q2, q3, q4⟩ := q
    refine wp_seq (wp_seq (wp_mono (ev_sound hG hmix r1 (no hl1) (den_sat (show (ev G r1 S1).den (ambEnd G t A B L) = some y from q1)) q2 q3 q4) ?_))
    intro e a2 w2 r
    cases e with
    | normal =>
      obtain ⟨S2, E2, r1', r2, r3, r4⟩ := r
      simp only [ambEnd] at r1'
      split at r1'
      · rename_i hq1 hq2
        obtain ⟨b1, u, b2⟩ := both_some r1'
        have c1 := (nilOnly_some b1).1
        have c2 := (nilOnly_some b2).1
        have ht := r4.t t
        rw [hq2] at ht
        simp only [RepV] at ht
        obtain ⟨b, hbv⟩ := ht
        have hbv : a2.eval (.tmp t) = .bool b := hbv
        refine wp_cond hbv ?_
        cases b with
        | true =>
          have s1 := sat_bnd (den_sat c1)
          refine wp_mono (ev_sound hG hmix A (no hlA) s1 r2 r3 r4) ?_
          intro e a3 w3 u
          cases e with
          | normal =>
            obtain ⟨S3, E3, u1, u2, u3, u4⟩ := u
            exact ev_sound hG hmix B (no hlB) u1 u2 u3 u4
          | exit id => obtain ⟨S3, E3, u1, u2⟩ := u; exact ⟨S3, E3, u1, u2⟩
          | ret => obtain ⟨S3, E3, u1, u2⟩ := u; exact ⟨S3, E3, u1, u2⟩
          | goto l => exact u
          | panic l => exact u
          | outgrown => exact u
        | false => exact wp_skip (ev_sound hG hmix B (no hlB) (den_sat c2) r2 r3 r4)
      · cases r1'
    | exit id => obtain ⟨S2, E2, r1', _⟩ := r; cases r1'
    | ret => obtain ⟨S2, E2, r1', _⟩ := r; cases r1'
    | goto l => exact r
    | panic l => exact r
    | outgrown => exact r
  | exit id => obtain ⟨S1, E1, q1, _⟩ := q; cases q1
  | ret => obtain ⟨S1, E1, q1, _⟩ := q; cases q1
  | goto l => exact q
  | panic l => exact q
  | outgrown => exact q
end Go.Rx
/-! Rx, part 23: a table of types, checked by one computation. -/
namespace Go.Rx
set_option linter.unusedVariables false
set_option linter.unusedSimpArgs false
def beqK : IntKind → IntKind → Bool := fun a b => match decEq a b with | isTrue _ => true | isFalse _ => false
theorem beqK_eq {a b : IntKind} (h : beqK a b = true) : a = b := by unfold beqK at h; split at h; exact (by assumption); cases h
def beqFs : List (Nat × TypeId) → List (Nat × TypeId) → Bool
  | [], [] => true
  | a :: r, b :: r' => match Nat.beq a.1 b.1, Nat.beq a.2 b.2 with | true, true => beqFs r r' | _, _ => false
  | _, _ => false
theorem beqFs_eq : ∀ {l r : List (Nat × TypeId)}, beqFs l r = true → l = r
  | [], [], _ => rfl
  | [], _ :: _, h => by cases h
  | _ :: _, [], h => by cases h
  | (a, b) :: r, (a', b') :: r', h => by
    simp only [beqFs] at h
    split at h
    · rename_i h1 h2
      have h1 : a = a' := by simpa using h1
      have h2 : b = b' := by simpa using h2
      rw [h1, h2, beqFs_eq h]
    · cases h
def beqTD : TD → TD → Bool
  | .int k, .int k' => beqK k k'
  | .bool, .bool => true
  | .str, .str => true
  | .sl e, .sl e' => Nat.beq e e'
  | .ptr e, .ptr e' => Nat.beq e e'
  | .st l, .st l' => beqFs l l'
  | .arr n e, .arr n' e' => Nat.beq n n' && Nat.beq e e'
  | .fn, .fn => true
  | .other, .other => true
  | _, _ => false
theorem beqTD_eq {a b : TD} (h : beqTD a b = true) : a = b := by
  cases a <;> cases b <;> simp [beqTD] at h <;> first
    | rfl
    | rw [beqK_eq h]
    | rw [beqFs_eq h]
    | (rw [h]; done)
    | (rw [h.1, h.2]; done)
/-- A shape's zero, taken off a list of cells. -/
def zeroB : Sh → List Value → Option (List Value)
  | .int k, .int k' n :: r => match beqK k k', decEq n 0 with | true, isTrue _ => some r | _, _ => none
  | .bool, .bool false :: r => some r
  | .str, .string ⟨⟨[]⟩⟩ :: r => some r
  | .unit, l => some l
  | .pair a b, l => match zeroB a l with | some r => zeroB b r | none => none
  | .st a, l => zeroB a l
  | .sl _, .slice none 0 0 :: r => some r
  | .ptr _, .pointer none :: r => some r
  | _, _ => none
theorem zeroB_ok : ∀ {s : Sh} {l r : List Value}, zeroB s l = some r → ∃ c, l = c ++ r ∧ ZC s c := by
  intro s
  induction s with
  | int k =>
    intro l r h
    unfold zeroB at h
    split at h <;> first | (cases h; done) | skip
    all_goals (rename_i heq; try (cases heq))
    split at h
    · rename_i hn hk _
      cases h
      have hk := beqK_eq hk
      subst hk
      subst hn
      exact ⟨[_], rfl, rfl⟩
    · cases h
  | bool =>
    intro l r h
    unfold zeroB at h
    split at h <;> first | (cases h; done) | skip
    all_goals (rename_i heq; try (cases heq))
    cases h
    exact ⟨[_], rfl, rfl⟩
  | str =>
    intro l r h
    unfold zeroB at h
    split at h <;> first | (cases h; done) | skip
    all_goals (rename_i heq; try (cases heq))
    cases h
    exact ⟨[_], rfl, rfl⟩
  | unit =>
    intro l r h
    have : zeroB .unit l = some l := by cases l <;> rfl
    rw [this] at h
    cases h
    exact ⟨[], rfl, rfl⟩
  | pair a b iha ihb =>
    intro l r h
    have : zeroB (.pair a b) l = match zeroB a l with | some r => zeroB b r | none => none := by cases l <;> rfl
    rw [this] at h
    split at h
    · rename_i r1 h1
      obtain ⟨c1, rfl, p1⟩ := iha h1
      obtain ⟨c2, rfl, p2⟩ := ihb h
      exact ⟨c1 ++ c2, by simp, c1, c2, rfl, p1, p2⟩
    · cases h
  | st a ih =>
    intro l r h
    have : zeroB (.st a) l = zeroB a l := by cases l <;> rfl
    rw [this] at h
    exact ih h
  | sl e _ =>
    intro l r h
    unfold zeroB at h
    split at h <;> first | (cases h; done) | skip
    all_goals (rename_i heq; try (cases heq))
    cases h
    exact ⟨[_], rfl, rfl⟩
  | ptr e _ =>
    intro l r h
    unfold zeroB at h
    split at h <;> first | (cases h; done) | skip
    all_goals (rename_i heq; try (cases heq))
    cases h
    exact ⟨[_], rfl, rfl⟩
def zeroRowsB (e : Sh) : Nat → List Value → Option (List Value)
  | 0, l => some l
  | n + 1, l => match zeroB e l with | some r => zeroRowsB e n r | none => none
theorem zeroRowsB_ok {e : Sh} : ∀ {n : Nat} {l r : List Value}, zeroRowsB e n l = some r → ∃ c, l = c ++ r ∧ ∀ A w, RowsL (fun x c => PC A w e x c) (List.replicate n e.dflt) c
  | 0, l, r, h => by cases h; exact ⟨[], rfl, fun A w => rfl⟩
  | n + 1, l, r, h => by
    simp only [zeroRowsB] at h
    split at h
    · rename_i r1 h1
      obtain ⟨c1, rfl, p1⟩ := zeroB_ok h1
      obtain ⟨c2, rfl, p2⟩ := zeroRowsB_ok h
      exact ⟨c1 ++ c2, by simp, fun A w => ⟨c1, c2, rfl, ZC.pc p1, p2 A w⟩⟩
    · cases h
def isFn : TD → Bool
  | .fn => true
  | _ => false
def zB (ty : TypeId → Option TI) (ti : TI) (zs : List Value) : Bool :=
  match ti.nds with
  | true => Nat.blt 0 ti.size
  | false => match ti.td with
  | .fn => true
  | .other => true
  | .arr n e => match ty e with
    | none => true
    | some te => Nat.beq (n * te.size) ti.size && (isFn te.td || (match zeroRowsB te.sh n zs with | some [] => true | _ => false))
  | _ => match zeroB ti.sh zs with | some [] => true | _ => false
theorem zB_ok {ty : TypeId → Option TI} {ti : TI} {zs : List Value} (h : zB ty ti zs = true) : ZeroOK ty ti zs := by
  unfold zB at h
  unfold ZeroOK
  cases hnd : ti.nds with
  | true => rw [hnd] at h; exact Nat.le_of_ble_eq_true h
  | false =>
  rw [hnd] at h
  simp only at h ⊢
  have flat : (match zeroB ti.sh zs with | some [] => true | _ => false) = true → ZC ti.sh zs := by
    intro q
    split at q
    · rename_i hz
      obtain ⟨c, e1, p⟩ := zeroB_ok hz
      rw [List.append_nil] at e1
      subst e1
      exact p
    · cases q
  split
  · trivial
  · trivial
  · rename_i n e htd
    simp only [htd] at h
    intro te hte
    simp only [hte, Bool.and_eq_true, Bool.or_eq_true] at h
    refine ⟨by simpa using h.1, fun hfn A w => ?_⟩
    rcases h.2 with q | q
    · exfalso
      apply hfn
      unfold isFn at q
      split at q
      · assumption
      · cases q
    · split at q
      · rename_i hz
        obtain ⟨c, e1, p⟩ := zeroRowsB_ok hz
        rw [List.append_nil] at e1
        subst e1
        exact p A w
      · cases q
  · rename_i h1 h2 h3
    refine flat ?_
    split at h
    · rename_i q; exact absurd q h1
    · rename_i q; exact absurd q h2
    · rename_i n e q; exact absurd q (h3 n e)
    · exact h
def tiB (P : Program) (ty : TypeId → Option TI) (t : TypeId) (ti : TI) : Bool :=
  match P.underlying t, P.info? t with
  | some d, some i => beqTD (tdOf d) ti.td && Nat.beq i.size ti.size && Nat.beq i.bytes ti.bytes && (match i.zero with | some z => Nat.beq z.cells.size ti.size && zB ty ti z.cells.toList | none => false)
  | _, _ => false
theorem tiB_ok {P : Program} {ty : TypeId → Option TI} {t : TypeId} {ti : TI} (h : tiB P ty t ti = true)
    (heq : ti.eqs = true → P.eqGuardType P.depth t = false ∧ ∀ w (l r : List Value) c, EqInts l r c → l.length = ti.size → (Op.equal t (.agg l.toArray) (.agg r.toArray)).run P w = .ok c w) : TIOK P ty t ti := by
  unfold tiB at h
  split at h
  · rename_i d i hd hi
    simp only [Bool.and_eq_true] at h
    obtain ⟨⟨⟨h1, h2⟩, h3⟩, h4⟩ := h
    refine ⟨by rw [hd, ← beqTD_eq h1]; rfl, by rw [hi]; simp only [Option.map_some]; rw [show i.size = ti.size by simpa using h2, show i.bytes = ti.bytes by simpa using h3], ?_, heq⟩
    intro i' hi'
    rw [hi] at hi'
    cases hi'
    split at h4
    · rename_i z hz
      simp only [Bool.and_eq_true] at h4
      exact ⟨z, hz, by simpa using h4.1, zB_ok h4.2⟩
    · cases h4
  · cases h
/-- All rows of a table. -/
def tabB (P : Program) (ty : TypeId → Option TI) : List (TypeId × TI) → Bool
  | [] => true
  | p :: r => match tiB P ty p.1 p.2 with | true => tabB P ty r | false => false
theorem tabB_ok {P : Program} {ty : TypeId → Option TI} : ∀ {l : List (TypeId × TI)}, tabB P ty l = true → ∀ t ti, look l t = some ti → tiB P ty t ti = true
  | [], _, t, ti, h => by cases h
  | (k, v) :: r, hb, t, ti, h => by
    simp only [tabB] at hb
    split at hb
    · rename_i q
      rw [look_cons] at h
      split at h
      · rename_i e; cases h; rw [e]; exact q
      · exact tabB_ok hb t ti h
    · cases hb
theorem all_nil {α : Type} {Q : α → Prop} : ∀ p, p ∈ ([] : List α) → Q p := fun p h => by cases h
theorem all_cons {α : Type} {Q : α → Prop} {a : α} {l : List α} (h : Q a) (h' : ∀ p, p ∈ l → Q p) : ∀ p, p ∈ a :: l → Q p := fun p hp => by
  rcases List.mem_cons.1 hp with rfl | hp
  · exact h
  · exact h' p hp
theorem lt_all0 {Q : Nat → Prop} : ∀ i, i < 0 → Q i := fun i h => absurd h (Nat.not_lt_zero i)
theorem lt_allS {Q : Nat → Prop} {n : Nat} (h : ∀ i, i < n → Q i) (h' : Q n) : ∀ i, i < n + 1 → Q i := fun i hi => by
  rcases Nat.lt_or_ge i n with q | q
  · exact h i q
  · have : i = n := by omega
    rw [this]; exact h'
theorem loops_all {c : Code} {n : Nat} {Q : Code → Prop} (h : Nat.beq (loops c).length n = true) (hq : ∀ i, i < n → Q ((loops c).getD i .skip)) : ∀ b, b ∈ loops c → Q b := by
  intro b hb
  obtain ⟨i, hi⟩ := List.getElem?_of_mem hb
  have hn : (loops c).length = n := by simpa using h
  have := hq i (by rw [← hn]; exact (List.getElem?_eq_some_iff.1 hi).1)
  rwa [List.getD_eq_getElem?_getD, hi] at this
theorem gok {P : Program} {gl : Nat → Option Tab} {C : Ctx} {G : Gl} {m n : Nat} (hP : C.P = P) (hgl : C.gl = gl) (hm : C.m = m) (hN : C.N = n) (h1 : G.m = m) (h2 : G.n = n) (h3 : G.gl = gl) (h4 : TyOK P G) (h5 : CallsOK P gl G) : GOK C G := by
  subst hP hgl hm hN
  exact ⟨h1, h2, h3, h4, h5⟩
theorem clone_ok {P : Program} {gl : Nat → Option Tab} {G : Gl} {f : FuncId} {fn : Func} {c : Code} {e : Sh} (hmix : P.follows .mixedOrders = true) (hf : P.funcs[f]? = some fn) (hb : fn.body = some c) (hnm : (fn.name == "runtime.NumGoroutine") = false)
    {F : List e.T → Option (List e.T)} (ok : BodyOK P gl G fn c ⟨[], [(0, .d (.sl e))]⟩ ⟨[], [(0, .d (.sl e))]⟩)
    (hs : c = .seq (ambR0 c) (.seq (.seq (ambR1 c) (.cond (.tmp (ambT c)) (ambA c) .skip)) (ambB c))) (l0 : loops (ambR0 c) = []) (l1 : loops (ambR1 c) = []) (lA : loops (ambA c) = []) (lB : loops (ambB c) = [])
    (hnil : (ev G (ambR0 c) (head ⟨[], [(0, .d (.sl e))]⟩ (ofTup [.sl e] ([] : List e.T)))).den (ambMid G (ambT c) (ambR1 c) (ambA c) (ambB c) (T := e.T) (funEnd G fn.results.toList 0 ⟨[], [(0, .d (.sl e))]⟩)) = some [])
    (hcons : ∀ x l, F (x :: l) = (ev G c (head ⟨[], [(0, .d (.sl e))]⟩ (ofTup [.sl e] (x :: l : List e.T)))).den (funEnd G fn.results.toList 0 ⟨[], [(0, .d (.sl e))]⟩)) (h0 : F [] = some []) :
    FnOK P gl f ⟨⟨[], [(0, .d (.sl e))]⟩, ⟨[], [(0, .d (.sl e))]⟩, F⟩ := by
  refine fun_wp (ps := ⟨[], [(0, .d (.sl e))]⟩) (rs := ⟨[], [(0, .d (.sl e))]⟩) (F := F) hf hb hnm ok ?_
  intro (x : List e.T) (y : List e.T) hy C h1 h2 h3 h4 hG E a w hB hR
  have hm : C.P.follows .mixedOrders = true := by rw [h1]; exact hmix
  cases x with
  | nil =>
    have : y = [] := by
      have hy : F [] = some y := hy
      rw [h0] at hy
      cases hy
      rfl
    subst this
    rw [hs]
    exact wp_amb hG hm l0 l1 lA lB hnil (fun p hp => by cases hp) hB hR
  | cons x l =>
    have hy : F (x :: l) = some y := hy
    rw [hcons] at hy
    exact ev_sound hG hm c (ok.hloops C h1 h2 h3 h4) (den_sat hy) (fun p hp => by cases hp) hB hR
/-- The same, its list being the caller's to write. -/
theorem clone_own_ok {P : Program} {gl : Nat → Option Tab} {G : Gl} {f : FuncId} {fn : Func} {c : Code} {e : Sh} {et : TypeId} (hmix : P.follows .mixedOrders = true) (hf : P.funcs[f]? = some fn) (hb : fn.body = some c) (hnm : (fn.name == "runtime.NumGoroutine") = false)
    {F : List e.T → Option (List e.T)} (ok : BodyOK P gl G fn c ⟨[], [(0, .d (.sl e))]⟩ ⟨[(.tmp 0, .grow false e et)], [(0, .own 0)]⟩)
    (hs : c = .seq (ambR0 c) (.seq (.seq (ambR1 c) (.cond (.tmp (ambT c)) (ambA c) .skip)) (ambB c))) (l0 : loops (ambR0 c) = []) (l1 : loops (ambR1 c) = []) (lA : loops (ambA c) = []) (lB : loops (ambB c) = [])
    (hnil : (ev G (ambR0 c) (head ⟨[], [(0, .d (.sl e))]⟩ (ofTup [.sl e] ([] : List e.T)))).den (ambMid G (ambT c) (ambR1 c) (ambA c) (ambB c) (T := e.T) (funEnd G fn.results.toList 0 ⟨[(.tmp 0, .grow false e et)], [(0, .own 0)]⟩)) = some [])
    (hcons : ∀ x l, F (x :: l) = (ev G c (head ⟨[], [(0, .d (.sl e))]⟩ (ofTup [.sl e] (x :: l : List e.T)))).den (funEnd G fn.results.toList 0 ⟨[(.tmp 0, .grow false e et)], [(0, .own 0)]⟩)) (h0 : F [] = some []) :
    FnOK P gl f ⟨⟨[], [(0, .d (.sl e))]⟩, ⟨[(.tmp 0, .grow false e et)], [(0, .own 0)]⟩, F⟩ := by
  refine fun_wp (ps := ⟨[], [(0, .d (.sl e))]⟩) (rs := ⟨[(.tmp 0, .grow false e et)], [(0, .own 0)]⟩) (F := F) hf hb hnm ok ?_
  intro (x : List e.T) (y : List e.T) hy C h1 h2 h3 h4 hG E a w hB hR
  have hm : C.P.follows .mixedOrders = true := by rw [h1]; exact hmix
  cases x with
  | nil =>
    have : y = [] := by
      have hy : F [] = some y := hy
      rw [h0] at hy
      cases hy
      rfl
    subst this
    rw [hs]
    exact wp_amb hG hm l0 l1 lA lB hnil (fun p hp => by cases hp) hB hR
  | cons x l =>
    have hy : F (x :: l) = some y := hy
    rw [hcons] at hy
    exact ev_sound hG hm c (ok.hloops C h1 h2 h3 h4) (den_sat hy) (fun p hp => by cases hp) hB hR
end Go.Rx
/-! Rx, part 24: '==' of structs of two ints. -/
namespace Go.Rx
set_option linter.unusedVariables false
set_option linter.unusedSimpArgs false
theorem equal_int {P : Program} {t : TypeId} {k : IntKind} (hd : P.underlying t = some (.int k)) (n : Nat) (a b : Int) (k' : IntKind) (w : World) : (Op.equalIn (n + 1) t (.int k' a) (.int k' b)).run P w = .ok (a == b) w := by
  simp [Op.equalIn, run_underlying hd]
theorem equal_two {P : Program} {t : TypeId} {f1 f2 : Field} {k1 k2 : IntKind} (hd : P.underlying t = some (.struct #[f1, f2])) (hs : P.stoodInHeld t = false) (n1 : f1.name ≠ "_") (n2 : f2.name ≠ "_") (o1 : f1.offset = 0) (o2 : f2.offset = 1)
    (h1 : P.underlying f1.type = some (.int k1)) (h2 : P.underlying f2.type = some (.int k2)) (k k' : IntKind) (a b a' b' : Int) (w : World) :
    (Op.equal t (.agg #[.int k a, .int k' b]) (.agg #[.int k a', .int k' b'])).run P w = .ok ((a == a') && (b == b')) w := by
  have : ∀ n, (Op.equalIn (n + 2) t (.agg #[.int k a, .int k' b]) (.agg #[.int k a', .int k' b'])).run P w = .ok ((a == a') && (b == b')) w := by
    intro n
    rw [Op.equalIn]
    simp [run_underlying hd, hs, n1, n2, part, isAgg, run_underlying h1, run_underlying h2, o1, o2, equal_int h1, equal_int h2]
    by_cases q : a = a' <;> by_cases r : b = b' <;> simp [q, r]
  exact this 9998
def EqGoal (P : Program) (t : TypeId) (n : Nat) : Prop :=
  P.eqGuardType P.depth t = false ∧ ∀ w (l r : List Value) c, EqInts l r c → l.length = n → (Op.equal t (.agg l.toArray) (.agg r.toArray)).run P w = .ok c w
theorem eqs_two {P : Program} {t : TypeId} {f1 f2 : Field} {k1 k2 : IntKind} (hg : P.eqGuardType P.depth t = false) (hd : P.underlying t = some (.struct #[f1, f2])) (hs : P.stoodInHeld t = false) (n1 : (f1.name == "_") = false) (n2 : (f2.name == "_") = false)
    (o1 : f1.offset = 0) (o2 : f2.offset = 1) (h1 : P.underlying f1.type = some (.int k1)) (h2 : P.underlying f2.type = some (.int k2)) :
    EqGoal P t 2 := by
  refine ⟨hg, fun w l r c h hl => ?_⟩
  cases h with
  | one k a b => simp at hl
  | cons k a b l r c h =>
    cases h with
    | one k' a' b' => exact equal_two hd hs (by simpa using n1) (by simpa using n2) o1 o2 h1 h2 k k' a a' b b' w
    | cons k' a' b' l r c h => cases h <;> simp at hl
end Go.Rx
/-! Rx, part 25: a law's fact, as a row's walk asks for it. -/
namespace Go.Rx
set_option linter.unusedVariables false
theorem keptBut_of {w w' : World} (h : Later w w') (hk : ∀ b, b < w.heap.size → w'.heap[b]? = w.heap[b]?) : w.keptBut w' (fun _ => False) := by
  refine ⟨h.os, h.out, fun i hi => ?_⟩
  rw [hk i hi]
  exact (World.keptBut_refl w (fun _ => False)).2.2 i hi
theorem law_calls {P : Program} {gl : Nat → Option Tab} {f : FuncId} {s : Sig} (ok : FnOK P gl f s) {args : List AV} {l : List Dat} {x : tupT s.ps.shs} {y : tupT s.rs.shs}
    (h1 : projArgs s.ps args [] = some l) (h2 : toTup s.ps.shs l = some x) (h3 : s.F x = some y) (h4 : resAV (head s.rs (ofTup s.rs.shs y)).t = .bool true)
    {w : World} {vs : List Value} {A0 : Nat → Prop} {E0 : Env} (hA0 : ∀ b, A0 b → b < w.heap.size)
    (hgl : ∀ g e xs, gl g = some ⟨e, xs⟩ → A0 g ∧ ∃ cells, RowsL (fun x c => PC A0 w e x c) xs cells ∧ At w ⟨g, 0, none⟩ cells)
    (hargs : RepL (fun _ => False) E0 A0 w args vs) : Calls P f vs.toArray w (fun e w' => e = .returned (.bool true) ∧ RowKit.Grown w w') := by
  have hD : Dom (stateOf (zipI 0 ([] : List Obj))) = fun _ => False := by
    funext id
    simp [Dom, stateOf, AS.obj, zipI, look]
  have h0 : ∀ id o, ¬ (stateOf (zipI 0 ([] : List Obj))).obj id = some o := by
    intro id o h
    simp [stateOf, AS.obj, zipI, look] at h
  refine ((ok args [] l x y h1 h2 h3).2 w A0 (fun _ => False) E0 vs ⟨fun b hb => ⟨hA0 b hb, fun h => h⟩, hgl, fun id o h => (h0 id o h).elim, fun id o h => (h0 id o h).elim, fun i j o o' h => (h0 i o h).elim, by rw [hD]; exact hargs, by simp⟩).mono fun e w' h => ?_
  obtain ⟨v, E', rfl, hR, hv⟩ := h
  rw [h4] at hv
  simp only [RepV] at hv
  subst hv
  exact ⟨rfl, keptBut_of hR.lat fun b hb => hR.keep b hb (fun h => h), fun a => hR.lat.fz a, hR.lat.sz⟩
end Go.Rx
/-! Rx, part 27: the shapes in which a printed text says what it says of a function and of a loop, short. -/
namespace Go.Rx
set_option linter.unusedVariables false
structure Is (C : Ctx) (P : Program) (gl : Nat → Option Tab) (m N : Nat) : Prop where
  P : C.P = P
  gl : C.gl = gl
  m : C.m = m
  N : C.N = N
noncomputable section
def bodyOf (f : Func) : Code := match f.body with | some c => c | none => .skip
def subLoop (c : Code) (i : Nat) : Code := (loops c).getD i .skip
@[reducible] def rL (m : Nat) (s : LSig) (G : Gl) (b : Code) (x : tupT s.hd.shs) : Option (exT s.ex) := (ev G b (head s.hd (ofTup s.hd.shs x))).den (roundEnd m s)
@[reducible] def rF (fn : Func) (s : Sig) (G : Gl) (c : Code) (x : tupT s.ps.shs) : Option (tupT s.rs.shs) := (ev G c (head s.ps (ofTup s.ps.shs x))).den (funEnd G fn.results.toList s.ps.os.length s.rs)
end
theorem mkLR {P : Program} {gl : Nat → Option Tab} {C : Ctx} {m N : Nat} (h : Is C P gl m N) (hmix : P.follows .mixedOrders = true) {hd : Descr} {ex : List (AE × Descr)} {F : Nat → tupT hd.shs → Option (exT ex)} (Gk : Nat → Gl) {b : Code} (k : Nat)
    (hg : ∀ k, (Gk k).m = m ∧ (Gk k).n = N ∧ (Gk k).gl = gl) (hty : ∀ k, TyOK P (Gk k)) (hc : ∀ j, j < k → CallsOK P gl (Gk j)) (hin : ∀ j, j < k → ∀ b', b' ∈ loops b → LoopOK C (Gk j) b') (h0 : ∀ x, F 0 x = none)
    (hF : ∀ k x, F (k + 1) x = (ev (Gk k) b (head hd (ofTup hd.shs x))).den (roundEnd m ⟨hd, ex, F k⟩)) (hlp : ∀ S, (Gk k).lp (keyOf b) S = LSig.ls m ⟨hd, ex, F k⟩ S) : LoopOK C (Gk k) b := by
  obtain ⟨hP, hgl, hm, hN⟩ := h
  exact LoopOK.of (by rw [hP]; exact hmix) (hd := hd) (ex := ex) (F := F) (Gk := Gk) k (fun j hj => gok hP hgl hm hN (hg j).1 (hg j).2.1 (hg j).2.2 (hty j) (hc j hj)) hin h0 (fun k x => by rw [hm]; exact hF k x) (fun S => by rw [hm]; exact hlp S)
theorem mkL {P : Program} {gl : Nat → Option Tab} {C : Ctx} {m N : Nat} (h : Is C P gl m N) (hmix : P.follows .mixedOrders = true) {hd : Descr} {ex : List (AE × Descr)} {F : Nat → tupT hd.shs → Option (exT ex)} (Gk : Nat → Gl) {b : Code}
    (hg : ∀ k, (Gk k).m = m ∧ (Gk k).n = N ∧ (Gk k).gl = gl) (hty : ∀ k, TyOK P (Gk k)) (hc : ∀ k, CallsOK P gl (Gk k)) (hin : ∀ k b', b' ∈ loops b → LoopOK C (Gk k) b') (h0 : ∀ x, F 0 x = none)
    (hF : ∀ k x, F (k + 1) x = (ev (Gk k) b (head hd (ofTup hd.shs x))).den (roundEnd m ⟨hd, ex, F k⟩)) (k : Nat) (hlp : ∀ S, (Gk k).lp (keyOf b) S = LSig.ls m ⟨hd, ex, F k⟩ S) : LoopOK C (Gk k) b :=
  mkLR h hmix Gk k hg hty (fun j _ => hc j) (fun j _ => hin j) h0 hF hlp
/-- A function that calls itself: by the fuel. -/
theorem recFn {Q : Nat → Prop} (h0 : Q 0) (hs : ∀ k, (∀ j, j ≤ k → Q j) → Q (k + 1)) : ∀ k, Q k := fun k => by
  have : ∀ k j, j ≤ k → Q j := by
    intro k
    induction k with
    | zero => intro j hj; rw [Nat.le_zero.1 hj]; exact h0
    | succ k ih =>
      intro j hj
      rcases Nat.lt_or_ge j (k + 1) with q | q
      · exact ih j (Nat.le_of_lt_succ q)
      · rw [Nat.le_antisymm hj q]; exact hs k ih
  exact this k k (Nat.le_refl _)
theorem noFn {P : Program} {gl : Nat → Option Tab} {f : FuncId} {s : Sig} (h : ∀ x, s.F x = none) : FnOK P gl f s := fun args H l x y _ _ q => by rw [h] at q; cases q
theorem mkF {P : Program} {gl : Nat → Option Tab} {G : Gl} {f : FuncId} {fn : Func} {c : Code} {ps rs : Descr} {F : tupT ps.shs → Option (tupT rs.shs)} (hmix : P.follows .mixedOrders = true) (hf : P.funcs[f]? = some fn) (hb : fn.body = some c) (hnm : (fn.name == "runtime.NumGoroutine") = false)
    (hg : G.m = ps.os.length ∧ G.n = fn.ntmps ∧ G.gl = gl) (hty : TyOK P G) (hc : CallsOK P gl G) (hps : Nat.ble ps.ss.length fn.ntmps = true) (hrs : ssOrd rs.ss 0 = true)
    (hl : ∀ C, Is C P gl ps.os.length fn.ntmps → ∀ b, b ∈ loops c → LoopOK C G b) (hF : ∀ x, F x = (ev G c (head ps (ofTup ps.shs x))).den (funEnd G fn.results.toList ps.os.length rs)) : FnOK P gl f ⟨ps, rs, F⟩ :=
  fun_ok hmix hf hb hnm ⟨hg.1, hg.2.1, hg.2.2, hty, hc, hps, hrs, fun C h1 h2 h3 h4 => hl C ⟨h1, h2, h3, h4⟩⟩ hF
theorem mkB {P : Program} {gl : Nat → Option Tab} {G : Gl} {fn : Func} {c : Code} {ps rs : Descr} (hg : G.m = ps.os.length ∧ G.n = fn.ntmps ∧ G.gl = gl) (hty : TyOK P G) (hc : CallsOK P gl G) (hps : Nat.ble ps.ss.length fn.ntmps = true) (hrs : ssOrd rs.ss 0 = true)
    (hl : ∀ C, Is C P gl ps.os.length fn.ntmps → ∀ b, b ∈ loops c → LoopOK C G b) : BodyOK P gl G fn c ps rs := ⟨hg.1, hg.2.1, hg.2.2, hty, hc, hps, hrs, fun C h1 h2 h3 h4 => hl C ⟨h1, h2, h3, h4⟩⟩
theorem noLoops {C : Ctx} {G : Gl} {c : Code} (h : loops c = []) : ∀ b, b ∈ loops c → LoopOK C G b := fun b hb => by rw [h] at hb; cases hb
end Go.Rx
/-! Rx, part 26: what comes in, as plain data: slices of ints, of structs, of slices. -/
namespace Go.Rx
set_option linter.unusedVariables false
mutual
inductive ShOK (P : Program) : Sh → TypeId → Prop
  | int {k : IntKind} {t : TypeId} (h : P.underlying t = some (.int k)) : ShOK P (.int k) t
  | sl {e : Sh} {t u : TypeId} (h : P.underlying t = some (.slice u)) (hn : P.cellsOf u = e.size) (h0 : 0 < e.size) (he : ShOK P e u) : ShOK P (.sl e) t
  | st {s : Sh} {t : TypeId} {fs : Array Field} (h : P.underlying t = some (.struct fs)) (hn : P.cellsOf t = s.size) (hf : FsOK P s fs.toList 0) : ShOK P (.st s) t
inductive FsOK (P : Program) : Sh → List Field → Nat → Prop
  | one {s : Sh} {f : Field} {off : Nat} (ho : f.offset = off) (hn : P.cellsOf f.type = s.size) (h : ShOK P s f.type) : FsOK P s [f] off
  | more {a b : Sh} {f : Field} {r : List Field} {off : Nat} (ho : f.offset = off) (hn : P.cellsOf f.type = a.size) (h : ShOK P a f.type) (hr : FsOK P b r (off + a.size)) : FsOK P (.pair a b) (f :: r) off
end
/-- What a number, a list .. that came in is known to be. -/
def Wf : (s : Sh) → s.T → Prop
  | .int k, n => (Lit.int k n).wf = true
  | .bool, _ => True
  | .str, _ => True
  | .unit, _ => True
  | .pair a b, x => Wf a x.1 ∧ Wf b x.2
  | .st a, x => Wf a x
  | .sl e, xs => List.length xs ≤ maxLen ∧ ∀ x, x ∈ xs → Wf e x
  | .ptr _, _ => True
section
variable {H : Type} {enc : TypeId × Value → H} {P : Program} {w : World} {spare : Nat → Bool}
theorem cells_app {a : Addr} {c d : List Value} {n : Nat} (hc : At w a c) (hn : c.length = n) (hd : ∀ i, i < d.length → w.cell? ⟨a.block, a.off + (n + i), none⟩ = d[i]?) : At w a (c ++ d) := by
  intro j v hv
  by_cases h : j < c.length
  · rw [List.getElem?_append_left h] at hv
    exact hc j v hv
  · rw [List.getElem?_append_right (by omega)] at hv
    have hl : j - c.length < d.length := (List.getElem?_eq_some_iff.1 hv).1
    have := hd _ hl
    rw [hv] at this
    rw [← this]
    congr 2
    omega
theorem add_cell {a : Addr} (h : a.spot = none) (n : Nat) : a.add n = ⟨a.block, a.off + n, none⟩ := by
  unfold Addr.add
  split
  · subst_vars
    cases a
    simp_all
  · rfl
theorem rows_of {A : Nat → Prop} {s : Sh} {a : Addr} {u : TypeId} {n : Nat} {D : Nat → DataW H} {Pl : Nat → List MemPlace} (ha : a.spot = none) (hA : A a.block)
    (ih : ∀ cs d ps, DataW.trod enc P w 0 spare true n u cs = some (d, ps) → ∃ x : s.T, PC A w s x cs ∧ Wf s x) :
    ∀ m, (∀ i, i < m → ∃ cs', w.cells? 0 (a.add (i * s.size)) s.size = some cs' ∧ DataW.trod enc P w 0 spare true n u cs' = some (D i, Pl i)) →
      ∃ (xs : List s.T) (cells : List Value), xs.length = m ∧ RowsL (fun x c => PC A w s x c) xs cells ∧ cells.length = m * s.size ∧ At w a cells ∧ ∀ x, x ∈ xs → Wf s x
  | 0, _ => ⟨[], [], rfl, rfl, by simp, fun j v h => by simp at h, fun x h => nomatch h⟩
  | m + 1, h => by
    obtain ⟨xs, cells, h1, h2, h3, h4, h5⟩ := rows_of ha hA ih m fun i hi => h i (by omega)
    obtain ⟨cs', h6, h7⟩ := h m (by omega)
    obtain ⟨x, h8, h9⟩ := ih _ _ _ h7
    obtain ⟨_, h10, h11⟩ := World.cells?_some h6
    refine ⟨xs ++ [x], cells ++ cs', by simp [h1], h2.append ⟨cs', [], by simp, h8, rfl⟩, by rw [List.length_append, h3, h10, Nat.succ_mul], ?_, ?_⟩
    · refine cells_app h4 h3 fun i hi => ?_
      rw [← h11 i (by omega), add_cell ha, add_cell rfl]
      congr 2
      simp
      omega
    · intro y hy
      rw [List.mem_append] at hy
      rcases hy with hy | hy
      · exact h5 y hy
      · simp at hy
        subst hy
        exact h9
theorem fields_of {A : Nat → Prop} {n : Nat} {cs : List Value} (ih : ∀ (s : Sh) (t : TypeId) (cs : List Value) (d : DataW H) (ps : List MemPlace), ShOK P s t → DataW.trod enc P w 0 spare true n t cs = some (d, ps) → ∃ x : s.T, PC A w s x cs ∧ Wf s x) :
    ∀ {fs : List Field} {s : Sh} {off : Nat}, FsOK P s fs off → off + s.size = cs.length → (∀ f, f ∈ fs → ∃ y, DataW.trod enc P w 0 spare true n f.type ((cs.drop f.offset).take (P.cellsOf f.type)) = some y) → ∃ x : s.T, PC A w s x (cs.drop off) ∧ Wf s x
  | _, _, _, .one (f := f) (s := s) ho hn h, hl, hf => by
    obtain ⟨⟨d, ps⟩, hy⟩ := hf f (by simp)
    rw [ho, hn] at hy
    obtain ⟨x, h1, h2⟩ := ih _ _ _ _ _ h hy
    rw [List.take_of_length_le (by simp; omega)] at h1
    exact ⟨x, h1, h2⟩
  | _, _, off, .more (f := f) (a := a) (b := b) ho hn h hr, hl, hf => by
    obtain ⟨⟨d, ps⟩, hy⟩ := hf f (by simp)
    rw [ho, hn] at hy
    obtain ⟨x, h1, h2⟩ := ih _ _ _ _ _ h hy
    have hl' : off + (a.size + b.size) = cs.length := hl
    obtain ⟨y, h3, h4⟩ := fields_of ih hr (by omega) fun f hm => hf f (by simp [hm])
    refine ⟨(x, y), ⟨_, _, ?_, h1, h3⟩, h2, h4⟩
    rw [← List.drop_drop, List.take_append_drop]
theorem open_pc {A : Nat → Prop} (hA : ∀ b, b < w.heap.size → A b) : ∀ (n : Nat) (s : Sh) (t : TypeId) (cs : List Value) (d : DataW H) (ps : List MemPlace), ShOK P s t → DataW.trod enc P w 0 spare true n t cs = some (d, ps) → ∃ x : s.T, PC A w s x cs ∧ Wf s x
  | 0, _, _, _, _, _, _, h => by simp [DataW.trod] at h
  | n + 1, _, t, cs, d, ps, .int (k := k) ht, h => by
    obtain ⟨m, rfl, hx, hw⟩ := DataW.trod_int ht h
    exact ⟨m, rfl, hw⟩
  | n + 1, _, t, cs, d, ps, .sl (u := u) (e := e) ht hn h0 he, h => by
    rcases DataW.trod_slice ht h with ⟨rfl, _⟩ | ⟨a, len, cap, elems, rest, n', hn', rfl, _, _, h1, h2, h3, h4, _, _⟩
    · exact ⟨[], ⟨none, 0, rfl, Nat.le_refl _, fun h => absurd rfl h⟩, Nat.zero_le _, fun x hx => nomatch hx⟩
    · obtain rfl : n' = n := by omega
      by_cases hz : len = 0
      · subst hz
        exact ⟨[], ⟨some a, cap, rfl, Nat.zero_le _, fun h => absurd rfl h⟩, Nat.zero_le _, fun x hx => nomatch hx⟩
      · rw [hn] at h4
        have key : ∀ i, i < len → ∃ cs', w.cells? 0 (a.add (i * e.size)) e.size = some cs' ∧ DataW.trod enc P w 0 spare true n' u cs' = some ((elems.getD i (.nil, [])).1, (elems.getD i (.nil, [])).2) := by
          intro i hi
          have := h4 i hi
          rw [List.getElem?_eq_getElem (by omega)] at this
          obtain ⟨cs', q1, q2⟩ := Option.bind_eq_some_iff.1 this
          refine ⟨cs', q1, ?_⟩
          rw [q2]
          simp [List.getD, List.getElem?_eq_getElem (show i < elems.length by omega)]
        obtain ⟨cs0, q1, _⟩ := key 0 (by omega)
        rw [Nat.zero_mul] at q1
        obtain ⟨_, q2, q3⟩ := World.cells?_some q1
        have q4 := q3 0 h0
        have hsp : a.spot = none := by
          rw [List.getElem?_eq_getElem (by omega)] at q4
          have q5 : w.cell? (a.add 0) = w.cell? a := by simp [Addr.add]
          have q5' : w.cell? ((a.add 0).add 0) = w.cell? a := by simp [Addr.add]
          simp only [World.cell?] at q4
          cases hs : a.spot with
          | none => rfl
          | some x =>
            have e1 : ((a.add 0).add 0) = a := by simp [Addr.add]
            rw [e1, hs] at q4
            split at q4
            · simp at q4
            · cases q4
        have hb : a.block < w.heap.size := by
          have := World.cells?_block q1 h0
          simpa [Addr.add] using this
        obtain ⟨xs, cells, r1, r2, r3, r4, r5⟩ := rows_of (A := A) (s := e) hsp (hA _ hb) (fun cs d ps h => open_pc hA n' e u cs d ps he h) len key
        refine ⟨xs, ⟨some a, cap, by rw [r1], by rw [r1]; exact h1, fun _ => ⟨a, rfl, hsp, hA _ hb, cells, r2, r4⟩⟩, ?_, r5⟩
        rw [r1]
        omega
  | n + 1, _, t, cs, d, ps, .st (s := s) (fs := fs) ht hn hf, h => by
    obtain ⟨xs, n', hn', hx, hl, hlen, hget⟩ := DataW.trod_struct ht h
    obtain rfl : n' = n := by omega
    obtain ⟨x, h1, h2⟩ := fields_of (A := A) (cs := cs) (fun s t cs d ps hs h => open_pc hA n' s t cs d ps hs h) hf (by rw [hl, hn]; omega) (fun f hm => by
      obtain ⟨i, hi⟩ := List.getElem?_of_mem hm
      have := hget i f (by simpa using hi)
      have hi' : i < xs.length := by
        have := (List.getElem?_eq_some_iff.1 hi).1
        simp at this
        omega
      rw [List.getElem?_eq_getElem hi'] at this
      exact ⟨_, this⟩)
    exact ⟨x, by simpa only [List.drop_zero, PC] using h1, h2⟩
/-- A slice that came in. -/
theorem open_sl {A : Nat → Prop} {D : Nat → Prop} {E : Env} (hA : ∀ b, b < w.heap.size → A b) {e : Sh} {t : TypeId} {v : Value} {d : DataW H} {ps : List MemPlace} (hs : ShOK P (.sl e) t)
    (hval : Value.okWide P w .any 0 t v) (h : DataW.Trod enc P w 0 spare true t v d ps) : ∃ xs : List e.T, RepV D E A w (.psl e xs) v ∧ Wf (.sl e) xs := by
  obtain ⟨n, hn⟩ := h
  obtain ⟨u, ht⟩ : ∃ u, P.underlying t = some (.slice u) := by cases hs; exact ⟨_, ‹_›⟩
  obtain ⟨a, len, cap, rfl⟩ := WideShapes.okWide_slice ht hval
  obtain ⟨x, h1, h2⟩ := open_pc (A := A) hA n _ _ _ _ _ hs hn
  exact ⟨x, by simpa only [RepV, Value.cells] using h1, h2⟩
theorem trodAll_grown {W W' : World} (hg : RowKit.Grown W W') : ∀ {ts : List TypeId} {vs : List Value} {ds : List (DataW H)} {p : List MemPlace}, DataW.TrodAll enc P W 0 spare true ts vs ds p → (∀ x, x ∈ p → x.block < W.heap.size) → DataW.TrodAll enc P W' 0 spare true ts vs ds p
  | [], [], [], _, h, _ => h
  | t :: ts, v :: vs, d :: ds, _, ⟨p, q, ⟨n, h1⟩, h2, rfl⟩, hs => by
    refine ⟨p, q, ⟨n, DataW.trod_carry n _ _ _ h1 fun x hx => ?_⟩, trodAll_grown hg h2 fun x hx => hs x (by simp [hx]), rfl⟩
    have := hs x (by simp only [List.mem_append]; exact Or.inl hx)
    cases x with
    | cell b off => exact hg.1.cell this (fun h => h)
    | map b => exact hg.1.block this (fun p hp => hp.elim)
/-- The arguments read as before, behind a call that only makes new blocks. -/
theorem args_again {W W' : World} (K : Kids P (· < P.types.size)) (hz : ∀ t e, t < P.types.size → P.underlying t = some (.slice e) → 0 < P.cellsOf e) (hg : RowKit.Grown W W') {ts : List TypeId} {vs : List Value} {ds : List (DataW H)} {p : List MemPlace}
    (hT : ∀ t, t ∈ ts → t < P.types.size) (h : DataW.TrodAll enc P W 0 (fun _ => true) true ts vs ds p) (sp : Nat → Bool) (hs : ∀ x, x ∈ p → sp x.block = true) : DataW.TrodAll enc P W' 0 sp true ts vs ds p :=
  DataW.TrodAll.respare K hz hT (trodAll_grown hg h h.lt) hs
/-- A table of ints, as a row lays it. -/
theorem tab_list {k : IntKind} {e : TypeId} {m : Nat} (he : P.underlying e = some (.int k)) (hc : P.cellsOf e = 1) : ∀ (tab : List Int) (cs : List Value) (xs : List (DataW H × List MemPlace)), cs.length = tab.length → xs.map (·.1) = tab.map (fun z => DataW.lit (.int k z)) →
    (∀ i, i < tab.length → ∃ (held : Bool), DataW.trod enc P w 0 spare held m e ((cs.drop i).take 1) = xs[i]?) → cs = tab.map (fun z => .int k z)
  | [], cs, xs, h1, _, _ => by simpa using h1
  | z :: t, [], xs, h1, _, _ => by simp at h1
  | z :: t, c :: cs, [], h1, h2, _ => by simp at h2
  | z :: t, c :: cs, x :: xs, h1, h2, h3 => by
    simp only [List.map_cons, List.cons.injEq] at h2
    obtain ⟨held, h0⟩ := h3 0 (by simp)
    simp only [List.drop_zero, List.take_succ_cons, List.take_zero, List.getElem?_cons_zero] at h0
    obtain ⟨n, e1, e2, _⟩ := DataW.trod_int he h0
    have en : n = z := by
      have := h2.1
      rw [e2] at this
      simpa using this
    subst en
    simp only [List.cons.injEq, and_true] at e1
    subst e1
    rw [List.map_cons, ← tab_list he hc t cs xs (by simpa using h1) h2.2 fun i hi => by
      obtain ⟨held, h⟩ := h3 (i + 1) (by simpa using hi)
      exact ⟨held, by simpa using h⟩]
theorem tab_rows {A : Nat → Prop} {w' : World} {k : IntKind} : ∀ tab : List Int, RowsL (fun (x : Int) c => PC A w' (.int k) x c) tab (tab.map (fun z => Value.int k z))
  | [] => rfl
  | z :: t => ⟨[.int k z], t.map (fun z => Value.int k z), rfl, rfl, tab_rows t⟩
/-- What a listed table is to the evaluator. -/
theorem tab_of_laid {A : Nat → Prop} {n : String} {g : Nat} {t e : TypeId} {k : IntKind} {tab : List Int} {ps : List MemPlace} {ds : List (DataW Unit)} (hg : P.globalNamed n = some g) (ht : (P.globals[g]?).map (·.type) = some t)
    (hu : P.underlying t = some (.array tab.length e)) (he : P.underlying e = some (.int k)) (hc : P.cellsOf e = 1) (hct : P.cellsOf t = tab.length) (hd : DataW.agg ds = .agg (tab.map fun z => DataW.lit (.int k z)))
    (h : DataW.LaidVars P w [(n, .agg ds)] ps) : ∃ cells, RowsL (fun (x : Int) c => PC A w (.int k) x c) tab cells ∧ At w ⟨g, 0, none⟩ cells := by
  obtain ⟨g0, t0, cs0, f0, p0, q0, hg0, ht0, hv0, hd0, _, _⟩ := h
  obtain rfl := Option.some.inj (hg.symm.trans hg0)
  obtain rfl := Option.some.inj (ht.symm.trans ht0)
  obtain ⟨xs, m1, rfl, hx1, hlen, hn3, hel⟩ := DataW.trod_array hu hd0
  simp only [Prod.mk.injEq] at hx1
  have hl := tab_list he hc tab cs0.toList xs (by rw [hlen, hct]) (by
    have := hx1.1.symm.trans hd
    simpa using this) fun i hi => ⟨false, by
      have := hel i hi
      rw [hc, Nat.mul_one] at this
      exact this⟩
  refine ⟨_, tab_rows tab, fun j v hj => ?_⟩
  have := World.var?_cell hg hv0 j
  rw [← hl] at hj
  rw [show (⟨(⟨g, 0, none⟩ : Addr).block, (⟨g, 0, none⟩ : Addr).off + j, none⟩ : Addr) = ⟨g, j, none⟩ by simp, this]
  simpa using hj
end
end Go.Rx

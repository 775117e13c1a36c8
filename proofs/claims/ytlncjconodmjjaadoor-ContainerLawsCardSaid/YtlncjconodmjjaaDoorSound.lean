/- Rx, part 21: a code's run comes to what its evaluation says; loops, by their fuel. -/
import Derived.Test.YtlncjconodmjjaaDoorProj
import Derived.Scope
namespace Go.Rx
set_option linter.unusedVariables false
set_option linter.unusedSimpArgs false
def In (C : Ctx) (R : AE × AS → Prop) (e : AE) (a : Act) (w : World) : Prop := ∃ S E, R (e, S) ∧ DecOK S ∧ Bd S ∧ RepE C S E a w
def Post (C : Ctx) (R : AE × AS → Prop) : Exit → Act → World → Prop
  | .normal, a, w => In C R .norm a w
  | .exit id, a, w => In C R (.exit id) a w
  | .ret, a, w => In C R .ret a w
  | _, _, _ => False
theorem In.mono {C : Ctx} {R R' : AE × AS → Prop} {e : AE} {a : Act} {w : World} (h : In C R e a w) (hR : ∀ S, R (e, S) → R' (e, S)) : In C R' e a w := by
  obtain ⟨S, E, h1, h2⟩ := h
  exact ⟨S, E, hR S h1, h2⟩
theorem Post.mono {C : Ctx} {R R' : AE × AS → Prop} (hR : ∀ p, R p → R' p) : ∀ e a w, Post C R e a w → Post C R' e a w
  | .normal, _, _, h => In.mono h fun _ => hR _
  | .exit _, _, _, h => In.mono h fun _ => hR _
  | .ret, _, _, h => In.mono h fun _ => hR _
  | .goto _, _, _, h => h
  | .panic _, _, _, h => h
  | .outgrown, _, _, h => h
def LoopOK (C : Ctx) (G : Gl) (b : Code) : Prop := ∀ S ls y E a w, G.lp (keyOf b) S = some ls → ls.o = some y → DecOK S → Bd S → RepE C S E a w → ∀ R, (ls.tr y).sat R → (Code.loop b).wp C.P (Post C R) a w
theorem bd_dec {S : AS} {dec : List (Nat × Bool)} (h : Bd S) : Bd { S with dec := dec } := h
section
variable {C : Ctx} {G : Gl}
theorem ev_sound (hG : GOK C G) (hmix : C.P.follows .mixedOrders = true) : ∀ (c : Code) {S : AS} {E : Env} {a : Act} {w : World} {R : AE × AS → Prop}, (∀ b, b ∈ loops c → LoopOK C G b) → (ev G c S).sat R → DecOK S → Bd S → RepE C S E a w → c.wp C.P (Post C R) a w := by
  intro c
  induction c with
  | skip => intro S E a w R _ h hd hb hR; exact wp_skip ⟨S, E, h, hd, hb, hR⟩
  | label l => intro S E a w R _ h hd hb hR; exact wp_label ⟨S, E, h, hd, hb, hR⟩
  | ret => intro S E a w R _ h hd hb hR; exact wp_ret ⟨S, E, h, hd, hb, hR⟩
  | exit id => intro S E a w R _ h hd hb hR; exact wp_exit ⟨S, E, h, hd, hb, hR⟩
  | region id ops draw =>
    intro S E a w R _ h hd hb hR
    refine region_ok hG hmix hd hb hR (sat_bnd h) (fun S' E' a' w' q h1 h2 h3 => ⟨S', E', q, h1, h2, h3⟩)
  | seq x y ihx ihy =>
    intro S E a w R hl h hd hb hR
    have h1 := ihx (fun b hb => hl b (by simp [loops, hb])) (sat_bnd h) hd hb hR
    refine wp_seq (wp_mono h1 ?_)
    intro e a' w' q
    cases e with
    | normal =>
      obtain ⟨S', E', q1, q2, q3, q4⟩ := q
      exact ihy (fun b hb => hl b (by simp [loops, hb])) q1 q2 q3 q4
    | exit id => exact In.mono q fun _ h => h
    | ret => exact In.mono q fun _ h => h
    | goto l => exact q
    | panic l => exact q
    | outgrown => exact q
  | cond x t f iht ihf =>
    intro S E a w R hl h hd hb hR
    obtain ⟨b, dec, h1, h2, h3⟩ := withBool_sat hd h
    have hx := hR.ev x
    rw [h2] at hx
    simp only [RepV] at hx
    have hd' : DecOK { S with dec := dec ++ S.dec } := hd.dec fun p hp => (h3 p hp).1
    have hR' : RepE C { S with dec := dec ++ S.dec } E a w := hR.eqv (dec_eqv S _).symm
    refine wp_cond hx ?_
    cases b with
    | true => exact iht (fun b hb => hl b (by simp [loops, hb])) h1 hd' hb hR'
    | false => exact ihf (fun b hb => hl b (by simp [loops, hb])) h1 hd' hb hR'
  | block id b ih =>
    intro S E a w R hl h hd hb hR
    have h1 := ih (fun b hb => hl b (by simpa [loops] using hb)) (sat_bnd h) hd hb hR
    refine wp_block (wp_mono h1 ?_)
    intro e a' w' q
    cases e with
    | normal => exact In.mono q fun _ h => h
    | exit id' =>
      obtain ⟨S', E', q1, q2⟩ := q
      show if id' = id then _ else _
      simp only at q1
      by_cases hid : id' = id
      · rw [if_pos hid]
        have : Nat.beq id' id = true := by simp [hid]
        rw [this] at q1
        exact ⟨S', E', q1, q2⟩
      · rw [if_neg hid]
        have : Nat.beq id' id = false := by rw [Bool.eq_false_iff]; intro q; exact hid (by simpa using q)
        rw [this] at q1
        exact ⟨S', E', q1, q2⟩
    | ret => exact In.mono q fun _ h => h
    | goto l => exact q
    | panic l => exact q
    | outgrown => exact q
  | loop b ih =>
    intro S E a w R hl h hd hb hR
    simp only [ev] at h
    split at h
    · rename_i ls hls
      obtain ⟨y, h1, h2⟩ := h
      exact hl b (by simp [loops]) S ls y E a w hls h1 hd hb hR R h2
    · cases h
  | scope b ih =>
    intro S E a w R hl h hd hb hR
    refine wp_scope_straight (wp_mono (ih (fun b hb => hl b (by simpa [loops] using hb)) h hd hb hR) ?_)
    intro e a' w' q
    cases e <;> exact q
  | rangeFunc f ps x y _ _ => intro S E a w R _ h; exact h.elim
  | goto l => intro S E a w R _ h; exact h.elim
  | refuse why => intro S E a w R _ h; exact h.elim
theorem den_sat {α R : Type} {L : α → Option R} {y : R} : ∀ {t : Tree α}, t.den L = some y → t.sat (fun a => L a = some y)
  | .leaf a, h => h
  | .br b t e, h => by
    cases b with
    | true => exact .inl ⟨rfl, den_sat h⟩
    | false => exact .inr ⟨rfl, den_sat h⟩
  | .chk b t, h => by
    cases b with
    | true => exact ⟨rfl, den_sat h⟩
    | false => cases h
  | .bind ρ o k, h => by
    cases o with
    | none => cases h
    | some r => exact ⟨r, rfl, den_sat h⟩
  | .alt β γ z k k', h => by
    cases z with
    | inl r => exact .inl ⟨r, rfl, den_sat h⟩
    | inr r => exact .inr ⟨r, rfl, den_sat h⟩
  | .fail, h => by cases h
theorem exTr_sat {R : AE × AS → Prop} : ∀ {l : List (AE × Descr)} {y : exT l}, (exTr l y).sat R → R (exOut l y)
  | [], y, _ => nomatch y
  | [p], y, h => h
  | p :: q :: r, y, h => by
    rcases h with ⟨z, h1, h2⟩ | ⟨z, h1, h2⟩
    · subst h1; exact h2
    · subst h1; exact exTr_sat (l := q :: r) h2
theorem projT_ok {D : Descr} {S : AS} {E : Env} {a : Act} {w : World} {x : tupT D.shs} (h : projT D C.m S = some x) (hR : RepE C S E a w) :
    ∃ E', RepE C (head D (ofTup D.shs x)) E' a w ∧ DecOK (head D (ofTup D.shs x)) ∧ Bd (head D (ofTup D.shs x)) := by
  unfold projT at h
  split at h
  · rename_i l hl
    rw [ofTup_toTup h]
    unfold proj at hl
    split at hl
    · cases hl
    · rename_i ids hids
      split at hl
      · rename_i d1 v1 d2 v2 h1 h2
        split at hl
        · rename_i q1 q2 q3
          cases hl
          obtain ⟨E', _, r1, r2⟩ := head_ok hR h1 h2 (fun id i j => nodupO_inj q1 i j) (pinned_get q2) (fun id hid => (apartO_get q3 id hid).1)
          exact ⟨E', r1, fun p hp => (by cases hp), r2⟩
        · cases hl
      · cases hl
  · cases h
theorem beqE_eq {e e' : AE} (h : beqE e e' = true) : e = e' := by
  cases e <;> cases e' <;> simp [beqE] at h <;> simp [h]
theorem exProj_ok {S : AS} {E : Env} {a : Act} {w : World} {e : AE} (hR : RepE C S E a w) : ∀ {l : List (AE × Descr)} {y : exT l}, exProj C.m l e S = some y →
    ∃ S' E', exOut l y = (e, S') ∧ RepE C S' E' a w ∧ DecOK S' ∧ Bd S'
  | [], y, h => nomatch y
  | [p], y, h => by
    simp only [exProj] at h
    split at h
    · rename_i hb
      obtain ⟨E', r⟩ := projT_ok h hR
      exact ⟨_, E', by simp only [exOut, beqE_eq hb], r⟩
    · cases h
  | p :: q :: r, y, h => by
    simp only [exProj] at h
    split at h
    · rename_i hb
      split at h
      · rename_i z hz
        cases h
        obtain ⟨E', r⟩ := projT_ok hz hR
        exact ⟨_, E', by simp only [exOut, beqE_eq hb], r⟩
      · cases h
    · split at h
      · rename_i z hz
        cases h
        obtain ⟨S', E', r1, r2⟩ := exProj_ok hR hz
        exact ⟨S', E', by simpa only [exOut] using r1, r2⟩
      · cases h
theorem least {p : Nat → Prop} (h : ∃ k, p k) : ∃ k, p k ∧ ∀ j, p j → k ≤ j := by
  obtain ⟨k, hk⟩ := h
  induction k using Nat.strongRecOn with
  | _ k ih =>
    by_cases q : ∃ j, j < k ∧ p j
    · obtain ⟨j, h1, h2⟩ := q
      exact ih j h1 h2
    · exact ⟨k, hk, fun j hj => Nat.le_of_not_lt fun hlt => q ⟨j, hlt, hj⟩⟩
theorem wp_loop_fuel {P : Program} {Q : Exit → Act → World → Prop} {b : Code} (J : Nat → Act → World → Prop) (h0 : ∀ a w, ¬ J 0 a w)
    (round : ∀ k a w, J (k + 1) a w → b.wp P (Exit.then (J k) Q) a w) {k : Nat} {a : Act} {w : World} (h : J k a w) : (Code.loop b).wp P Q a w := by
  classical
  let μ : Act → World → Nat := fun a w => if h : ∃ k, J k a w then (least h).choose else 0
  have hμ : ∀ a w, (∃ k, J k a w) → J (μ a w) a w ∧ ∀ j, J j a w → μ a w ≤ j := by
    intro a w h
    simp only [μ, dif_pos h]
    exact (least h).choose_spec
  refine wp_loop (fun a w => ∃ k, J k a w) μ ⟨k, h⟩ (fun a w hI => ?_)
  obtain ⟨h1, h2⟩ := hμ a w hI
  cases hk : μ a w with
  | zero => rw [hk] at h1; exact absurd h1 (h0 a w)
  | succ n =>
    rw [hk] at h1
    refine wp_mono (round n a w h1) ?_
    intro e a' w' q
    cases e with
    | normal =>
      refine ⟨⟨n, q⟩, ?_⟩
      have := (hμ a' w' ⟨n, q⟩).2 n q
      omega
    | exit id => exact q
    | ret => exact q
    | goto l => exact q
    | panic l => exact q
    | outgrown => exact q
theorem loop_ok (hmix : C.P.follows .mixedOrders = true) {b : Code} {hd : Descr} {ex : List (AE × Descr)} {F : Nat → tupT hd.shs → Option (exT ex)} {Gk : Nat → Gl} (hG : ∀ k, GOK C (Gk k))
    (hin : ∀ k b', b' ∈ loops b → LoopOK C (Gk k) b') (hF0 : ∀ x, F 0 x = none)
    (hF : ∀ k x, F (k + 1) x = (ev (Gk k) b (head hd (ofTup hd.shs x))).den (roundEnd C.m ⟨hd, ex, F k⟩)) (k : Nat) {S : AS} {E : Env} {a : Act} {w : World} {x : tupT hd.shs} {y : exT ex}
    (hx : projT hd C.m S = some x) (hy : F k x = some y) (hR : RepE C S E a w) : (Code.loop b).wp C.P (Post C (· = exOut ex y)) a w := by
  let J : Nat → Act → World → Prop := fun k a w => ∃ x E, F k x = some y ∧ RepE C (head hd (ofTup hd.shs x)) E a w ∧ DecOK (head hd (ofTup hd.shs x)) ∧ Bd (head hd (ofTup hd.shs x))
  have start : J k a w := by
    obtain ⟨E', r⟩ := projT_ok hx hR
    exact ⟨x, E', hy, r⟩
  refine wp_loop_fuel J (fun a w ⟨x, E, h, _⟩ => by rw [hF0] at h; cases h) (fun k a w h => ?_) start
  obtain ⟨x, E, h1, h2, h3, h4⟩ := h
  rw [hF] at h1
  refine wp_mono (ev_sound (hG k) hmix b (hin k) (den_sat h1) h3 h4 h2) ?_
  intro e a' w' q
  cases e with
  | normal =>
    obtain ⟨S', E', q1, q2, q3, q4⟩ := q
    simp only [roundEnd] at q1
    cases hp : projT hd C.m S' with
    | none => rw [hp] at q1; cases q1
    | some x' =>
      rw [hp] at q1
      obtain ⟨E'', r⟩ := projT_ok hp q4
      exact ⟨x', E'', q1, r⟩
  | exit id =>
    obtain ⟨S', E', q1, q2, q3, q4⟩ := q
    obtain ⟨S2, E2, r1, r2, r3, r4⟩ := exProj_ok q4 (show exProj C.m ex (.exit id) S' = some y from q1)
    exact ⟨S2, E2, r1.symm, r3, r4, r2⟩
  | ret =>
    obtain ⟨S', E', q1, q2, q3, q4⟩ := q
    obtain ⟨S2, E2, r1, r2, r3, r4⟩ := exProj_ok q4 (show exProj C.m ex .ret S' = some y from q1)
    exact ⟨S2, E2, r1.symm, r3, r4, r2⟩
  | goto l => exact q
  | panic l => exact q
  | outgrown => exact q
/-- A loop's entry in the table. -/
theorem LoopOK.of (hmix : C.P.follows .mixedOrders = true) {b : Code} {hd : Descr} {ex : List (AE × Descr)} {F : Nat → tupT hd.shs → Option (exT ex)} {Gk : Nat → Gl} (hG : ∀ k, GOK C (Gk k))
    (hin : ∀ k b', b' ∈ loops b → LoopOK C (Gk k) b') (hF0 : ∀ x, F 0 x = none)
    (hF : ∀ k x, F (k + 1) x = (ev (Gk k) b (head hd (ofTup hd.shs x))).den (roundEnd C.m ⟨hd, ex, F k⟩)) (k : Nat) (hlp : ∀ S, (G.lp (keyOf b) S) = LSig.ls C.m ⟨hd, ex, F k⟩ S) : LoopOK C G b := by
  intro S ls y E a w h1 h2 h3 h4 h5 R hR
  rw [hlp] at h1
  unfold LSig.ls at h1
  split at h1
  · cases h1
  · rename_i x hx
    cases h1
    exact wp_mono (loop_ok hmix hG hin hF0 hF k hx h2 h5) (Post.mono fun p hp => by rw [hp]; exact exTr_sat hR)
end
end Go.Rx

/- Rx, part 18: a region, in any order that its edges allow, comes to what its own order comes to. -/
import Derived.Test.YtlncjconodmjjaaDoorReg
namespace Go.Rx
set_option linter.unusedVariables false
set_option linter.unusedSimpArgs false
def mst (m : Nat → Bool) : List Oper → List (Option Eff) → Nat → AS → AS
  | o :: r, e :: es, i, S => mst m r es (i + 1) (match m i with | true => S.doneBy o e | false => S)
  | [], _, _, S => S
  | _ :: _, [], _, S => S
theorem mst_nil (m : Nat → Bool) (l : List Oper) (i : Nat) (S : AS) : mst m l [] i S = S := by cases l <;> rfl
theorem mst_get {m m' : Nat → Bool} {t : Nat} : ∀ {l : List Oper} {es : List (Option Eff)} {i : Nat} {S S' : AS}, S.get t = S'.get t →
    (∀ k o, l[k]? = some o → o.dst = some t → m (i + k) = m' (i + k)) → (mst m l es i S).get t = (mst m' l es i S').get t
  | [], es, i, S, S', h, _ => h
  | o :: r, [], i, S, S', h, _ => h
  | o :: r, e :: es, i, S, S', h, hm => by
    show (mst m r es (i + 1) _).get t = (mst m' r es (i + 1) _).get t
    refine mst_get ?_ (fun k o' h1 h2 => by have := hm (k + 1) o' (by simpa using h1) h2; rwa [show i + (k + 1) = i + 1 + k by omega] at this)
    by_cases q : o.dst = some t
    · have := hm 0 o rfl q
      rw [show m i = m' i from this]
      cases m' i
      · exact h
      · show (S.doneBy o e).get t = (S'.doneBy o e).get t
        rw [get_doneBy, get_doneBy, if_pos q, if_pos q]
    · have h1 : ∀ (b : Bool) (S : AS), (match b with | true => S.doneBy o e | false => S).get t = S.get t := by
        intro b S
        cases b
        · rfl
        · show (S.doneBy o e).get t = _
          rw [get_doneBy, if_neg q]
      rw [h1, h1, h]
theorem mst_obj {m m' : Nat → Bool} {id : Nat} : ∀ {l : List Oper} {es : List (Option Eff)} {i : Nat} {S S' : AS}, S.obj id = S'.obj id →
    (∀ k e, es[k]? = some e → k < l.length → id ∈ wids e → m (i + k) = m' (i + k)) → (mst m l es i S).obj id = (mst m' l es i S').obj id
  | [], es, i, S, S', h, _ => h
  | o :: r, [], i, S, S', h, _ => h
  | o :: r, e :: es, i, S, S', h, hm => by
    show (mst m r es (i + 1) _).obj id = (mst m' r es (i + 1) _).obj id
    refine mst_obj ?_ (fun k e' h1 h2 h3 => by have := hm (k + 1) e' (by simpa using h1) (by simpa using h2) h3; rwa [show i + (k + 1) = i + 1 + k by omega] at this)
    by_cases q : id ∈ wids e
    · have := hm 0 e rfl (by simp) q
      rw [show m i = m' i from this]
      cases m' i
      · exact h
      · exact obj_doneBy_mem q
    · have h1 : ∀ (b : Bool) (S : AS), (match b with | true => S.doneBy o e | false => S).obj id = S.obj id := by
        intro b S
        cases b
        · rfl
        · exact obj_doneBy_ne q
      rw [h1, h1, h]
theorem mst_none {m : Nat → Bool} : ∀ {l : List Oper} {es : List (Option Eff)} {i : Nat} {S : AS}, (∀ k, m (i + k) = false) → mst m l es i S = S
  | [], es, i, S, _ => rfl
  | o :: r, [], i, S, _ => rfl
  | o :: r, e :: es, i, S, h => by
    show mst m r es (i + 1) _ = S
    rw [mst_none (fun k => by have := h (k + 1); rwa [show i + (k + 1) = i + 1 + k by omega] at this)]
    rw [show m i = false from h 0]
theorem mst_all {m : Nat → Bool} : ∀ {l : List Oper} {es : List (Option Eff)} {i : Nat} {S : AS}, (∀ k, k < l.length → m (i + k) = true) → mst m l es i S = fin l es S
  | [], es, i, S, _ => by cases es <;> rfl
  | o :: r, [], i, S, _ => rfl
  | o :: r, e :: es, i, S, h => by
    show mst m r es (i + 1) _ = fin r es (S.doneBy o e)
    rw [mst_all (fun k hk => by have := h (k + 1) (by simpa using hk); rwa [show i + (k + 1) = i + 1 + k by omega] at this)]
    rw [show m i = true from h 0 (by simp)]
def upto (n : Nat) (x : Nat) : Bool := decide (x < n)
theorem mst_step : ∀ {l : List Oper} {es : List (Option Eff)} {i k : Nat} {S : AS} {o : Oper} {e : Option Eff}, l[k]? = some o → es[k]? = some e →
    mst (upto (i + k + 1)) l es i S = (mst (upto (i + k)) l es i S).doneBy o e
  | [], es, i, k, S, o, e, h, _ => by cases h
  | o' :: r, [], i, k, S, o, e, _, h => by cases h
  | o' :: r, e' :: es, i, 0, S, o, e, h1, h2 => by
    cases h1; cases h2
    show mst _ r es (i + 1) _ = (mst _ r es (i + 1) _).doneBy o' e'
    rw [mst_none (fun k => by simp [upto]), mst_none (fun k => by simp [upto]; omega)]
    rw [show upto (i + 0 + 1) i = true by simp [upto], show upto (i + 0) i = false by simp [upto]]
  | o' :: r, e' :: es, i, k + 1, S, o, e, h1, h2 => by
    show mst _ r es (i + 1) _ = (mst _ r es (i + 1) _).doneBy o e
    rw [show upto (i + (k + 1) + 1) i = true by simp [upto]; omega, show upto (i + (k + 1)) i = true by simp [upto], show i + (k + 1) = i + 1 + k by omega]
    exact mst_step (by simpa using h1) (by simpa using h2)
theorem plan_len {G : Gl} {all : Array Oper} {nid0 : Nat} : ∀ {l : List Oper} {i : Nat} {S : AS} {es : List (Option Eff)}, Plan G all nid0 l i S es → es.length = l.length
  | [], _, _, _, h => by rw [show _ = [] from h]; rfl
  | o :: r, i, S, es, h => by
    obtain ⟨e, es', h1, h2, h3⟩ := h
    subst h1
    simp [plan_len h3]
theorem plan_get {G : Gl} {all : Array Oper} {nid0 : Nat} : ∀ {l : List Oper} {i k : Nat} {S : AS} {es : List (Option Eff)} {o : Oper}, Plan G all nid0 l i S es → l[k]? = some o →
    ∃ e, es[k]? = some e ∧ DidOK G all nid0 (nid0 + 4 * (i + k)) (mst (upto (i + k)) l es i S) o e
  | [], _, _, _, _, _, _, h => by cases h
  | o' :: r, i, 0, S, es, o, h, hk => by
    obtain ⟨e, es', h1, h2, h3⟩ := h
    subst h1
    cases hk
    refine ⟨e, rfl, ?_⟩
    rw [mst_none (fun k => by simp [upto])]
    exact h2
  | o' :: r, i, k + 1, S, es, o, h, hk => by
    obtain ⟨e, es', h1, h2, h3⟩ := h
    subst h1
    obtain ⟨e1, q1, q2⟩ := plan_get (k := k) h3 (by simpa using hk)
    refine ⟨e1, by simpa using q1, ?_⟩
    show DidOK G all nid0 _ (mst _ r es' (i + 1) _) o e1
    rw [show upto (i + (k + 1)) i = true by simp [upto], show i + (k + 1) = i + 1 + k by omega]
    exact q2
theorem doneBy_dec {S : AS} (o : Oper) (e : Option Eff) (h : S.dec = []) : (S.doneBy o e).dec = [] := by
  have : ∀ (S : AS) (d : Option Nat) (v : AV), S.dec = [] → (S.put d v).dec = [] := by
    intro S d v h
    cases d with
    | none => exact h
    | some d => show strike d S.dec = []; rw [h]; rfl
  cases e with
  | none => exact this S _ _ h
  | some e => exact this (S.setObjs e.ws) _ _ h
theorem mst_dec {m : Nat → Bool} : ∀ {l : List Oper} {es : List (Option Eff)} {i : Nat} {S : AS}, S.dec = [] → (mst m l es i S).dec = []
  | [], es, i, S, h => h
  | o :: r, [], i, S, h => h
  | o :: r, e :: es, i, S, h => by
    show (mst m r es (i + 1) _).dec = []
    apply mst_dec
    cases m i
    · exact h
    · exact doneBy_dec o e h

theorem tmpsOf_mem {t : Nat} : ∀ {l : List Operand}, Operand.tmp t ∈ l → t ∈ tmpsOf l
  | [], h => by cases h
  | x :: r, h => by
    rcases List.mem_cons.1 h with h | h
    · subst h; simp [tmpsOf]
    · have := tmpsOf_mem h
      cases x <;> simp [tmpsOf, this]
section
variable {C : Ctx} {S T : AS} {E : Env} {a : Act} {w : World} {G : Gl} {ops : Array Oper} {nid0 nid i : Nat}
theorem step_ok (hG : GOK C G) (hT : RepE C T E a w) (hTd : T.dec = []) (hf : ∀ j, j < 4 → T.obj (nid + j) = none) {o : Oper} (hi : ops[i]? = some o) {e : Option Eff}
    (did : DidOK G ops nid0 nid S o e) (ht : ∀ t, t ∈ looks ops o → T.get t = S.get t) (ho : ∀ e', e = some e' → ∀ id, id ∈ e'.rd → T.obj id = S.obj id)
    {K : Act → World → Prop} {Q : Exit → Act → World → Prop} (hK : ∀ E' a' w', RepE C (T.doneBy o e) E' a' w' → K a' w') : wpOp C.P ops Q i K a w := by
  have hw : Region.wanted o (yielded ops a.tmps) = e.isSome := by
    have hg := did.guard
    unfold Region.wanted
    split at hg
    · rename_i hn; rw [hn]; exact hg.symm
    · rename_i j want hn
      rw [hn]
      obtain ⟨t, h1, h2⟩ := hg
      have hl : T.get t = S.get t := ht t (by simp [looks, hn, h1])
      have h5 := hT.t t
      rw [hl] at h5
      show (yielded ops a.tmps j == some want) = _
      unfold yielded
      rw [show (ops[j]?).bind (·.dst) = some t from h1]
      show ((match a.tmps[t]? with | some (.bool b) => some b | _ => none) == some want) = _
      rw [Array.getD_eq_getD_getElem?] at h5
      rcases h2 with ⟨c, h2, h3⟩ | ⟨h2, h3⟩
      · rw [h2] at h5
        simp only [RepV] at h5
        have h6 : a.tmps[t]? = some (.bool c) := by
          cases hq : a.tmps[t]? with
          | none => rw [hq] at h5; cases h5
          | some v => rw [hq] at h5; exact congrArg some h5
        rw [h6, ← h3]
        cases c <;> cases want <;> rfl
      · rw [h2] at h5
        simp only [RepV] at h5
        subst h3
        cases hq : a.tmps[t]? with
        | none => rfl
        | some v =>
          rw [hq] at h5
          have : v = undef := h5
          subst this
          rfl
  unfold wpOp
  rw [hi]
  simp only [hw]
  cases e with
  | none => exact hK E _ w (hT.put (by simp [RepV]) (.inr (.inr ⟨rfl, rfl⟩)))
  | some e =>
    obtain ⟨h1, h2, S', h3, h4, h5⟩ := did.run e rfl
    have hTd' : DecOK T := by intro p hp; rw [hTd] at hp; cases hp
    obtain ⟨e', q1, q2, q3⟩ := op_agree (S' := T) h4 hTd' h5 (fun x hx => ev_agree fun t hxt => by
      subst hxt
      rw [h3.g, ht t (by unfold looks; exact List.mem_append_left _ (tmpsOf_mem (by simpa using hx)))]) (fun id hid => by rw [h3.o]; exact ho e rfl id hid)
    refine if_pos rfl ▸ .inl ?_
    refine op_ok hG hTd' hT hf q1 _ _ (fun x w' E' r1 r2 => hK E' _ w' ?_)
    have := r1.put (dst := o.dst) r2 (.inl (by rw [← hG.n]; exact h1))
    show RepE C (AS.aft T o.dst e) E' _ w'
    unfold AS.aft
    rw [← q2, ← q3]
    exact this
end
end Go.Rx

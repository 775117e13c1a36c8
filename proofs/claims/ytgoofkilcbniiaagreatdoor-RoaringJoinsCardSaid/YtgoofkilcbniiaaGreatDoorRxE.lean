/- RxE: texts of one kind, laid side by side. -/
import Derived.Test.YtgoofkilcbniiaaGreatDoorRxD
import Derived.Orders
import Derived.Test.YtgoofkilcbniiaaGreatDoorRxA
/-! Rx, part 17: a region, in its own order or in any order that its edges allow. -/
namespace Go.Rx
set_option linter.unusedVariables false
set_option linter.unusedSimpArgs false
theorem sat_bnd {α β : Type} {f : α → Tree β} {Q : β → Prop} : ∀ {t : Tree α}, (t.bnd f).sat Q → t.sat (fun a => (f a).sat Q)
  | .leaf _, h => h
  | .br _ _ _, h => by
    rcases h with ⟨h1, h2⟩ | ⟨h1, h2⟩
    · exact .inl ⟨h1, sat_bnd h2⟩
    · exact .inr ⟨h1, sat_bnd h2⟩
  | .chk _ _, h => ⟨h.1, sat_bnd h.2⟩
  | .bind _ _ _, h => by
    obtain ⟨r, h1, h2⟩ := h
    exact ⟨r, h1, sat_bnd h2⟩
  | .alt _ _ _ _ _, h => by
    rcases h with ⟨r, h1, h2⟩ | ⟨r, h1, h2⟩
    · exact .inl ⟨r, h1, sat_bnd h2⟩
    · exact .inr ⟨r, h1, sat_bnd h2⟩
  | .amb _ _, h => ⟨sat_bnd h.1, sat_bnd h.2⟩
  | .fail, h => h
theorem sat_ex {α : Type} {Q : α → Prop} : ∀ {t : Tree α}, t.strip.sat Q → ∃ a, Q a ∧ t.sat (· = a)
  | .leaf a, h => ⟨a, h, rfl⟩
  | .br _ _ _, h => by
    rcases h with ⟨h1, h2⟩ | ⟨h1, h2⟩
    · obtain ⟨a, q, r⟩ := sat_ex h2; exact ⟨a, q, .inl ⟨h1, r⟩⟩
    · obtain ⟨a, q, r⟩ := sat_ex h2; exact ⟨a, q, .inr ⟨h1, r⟩⟩
  | .chk _ _, h => by
    obtain ⟨a, q, r⟩ := sat_ex h.2; exact ⟨a, q, h.1, r⟩
  | .bind _ _ _, h => by
    obtain ⟨r, h1, h2⟩ := h
    obtain ⟨a, q, s⟩ := sat_ex h2; exact ⟨a, q, r, h1, s⟩
  | .alt _ _ _ _ _, h => by
    rcases h with ⟨r, h1, h2⟩ | ⟨r, h1, h2⟩
    · obtain ⟨a, q, s⟩ := sat_ex h2; exact ⟨a, q, .inl ⟨r, h1, s⟩⟩
    · obtain ⟨a, q, s⟩ := sat_ex h2; exact ⟨a, q, .inr ⟨r, h1, s⟩⟩
  | .amb _ _, h => h.elim
  | .fail, h => h.elim

structure Eqv (S S' : AS) : Prop where
  g : ∀ t, S.get t = S'.get t
  o : ∀ id, S.obj id = S'.obj id
theorem Eqv.refl (S : AS) : Eqv S S := ⟨fun _ => rfl, fun _ => rfl⟩
theorem Eqv.symm {S S' : AS} (h : Eqv S S') : Eqv S' S := ⟨fun t => (h.g t).symm, fun id => (h.o id).symm⟩
theorem Eqv.trans {S S' S'' : AS} (h : Eqv S S') (h' : Eqv S' S'') : Eqv S S'' := ⟨fun t => (h.g t).trans (h'.g t), fun id => (h.o id).trans (h'.o id)⟩
section
variable {C : Ctx} {S S' : AS} {E : Env} {a : Act} {w : World} {G : Gl}
theorem RepE.eqv (h : RepE C S E a w) (q : Eqv S S') : RepE C S' E a w := by
  have ho : S.obj = S'.obj := funext q.o
  have hg : S.get = S'.get := funext q.g
  have hD : Dom S = Dom S' := by funext id; simp [Dom, ho]
  have hA : Al C S E w = Al C S' E w := by funext b; simp [Al, ho]
  refine ⟨h.n, h.d, ⟨h.h.a0, h.h.gl, h.h.lat, h.h.keep, ?_, ?_, ?_, ?_⟩, ?_⟩
  · intro i hi; rw [← ho]; exact h.h.pin i hi
  · rw [← ho]; exact h.h.fresh
  · rw [← ho]; exact h.h.inj
  · rw [← ho, ← hD, ← hA]; exact h.h.objs
  · rw [← hg, ← hD, ← hA]; exact h.t
theorem RepE.heap {w' : World} (h : RepE C S E a w) (q : w'.heap = w.heap) (ql : Later w w') : RepE C S E a w' := by
  refine (RepE.step (S' := S) (E' := E) h (fun _ => rfl) ql (fun b _ _ => by rw [q]) (fun id hd => ⟨hd, rfl, rfl, rfl⟩) (fun b _ _ hb => hb) (fun b _ => by rw [q]) (fun _ id o ho => .inl ⟨ho, fun _ => by rw [q]⟩) h.h.inj).1
theorem get_putN (S : AS) (v : AV) (t : Nat) : (S.put none v).get t = S.get t := rfl
theorem RepE.put (h : RepE C S E a w) {dst : Option Nat} {v : AV} {x : Value} (hx : RepV (Dom S) E (Al C S E w) w v x) (hd : dstOK C.N dst = true ∨ v = .unk ∨ (v = .undef ∧ x = undef)) : RepE C (S.put dst v) E (a.put dst x) w := by
  cases dst with
  | none => exact h
  | some d =>
    have ho : ∀ id, (S.put (some d) v).obj id = S.obj id := obj_put S (some d) v
    have h1 : RepE C (S.put (some d) v) E (a.put (some d) x) w ↔ ((a.tmps.setIfInBounds d x).size = C.N ∧ a.defers = [] ∧ ∀ t, RepV (Dom S) E (Al C S E w) w ((S.put (some d) v).get t) ((a.tmps.setIfInBounds d x).getD t undef)) := by
      have ho' : (S.put (some d) v).obj = S.obj := funext ho
      have hD : Dom (S.put (some d) v) = Dom S := by funext id; simp [Dom, ho']
      have hA : Al C (S.put (some d) v) E w = Al C S E w := by funext b; simp [Al, ho']
      constructor
      · intro q
        refine ⟨q.n, q.d, fun t => ?_⟩
        have := q.t t
        rw [hD, hA] at this
        exact this
      · intro ⟨q1, q2, q3⟩
        refine ⟨q1, q2, ⟨h.h.a0, h.h.gl, h.h.lat, h.h.keep, ?_, ?_, ?_, ?_⟩, ?_⟩
        · intro i hi; rw [ho']; exact h.h.pin i hi
        · rw [ho']; exact h.h.fresh
        · rw [ho']; exact h.h.inj
        · rw [ho', hD, hA]; exact h.h.objs
        · rw [hD, hA]; exact q3
    refine h1.2 ⟨by simpa using h.n, h.d, fun t => ?_⟩
    rw [get_put]
    by_cases ht : t = d
    · subst ht
      rw [if_pos rfl]
      rcases hd with hd | hd
      · have : t < a.tmps.size := by rw [h.n]; simpa [dstOK, Nat.blt_eq] using hd
        simpa [Array.getD_eq_getD_getElem?, Array.getElem?_setIfInBounds, this] using hx
      · rcases hd with hd | ⟨hd, hx'⟩
        · subst hd; simp [RepV]
        · subst hd; subst hx'
          have : (a.tmps.setIfInBounds t undef).getD t undef = undef := by
            simp only [Array.getD_eq_getD_getElem?, Array.getElem?_setIfInBounds]
            split <;> (try split) <;> simp_all
          rw [this]
          simp [RepV]
    · rw [if_neg ht]
      have : (a.tmps.setIfInBounds d x).getD t undef = a.tmps.getD t undef := by
        simp [Array.getD_eq_getD_getElem?, Array.getElem?_setIfInBounds, Ne.symm ht]
      rw [this]
      exact h.t t
end

def AS.doneBy (S : AS) (o : Oper) : Option Eff → AS
  | some e => S.aft o.dst e
  | none => S.put o.dst .undef
theorem get_aft (S : AS) (d : Option Nat) (e : Eff) (t : Nat) : (S.aft d e).get t = if d = some t then e.v else S.get t := by
  cases d with
  | none => rfl
  | some d =>
    show ((S.setObjs e.ws).put (some d) e.v).get t = _
    rw [get_put, get_setObjs]
    by_cases h : t = d
    · simp [h]
    · simp [h, Ne.symm h]
theorem obj_aft (S : AS) (d : Option Nat) (e : Eff) (id : Nat) : (S.aft d e).obj id = (S.setObjs e.ws).obj id := obj_put _ _ _ _
theorem get_doneBy (S : AS) (o : Oper) (e : Option Eff) (t : Nat) : (S.doneBy o e).get t = if o.dst = some t then (match e with | some e => e.v | none => .undef) else S.get t := by
  cases e with
  | some e => exact get_aft S o.dst e t
  | none =>
    show (S.put o.dst .undef).get t = _
    cases h : o.dst with
    | none => simp; rfl
    | some d =>
      rw [get_put]
      by_cases h : t = d
      · simp [h]
      · simp [h, Ne.symm h]
def wids : Option Eff → List Nat
  | some e => e.ws.map (·.1)
  | none => []
theorem look_app {α : Type} : ∀ (l l' : List (Nat × α)) (n : Nat), look (l ++ l') n = match look l n with | some v => some v | none => look l' n
  | [], _, _ => rfl
  | p :: l, l', n => by
    obtain ⟨k, v⟩ := p
    rw [List.cons_append, look_cons, look_cons]
    split
    · rfl
    · exact look_app l l' n
theorem look_none {α : Type} : ∀ {l : List (Nat × α)} {n : Nat}, n ∉ l.map (·.1) → look l n = none
  | [], _, _ => rfl
  | p :: l, n, h => by
    obtain ⟨k, v⟩ := p
    rw [look_cons, if_neg (by intro q; exact h (by simp [q])), look_none (by intro q; exact h (by simp [q]))]
theorem look_some {α : Type} : ∀ {l : List (Nat × α)} {n : Nat}, n ∈ l.map (·.1) → ∃ v, look l n = some v
  | [], _, h => by cases h
  | p :: l, n, h => by
    obtain ⟨k, v⟩ := p
    rw [look_cons]
    by_cases q : n = k
    · exact ⟨v, by simp [q]⟩
    · rw [if_neg q]
      exact look_some (by simpa [q] using h)
theorem obj_doneBy (S : AS) (o : Oper) (e : Option Eff) (id : Nat) : (S.doneBy o e).obj id = match e with | some e => (match look e.ws id with | some v => some v | none => S.obj id) | none => S.obj id := by
  cases e with
  | some e =>
    show (S.aft o.dst e).obj id = _
    rw [obj_aft]
    show look (e.ws ++ S.h) id = _
    rw [look_app]
    show _ = (match look e.ws id with | some v => some v | none => S.obj id)
    cases look e.ws id <;> rfl
  | none => exact obj_put _ _ _ _
theorem obj_doneBy_ne {S : AS} {o : Oper} {e : Option Eff} {id : Nat} (h : id ∉ wids e) : (S.doneBy o e).obj id = S.obj id := by
  rw [obj_doneBy]
  cases e with
  | some e => simp only [look_none (show id ∉ e.ws.map (·.1) from h)]
  | none => rfl
theorem obj_doneBy_mem {S S' : AS} {o : Oper} {e : Option Eff} {id : Nat} (h : id ∈ wids e) : (S.doneBy o e).obj id = (S'.doneBy o e).obj id := by
  rw [obj_doneBy, obj_doneBy]
  cases e with
  | some e => obtain ⟨v, hv⟩ := look_some (show id ∈ e.ws.map (·.1) from h); simp only [hv]
  | none => cases h
theorem Eqv.doneBy {S S' : AS} (h : Eqv S S') (o : Oper) (e : Option Eff) : Eqv (S.doneBy o e) (S'.doneBy o e) := by
  refine ⟨fun t => ?_, fun id => ?_⟩
  · rw [get_doneBy, get_doneBy, h.g]
  · rw [obj_doneBy, obj_doneBy, h.o]

structure DidOK (G : Gl) (all : Array Oper) (nid0 nid : Nat) (S : AS) (o : Oper) (e : Option Eff) : Prop where
  guard : match o.guard with | none => e.isSome = true | some (j, want) => ∃ t, guardTmp all j = some t ∧ ((∃ c, S.get t = .bool c ∧ (c == want) = e.isSome) ∨ (S.get t = .undef ∧ e = none))
  run : ∀ e', e = some e' → dstOK G.n o.dst = true ∧ wsOK nid e'.ws = true ∧ ∃ S', Eqv S' S ∧ DecOK S' ∧ (evOp G S' nid o.op).sat (· = e')
def Plan (G : Gl) (all : Array Oper) (nid0 : Nat) : List Oper → Nat → AS → List (Option Eff) → Prop
  | [], _, _, es => es = []
  | o :: r, i, S, es => ∃ e es', es = e :: es' ∧ DidOK G all nid0 (nid0 + 4 * i) S o e ∧ Plan G all nid0 r (i + 1) (S.doneBy o e) es'
def fin : List Oper → List (Option Eff) → AS → AS
  | o :: r, e :: es, S => fin r es (S.doneBy o e)
  | _, _, S => S
theorem DidOK.eqv {G : Gl} {all : Array Oper} {nid0 nid : Nat} {S S' : AS} {o : Oper} {e : Option Eff} (h : DidOK G all nid0 nid S o e) (q : Eqv S S') : DidOK G all nid0 nid S' o e := by
  refine ⟨?_, fun e' he => ?_⟩
  · have := h.guard
    split at this
    · simpa using this
    · obtain ⟨t, h1, h2⟩ := this
      exact ⟨t, h1, by rw [← q.g]; exact h2⟩
  · obtain ⟨h1, h2, S'', h3, h4⟩ := h.run e' he
    exact ⟨h1, h2, S'', h3.trans q, h4⟩
theorem Plan.eqv {G : Gl} {all : Array Oper} {nid0 : Nat} : ∀ {l : List Oper} {i : Nat} {S S' : AS} {es : List (Option Eff)}, Plan G all nid0 l i S es → Eqv S S' → Plan G all nid0 l i S' es
  | [], _, _, _, _, h, _ => h
  | o :: r, i, S, S', es, h, q => by
    obtain ⟨e, es', h1, h2, h3⟩ := h
    exact ⟨e, es', h1, h2.eqv q, h3.eqv (q.doneBy o e)⟩
theorem fin_eqv : ∀ {l : List Oper} {es : List (Option Eff)} {S S' : AS}, Eqv S S' → Eqv (fin l es S) (fin l es S')
  | [], es, S, S', q => by simpa [fin] using q
  | o :: r, [], S, S', q => by simpa [fin] using q
  | o :: r, e :: es, S, S', q => by
    show Eqv (fin r es (S.doneBy o e)) (fin r es (S'.doneBy o e))
    exact fin_eqv (q.doneBy o e)
def trOf : Option Eff → List Nat × List Nat
  | some e => (e.rd, e.ws.map (·.1))
  | none => ([], [])
theorem strike_mem {d : Nat} : ∀ {l : List (Nat × Bool)} {p : Nat × Bool}, p ∈ strike d l → p ∈ l ∧ p.1 ≠ d
  | [], _, h => by cases h
  | q :: l, p, h => by
    unfold strike at h
    split at h
    · obtain ⟨h1, h2⟩ := strike_mem h
      exact ⟨List.mem_cons_of_mem _ h1, h2⟩
    · rename_i hq
      rcases List.mem_cons.1 h with h | h
      · subst h
        exact ⟨List.mem_cons_self, fun e => by simp [e] at hq⟩
      · obtain ⟨h1, h2⟩ := strike_mem h
        exact ⟨List.mem_cons_of_mem _ h1, h2⟩
theorem DecOK.put {S : AS} (h : DecOK S) (d : Option Nat) (v : AV) : DecOK (S.put d v) := by
  cases d with
  | none => exact h
  | some d =>
    intro p hp
    obtain ⟨h1, h2⟩ := strike_mem hp
    rw [get_put, if_neg h2]
    exact h p h1
theorem DecOK.dec {S : AS} (h : DecOK S) {dec : List (Nat × Bool)} (hd : ∀ p, p ∈ dec → S.get p.1 = .bool p.2) : DecOK { S with dec := dec ++ S.dec } := by
  intro p hp
  rcases List.mem_append.1 hp with hp | hp
  · exact hd p hp
  · exact h p hp
theorem dec_eqv (S : AS) (dec : List (Nat × Bool)) : Eqv { S with dec := dec } S := ⟨fun _ => rfl, fun _ => rfl⟩
theorem pick_dec {G : Gl} {S : AS} {nid : Nat} {op : Op} {e : Eff} (hd : DecOK S) (hp : isPick op = true) (h : (evOp G S nid op).sat (· = e)) : ∀ p, p ∈ e.dec → S.get p.1 = .bool p.2 := by
  cases op <;> simp [isPick] at hp
  simp only [evOp] at h
  obtain ⟨b, dec, h1, h2, h3⟩ := withBool_sat hd h
  cases h1
  exact fun p hp => (h3 p hp).1
theorem DecOK.apply {G : Gl} {S : AS} {nid : Nat} {o : Oper} {e : Eff} (hd : DecOK S) (h : (evOp G S nid o.op).sat (· = e)) : DecOK (S.apply o e) := by
  show DecOK (AS.put _ _ _)
  refine DecOK.put ?_ _ _
  intro p hp
  rcases List.mem_append.1 hp with hp | hp
  · split at hp
    · exact pick_dec hd (by assumption) h p hp
    · cases hp
  · exact hd p hp
theorem apply_eqv (S : AS) (o : Oper) (e : Eff) : Eqv (S.apply o e) (S.doneBy o (some e)) := by
  refine ⟨fun t => ?_, fun id => ?_⟩
  · show (AS.aft _ _ _).get t = (AS.aft _ _ _).get t
    rw [get_aft, get_aft]; rfl
  · show (AS.aft _ _ _).obj id = (AS.aft _ _ _).obj id
    rw [obj_aft, obj_aft]; rfl
theorem apply_nx (S : AS) (o : Oper) (e : Eff) : (S.apply o e).nx = S.nx := by
  show (AS.put _ _ _).nx = _
  cases o.dst <;> rfl
theorem put_nx (S : AS) (d : Option Nat) (v : AV) : (S.put d v).nx = S.nx := by cases d <;> rfl
theorem op1_sat {G : Gl} {nid : Nat} {o : Oper} {S : AS} {Q : Eff → Prop} (h : (evOp1 G nid o S).sat Q) : ∃ e, Q e ∧ dstOK G.n o.dst = true ∧ wsOK nid e.ws = true ∧ (evOp G S nid o.op).sat (· = e) := by
  unfold evOp1 at h
  split at h
  · cases h
  · rename_i hd
    obtain ⟨e, h1, h2⟩ := sat_ex (sat_bnd h)
    split at h1
    · exact ⟨e, h1, hd, by assumption, h2⟩
    · cases h1
theorem evOps_plan {G : Gl} {all : Array Oper} {nid0 : Nat} {Q : AS × Trace → Prop} : ∀ {l : List Oper} {i : Nat} {S : AS} {tr : Trace}, (evOps G all nid0 l i S tr).sat Q → DecOK S →
    ∃ es S', es.length = l.length ∧ Plan G all nid0 l i S es ∧ Q (S', (es.map trOf).reverse ++ tr) ∧ Eqv S' (fin l es S) ∧ DecOK S' ∧ S'.nx = S.nx
  | [], i, S, tr, h, hd => ⟨[], S, rfl, rfl, h, Eqv.refl S, hd, rfl⟩
  | o :: r, i, S, tr, h, hd => by
    rw [evOps] at h
    split at h
    · rename_i hg
      obtain ⟨e, h1, h2, h3, h4⟩ := op1_sat (sat_bnd h)
      obtain ⟨es, S', q1, q2, q3, q4, q5, q6⟩ := evOps_plan h1 (hd.apply h4)
      refine ⟨some e :: es, S', by simp [q1], ⟨some e, es, rfl, ⟨by rw [hg]; rfl, fun e' he => by cases he; exact ⟨h2, h3, S, Eqv.refl S, hd, h4⟩⟩, q2.eqv (apply_eqv S o e)⟩, ?_, ?_, q5, by rw [q6, apply_nx]⟩
      · simpa [trOf] using q3
      · exact q4.trans (fin_eqv (apply_eqv S o e))
    · rename_i j want hg
      split at h
      · cases h
      · rename_i t ht
        split at h
        · rename_i hu
          have hu' : S.get t = .undef := by
            unfold isUndef at hu
            split at hu
            · assumption
            · cases hu
          obtain ⟨es, S', q1, q2, q3, q4, q5, q6⟩ := evOps_plan h (hd.put o.dst .undef)
          refine ⟨none :: es, S', by simp [q1], ⟨none, es, rfl, ⟨by rw [hg]; exact ⟨t, ht, .inr ⟨hu', rfl⟩⟩, fun e' he => by cases he⟩, q2⟩, ?_, q4, q5, by rw [q6, put_nx]⟩
          simpa [trOf] using q3
        obtain ⟨c, dec, h1, h2, h3⟩ := withBool_sat hd h
        have hd' : DecOK { S with dec := dec ++ S.dec } := hd.dec fun p hp => (h3 p hp).1
        have hE : Eqv { S with dec := dec ++ S.dec } S := dec_eqv _ _
        split at h1
        · rename_i hc
          obtain ⟨e, r1, r2, r3, r4⟩ := op1_sat (sat_bnd h1)
          obtain ⟨es, S', q1, q2, q3, q4, q5, q6⟩ := evOps_plan r1 (hd'.apply r4)
          refine ⟨some e :: es, S', by simp [q1], ⟨some e, es, rfl, ⟨by rw [hg]; exact ⟨t, ht, .inl ⟨c, h2, by rw [hc]; rfl⟩⟩, fun e' he => by cases he; exact ⟨r2, r3, _, hE, hd', r4⟩⟩, q2.eqv ((apply_eqv _ o e).trans (hE.doneBy o (some e)))⟩, ?_, ?_, q5, by rw [q6, apply_nx]⟩
          · simpa [trOf] using q3
          · exact q4.trans (fin_eqv ((apply_eqv _ o e).trans (hE.doneBy o (some e))))
        · rename_i hc
          obtain ⟨es, S', q1, q2, q3, q4, q5, q6⟩ := evOps_plan h1 (hd'.put o.dst .undef)
          refine ⟨none :: es, S', by simp [q1], ⟨none, es, rfl, ⟨by rw [hg]; exact ⟨t, ht, .inl ⟨c, h2, by simpa using hc⟩⟩, fun e' he => by cases he⟩, q2.eqv (hE.doneBy o none)⟩, ?_, ?_, q5, by rw [q6, put_nx]⟩
          · simpa [trOf] using q3
          · exact q4.trans (fin_eqv (hE.doneBy o none))
end Go.Rx
/-! Rx, part 18: a region, in any order that its edges allow, comes to what its own order comes to. -/
namespace Go.Rx
set_option linter.unusedVariables false
set_option linter.unusedSimpArgs false
def mst (m : Nat → Bool) : List Oper → List (Option Eff) → Nat → AS → AS
  | o :: r, e :: es, i, S => mst m r es (i + 1) (match m i with | true => S.doneBy o e | false => S)
  | [], _, _, S => S
  | _ :: _, [], _, S => S
theorem mst_nil (m : Nat → Bool) (l : List Oper) (i : Nat) (S : AS) : mst m l [] i S = S := by cases l <;> rfl
theorem mst_get {m m' : Nat → Bool} {t : Nat} : ∀ {l : List Oper} {es : List (Option Eff)} {i : Nat} {S S' : AS}, S.get t = S'.get t →
    (∀ k o, l[k]? = some o → o.dst = some t → m (i + k) = m' (i + k)) → (mst m l es i S).get t = (mst m' l es i S').get t
  | [], es, i, S, S', h, _ => h
  | o :: r, [], i, S, S', h, _ => h
  | o :: r, e :: es, i, S, S', h, hm => by
    show (mst m r es (i + 1) _).get t = (mst m' r es (i + 1) _).get t
    refine mst_get ?_ (fun k o' h1 h2 => by have := hm (k + 1) o' (by simpa using h1) h2; rwa [show i + (k + 1) = i + 1 + k by omega] at this)
    by_cases q : o.dst = some t
    · have := hm 0 o rfl q
      rw [show m i = m' i from this]
      cases m' i
      · exact h
      · show (S.doneBy o e).get t = (S'.doneBy o e).get t
        rw [get_doneBy, get_doneBy, if_pos q, if_pos q]
    · have h1 : ∀ (b : Bool) (S : AS), (match b with | true => S.doneBy o e | false => S).get t = S.get t := by
        intro b S
        cases b
        · rfl
        · show (S.doneBy o e).get t = _
          rw [get_doneBy, if_neg q]
      rw [h1, h1, h]
theorem mst_obj {m m' : Nat → Bool} {id : Nat} : ∀ {l : List Oper} {es : List (Option Eff)} {i : Nat} {S S' : AS}, S.obj id = S'.obj id →
    (∀ k e, es[k]? = some e → k < l.length → id ∈ wids e → m (i + k) = m' (i + k)) → (mst m l es i S).obj id = (mst m' l es i S').obj id
  | [], es, i, S, S', h, _ => h
  | o :: r, [], i, S, S', h, _ => h
  | o :: r, e :: es, i, S, S', h, hm => by
    show (mst m r es (i + 1) _).obj id = (mst m' r es (i + 1) _).obj id
    refine mst_obj ?_ (fun k e' h1 h2 h3 => by have := hm (k + 1) e' (by simpa using h1) (by simpa using h2) h3; rwa [show i + (k + 1) = i + 1 + k by omega] at this)
    by_cases q : id ∈ wids e
    · have := hm 0 e rfl (by simp) q
      rw [show m i = m' i from this]
      cases m' i
      · exact h
      · exact obj_doneBy_mem q
    · have h1 : ∀ (b : Bool) (S : AS), (match b with | true => S.doneBy o e | false => S).obj id = S.obj id := by
        intro b S
        cases b
        · rfl
        · exact obj_doneBy_ne q
      rw [h1, h1, h]
theorem mst_none {m : Nat → Bool} : ∀ {l : List Oper} {es : List (Option Eff)} {i : Nat} {S : AS}, (∀ k, m (i + k) = false) → mst m l es i S = S
  | [], es, i, S, _ => rfl
  | o :: r, [], i, S, _ => rfl
  | o :: r, e :: es, i, S, h => by
    show mst m r es (i + 1) _ = S
    rw [mst_none (fun k => by have := h (k + 1); rwa [show i + (k + 1) = i + 1 + k by omega] at this)]
    rw [show m i = false from h 0]
theorem mst_all {m : Nat → Bool} : ∀ {l : List Oper} {es : List (Option Eff)} {i : Nat} {S : AS}, (∀ k, k < l.length → m (i + k) = true) → mst m l es i S = fin l es S
  | [], es, i, S, _ => by cases es <;> rfl
  | o :: r, [], i, S, _ => rfl
  | o :: r, e :: es, i, S, h => by
    show mst m r es (i + 1) _ = fin r es (S.doneBy o e)
    rw [mst_all (fun k hk => by have := h (k + 1) (by simpa using hk); rwa [show i + (k + 1) = i + 1 + k by omega] at this)]
    rw [show m i = true from h 0 (by simp)]
def upto (n : Nat) (x : Nat) : Bool := decide (x < n)
theorem mst_step : ∀ {l : List Oper} {es : List (Option Eff)} {i k : Nat} {S : AS} {o : Oper} {e : Option Eff}, l[k]? = some o → es[k]? = some e →
    mst (upto (i + k + 1)) l es i S = (mst (upto (i + k)) l es i S).doneBy o e
  | [], es, i, k, S, o, e, h, _ => by cases h
  | o' :: r, [], i, k, S, o, e, _, h => by cases h
  | o' :: r, e' :: es, i, 0, S, o, e, h1, h2 => by
    cases h1; cases h2
    show mst _ r es (i + 1) _ = (mst _ r es (i + 1) _).doneBy o' e'
    rw [mst_none (fun k => by simp [upto]), mst_none (fun k => by simp [upto]; omega)]
    rw [show upto (i + 0 + 1) i = true by simp [upto], show upto (i + 0) i = false by simp [upto]]
  | o' :: r, e' :: es, i, k + 1, S, o, e, h1, h2 => by
    show mst _ r es (i + 1) _ = (mst _ r es (i + 1) _).doneBy o e
    rw [show upto (i + (k + 1) + 1) i = true by simp [upto]; omega, show upto (i + (k + 1)) i = true by simp [upto], show i + (k + 1) = i + 1 + k by omega]
    exact mst_step (by simpa using h1) (by simpa using h2)
theorem plan_len {G : Gl} {all : Array Oper} {nid0 : Nat} : ∀ {l : List Oper} {i : Nat} {S : AS} {es : List (Option Eff)}, Plan G all nid0 l i S es → es.length = l.length
  | [], _, _, _, h => by rw [show _ = [] from h]; rfl
  | o :: r, i, S, es, h => by
    obtain ⟨e, es', h1, h2, h3⟩ := h
    subst h1
    simp [plan_len h3]
theorem plan_get {G : Gl} {all : Array Oper} {nid0 : Nat} : ∀ {l : List Oper} {i k : Nat} {S : AS} {es : List (Option Eff)} {o : Oper}, Plan G all nid0 l i S es → l[k]? = some o →
    ∃ e, es[k]? = some e ∧ DidOK G all nid0 (nid0 + 4 * (i + k)) (mst (upto (i + k)) l es i S) o e
  | [], _, _, _, _, _, _, h => by cases h
  | o' :: r, i, 0, S, es, o, h, hk => by
    obtain ⟨e, es', h1, h2, h3⟩ := h
    subst h1
    cases hk
    refine ⟨e, rfl, ?_⟩
    rw [mst_none (fun k => by simp [upto])]
    exact h2
  | o' :: r, i, k + 1, S, es, o, h, hk => by
    obtain ⟨e, es', h1, h2, h3⟩ := h
    subst h1
    obtain ⟨e1, q1, q2⟩ := plan_get (k := k) h3 (by simpa using hk)
    refine ⟨e1, by simpa using q1, ?_⟩
    show DidOK G all nid0 _ (mst _ r es' (i + 1) _) o e1
    rw [show upto (i + (k + 1)) i = true by simp [upto], show i + (k + 1) = i + 1 + k by omega]
    exact q2
theorem doneBy_dec {S : AS} (o : Oper) (e : Option Eff) (h : S.dec = []) : (S.doneBy o e).dec = [] := by
  have : ∀ (S : AS) (d : Option Nat) (v : AV), S.dec = [] → (S.put d v).dec = [] := by
    intro S d v h
    cases d with
    | none => exact h
    | some d => show strike d S.dec = []; rw [h]; rfl
  cases e with
  | none => exact this S _ _ h
  | some e => exact this (S.setObjs e.ws) _ _ h
theorem mst_dec {m : Nat → Bool} : ∀ {l : List Oper} {es : List (Option Eff)} {i : Nat} {S : AS}, S.dec = [] → (mst m l es i S).dec = []
  | [], es, i, S, h => h
  | o :: r, [], i, S, h => h
  | o :: r, e :: es, i, S, h => by
    show (mst m r es (i + 1) _).dec = []
    apply mst_dec
    cases m i
    · exact h
    · exact doneBy_dec o e h

theorem tmpsOf_mem {t : Nat} : ∀ {l : List Operand}, Operand.tmp t ∈ l → t ∈ tmpsOf l
  | [], h => by cases h
  | x :: r, h => by
    rcases List.mem_cons.1 h with h | h
    · subst h; simp [tmpsOf]
    · have := tmpsOf_mem h
      cases x <;> simp [tmpsOf, this]
section
variable {C : Ctx} {S T : AS} {E : Env} {a : Act} {w : World} {G : Gl} {ops : Array Oper} {nid0 nid i : Nat}
theorem step_ok (hG : GOK C G) (hT : RepE C T E a w) (hTd : T.dec = []) (hf : ∀ j, j < 4 → T.obj (nid + j) = none) {o : Oper} (hi : ops[i]? = some o) {e : Option Eff}
    (did : DidOK G ops nid0 nid S o e) (ht : ∀ t, t ∈ looks ops o → T.get t = S.get t) (ho : ∀ e', e = some e' → ∀ id, id ∈ e'.rd → T.obj id = S.obj id)
    {K : Act → World → Prop} {Q : Exit → Act → World → Prop} (hK : ∀ E' a' w', RepE C (T.doneBy o e) E' a' w' → K a' w') : wpOp C.P ops Q i K a w := by
  have hw : Region.wanted o (yielded ops a.tmps) = e.isSome := by
    have hg := did.guard
    unfold Region.wanted
    split at hg
    · rename_i hn; rw [hn]; exact hg.symm
    · rename_i j want hn
      rw [hn]
      obtain ⟨t, h1, h2⟩ := hg
      have hl : T.get t = S.get t := ht t (by simp [looks, hn, h1])
      have h5 := hT.t t
      rw [hl] at h5
      show (yielded ops a.tmps j == some want) = _
      unfold yielded
      rw [show (ops[j]?).bind (·.dst) = some t from h1]
      show ((match a.tmps[t]? with | some (.bool b) => some b | _ => none) == some want) = _
      rw [Array.getD_eq_getD_getElem?] at h5
      rcases h2 with ⟨c, h2, h3⟩ | ⟨h2, h3⟩
      · rw [h2] at h5
        simp only [RepV] at h5
        have h6 : a.tmps[t]? = some (.bool c) := by
          cases hq : a.tmps[t]? with
          | none => rw [hq] at h5; cases h5
          | some v => rw [hq] at h5; exact congrArg some h5
        rw [h6, ← h3]
        cases c <;> cases want <;> rfl
      · rw [h2] at h5
        simp only [RepV] at h5
        subst h3
        cases hq : a.tmps[t]? with
        | none => rfl
        | some v =>
          rw [hq] at h5
          have : v = undef := h5
          subst this
          rfl
  unfold wpOp
  rw [hi]
  simp only [hw]
  cases e with
  | none => exact hK E _ w (hT.put (by simp [RepV]) (.inr (.inr ⟨rfl, rfl⟩)))
  | some e =>
    obtain ⟨h1, h2, S', h3, h4, h5⟩ := did.run e rfl
    have hTd' : DecOK T := by intro p hp; rw [hTd] at hp; cases hp
    obtain ⟨e', q1, q2, q3⟩ := op_agree (S' := T) h4 hTd' h5 (fun x hx => ev_agree fun t hxt => by
      subst hxt
      rw [h3.g, ht t (by unfold looks; exact List.mem_append_left _ (tmpsOf_mem (by simpa using hx)))]) (fun id hid => by rw [h3.o]; exact ho e rfl id hid)
    refine if_pos rfl ▸ .inl ?_
    refine op_ok hG hTd' hT hf q1 _ _ (fun x w' E' r1 r2 => hK E' _ w' ?_)
    have := r1.put (dst := o.dst) r2 (.inl (by rw [← hG.n]; exact h1))
    show RepE C (AS.aft T o.dst e) E' _ w'
    unfold AS.aft
    rw [← q2, ← q3]
    exact this
end
end Go.Rx
/-! Rx, part 19: the orders that a region's edges allow. -/
namespace Go.Rx
set_option linter.unusedVariables false
set_option linter.unusedSimpArgs false
theorem hasId_of {n : Nat} : ∀ {l : List Nat}, n ∈ l → hasId l n = true
  | [], h => by cases h
  | a :: r, h => by
    unfold hasId
    split
    · rfl
    · rename_i q
      rcases List.mem_cons.1 h with h | h
      · subst h; simp at q
      · exact hasId_of h
theorem meet_of {n : Nat} : ∀ {l l' : List Nat}, n ∈ l → n ∈ l' → meet l l' = true
  | [], _, h, _ => by cases h
  | a :: r, l', h, h' => by
    unfold meet
    split
    · rfl
    · rename_i q
      rcases List.mem_cons.1 h with h | h
      · subst h; rw [hasId_of h'] at q; cases q
      · exact meet_of h h'
section
variable {all : Array Oper} {x y : Oper} {tx ty : List Nat × List Nat}
theorem clash_look {d : Nat} (h : x.dst = some d) (h' : d ∈ looks all y) : clash all x y tx ty = true := by simp [clash, h, hasId_of h']
theorem clash_dst {d : Nat} (h : x.dst = some d) (h' : y.dst = some d) : clash all x y tx ty = true := by simp [clash, h, h']
theorem clash_back {d : Nat} (h : y.dst = some d) (h' : d ∈ looks all x) : clash all x y tx ty = true := by
  unfold clash
  simp [h, hasId_of h']
theorem clash_ws {id : Nat} (h : id ∈ tx.2) (h' : id ∈ ty.1 ∨ id ∈ ty.2) : clash all x y tx ty = true := by
  unfold clash
  have : meet tx.2 (ty.1 ++ ty.2) = true := meet_of h (List.mem_append.2 h')
  simp [this]
theorem clash_rd {id : Nat} (h : id ∈ ty.2) (h' : id ∈ tx.1) : clash all x y tx ty = true := by
  unfold clash
  have : meet ty.2 tx.1 = true := meet_of h h'
  simp [this]
end
theorem binds_any (e : Edge) : Region.binds .any e = bindsAny e := by
  unfold Region.binds bindsAny
  cases e.ground <;> rfl
theorem edgeBits_spec {acc : Array Nat} {i : Nat} : ∀ {l : List Edge}, (edgeBits acc l).testBit i = true → ∃ e, e ∈ l ∧ bindsAny e = true ∧ (i = e.on ∨ (acc.getD e.on 0).testBit i = true)
  | [], h => by simp [edgeBits] at h
  | e :: r, h => by
    unfold edgeBits at h
    split at h
    · rename_i hb
      rw [Nat.testBit_or, Bool.or_eq_true, Nat.testBit_or, Bool.or_eq_true] at h
      rcases h with h | h | h
      · obtain ⟨e', h1, h2⟩ := edgeBits_spec h
        exact ⟨e', List.mem_cons_of_mem _ h1, h2⟩
      · rw [Nat.testBit_two_pow] at h
        exact ⟨e, List.mem_cons_self, hb, .inl (by simpa [eq_comm] using h)⟩
      · exact ⟨e, List.mem_cons_self, hb, .inr h⟩
    · obtain ⟨e', h1, h2⟩ := edgeBits_spec h
      exact ⟨e', List.mem_cons_of_mem _ h1, h2⟩
theorem push_getD (acc : Array Nat) (b j : Nat) : (acc.push b).getD j 0 = if j = acc.size then b else acc.getD j 0 := by
  simp only [Array.getD_eq_getD_getElem?, Array.getElem?_push]
  split <;> simp_all
theorem getD_size (acc : Array Nat) : acc.getD acc.size 0 = 0 := by simp [Array.getD_eq_getD_getElem?]
theorem clos_mono {i j : Nat} : ∀ {l : List Oper} {acc : Array Nat}, (acc.getD j 0).testBit i = true → ((clos l acc).getD j 0).testBit i = true
  | [], _, h => h
  | o :: r, acc, h => by
    refine clos_mono (l := r) ?_
    rw [push_getD]
    split
    · rename_i q; subst q; rw [getD_size] at h; simp at h
    · exact h
theorem clos_spec {i j : Nat} : ∀ {l : List Oper} {acc : Array Nat}, ((clos l acc).getD j 0).testBit i = true → (acc.getD j 0).testBit i = true ∨
    ∃ k o, j = acc.size + k ∧ l[k]? = some o ∧ ∃ e, e ∈ o.after.toList ∧ bindsAny e = true ∧ (i = e.on ∨ ((clos l acc).getD e.on 0).testBit i = true)
  | [], _, h => .inl h
  | o :: r, acc, h => by
    rcases clos_spec (l := r) h with h1 | ⟨k, o', h1, h2, e, h3, h4, h5⟩
    · rw [push_getD] at h1
      split at h1
      · rename_i q
        obtain ⟨e, q1, q2, q3⟩ := edgeBits_spec h1
        refine .inr ⟨0, o, q, rfl, e, q1, q2, q3.imp id fun q3 => ?_⟩
        refine clos_mono (l := r) ?_
        rw [push_getD]
        split
        · rename_i q4; rw [q4, getD_size] at q3; simp at q3
        · exact q3
      · exact .inl h1
    · exact .inr ⟨k + 1, o', by simp at h1; omega, by simpa using h2, e, h3, h4, h5⟩
theorem edgesLt_spec {j : Nat} : ∀ {l : List Edge}, edgesLt j l = true → ∀ e, e ∈ l → bindsAny e = true → e.on < j
  | [], _, _, h, _ => by cases h
  | e' :: r, h, e, he, hb => by
    unfold edgesLt at h
    split at h
    · cases h
    · rename_i q
      rcases List.mem_cons.1 he with he | he
      · subst he
        rcases Nat.lt_or_ge e.on j with q' | q'
        · exact q'
        · have : Nat.blt e.on j = false := by rw [Bool.eq_false_iff]; intro q2; rw [Nat.blt_eq] at q2; omega
          exact (q hb this).elim
      · exact edgesLt_spec h e he hb
theorem forward_spec : ∀ {l : List Oper} {j k : Nat} {o : Oper}, forward l j = true → l[k]? = some o → ∀ e, e ∈ o.after.toList → bindsAny e = true → e.on < j + k
  | [], _, _, _, _, h => by cases h
  | o' :: r, j, k, o, h, hk => by
    unfold forward at h
    split at h
    · rename_i q
      intro e he hb
      cases k with
      | zero => cases hk; exact edgesLt_spec q e he hb
      | succ k => have := forward_spec h (by simpa using hk) e he hb; omega
    · cases h
theorem countP_lt {p q : Nat → Bool} {i : Nat} : ∀ {l : List Nat}, (∀ x, q x = true → p x = true) → i ∈ l → p i = true → q i = false → l.countP q < l.countP p
  | [], _, h, _, _ => by cases h
  | a :: r, h, hi, h1, h2 => by
    have hle : r.countP q ≤ r.countP p := List.countP_mono_left fun x _ hx => h x hx
    rw [List.countP_cons, List.countP_cons]
    rcases List.mem_cons.1 hi with hi | hi
    · subst hi; simp [h1, h2]; omega
    · have := countP_lt h hi h1 h2
      by_cases qa : q a = true
      · simp [qa, h a qa]; exact this
      · simp [qa]; split <;> omega

structure Sched0 (G : Gl) (ops : Array Oper) (nid0 : Nat) (S : AS) (es : List (Option Eff)) : Prop where
  dec : S.dec = []
  bd : ∀ id, S.obj id ≠ none → id < nid0
  plan : Plan G ops nid0 ops.toList 0 S es
structure Sched (G : Gl) (ops : Array Oper) (nid0 : Nat) (S : AS) (es : List (Option Eff)) : Prop extends Sched0 G ops nid0 S es where
  fwd : forward ops.toList 0 = true
  ord : orderly nid0 ops (clos ops.toList #[]) (es.map trOf) = true
def unl (ops : Array Oper) (listed : Array Bool) : Nat := (List.range ops.size).countP fun i => !listed.getD i true
def Down (ops : Array Oper) (m : Nat → Bool) : Prop := ∀ j, m j = true → ∀ i, ((clos ops.toList #[]).getD j 0).testBit i = true → m i = true
section
variable {C : Ctx} {S T : AS} {E : Env} {a : Act} {w : World} {G : Gl} {ops : Array Oper} {nid0 nid i : Nat} {es : List (Option Eff)}
theorem toList_get {i : Nat} {o : Oper} (h : ops[i]? = some o) : ops.toList[i]? = some o := by rw [Array.getElem?_toList]; exact h
theorem Sched0.has (h : Sched0 G ops nid0 S es) {i : Nat} {o : Oper} (hi : ops[i]? = some o) : ∃ e, es[i]? = some e ∧ DidOK G ops nid0 (nid0 + 4 * i) (mst (upto i) ops.toList es 0 S) o e := by
  have := plan_get (k := i) h.plan (toList_get hi)
  simpa using this
theorem Sched.held (h : Sched G ops nid0 S es) {i j : Nat} (hij : i < j) {x y : Oper} (hx : ops[i]? = some x) (hy : ops[j]? = some y) {ex ey : Option Eff} (hex : es[i]? = some ex) (hey : es[j]? = some ey)
    (hc : clash ops x y (trOf ex) (trOf ey) = true ∨ inRange (nid0 + 4 * i) (trOf ey).2 = true) : ((clos ops.toList #[]).getD j 0).testBit i = true := by
  have := h.ord
  unfold orderly at this
  rw [List.all_eq_true] at this
  have hj : j < ops.size := (Array.getElem?_eq_some_iff.1 hy).1
  have := this j (by simpa using hj)
  rw [List.all_eq_true] at this
  have := this i (by simpa using hij)
  rw [hx, hy, List.getElem?_map, List.getElem?_map, hex, hey] at this
  have hc' : (clash ops x y (trOf ex) (trOf ey) || inRange (nid0 + 4 * i) (trOf ey).2) = true := by rw [Bool.or_eq_true]; exact hc
  simp only [Option.map_some, hc', Bool.not_true, Bool.false_or] at this
  exact this
theorem wids_tr (e : Option Eff) : wids e = (trOf e).2 := by cases e <;> rfl
theorem wsOK_mem {nid : Nat} : ∀ {l : List (Nat × Obj)}, wsOK nid l = true → ∀ id, id ∈ l.map (·.1) → id < nid + 4
  | [], _, _, h => by cases h
  | p :: r, h, id, hid => by
    unfold wsOK at h
    split at h
    · rename_i q
      rw [List.map_cons] at hid
      rcases List.mem_cons.1 hid with hid | hid
      · subst hid
        simpa [Nat.blt_eq] using q
      · exact wsOK_mem h id hid
    · cases h
theorem inRange_of {nid id : Nat} : ∀ {l : List Nat}, id ∈ l → nid ≤ id → id < nid + 4 → inRange nid l = true
  | [], h, _, _ => by cases h
  | a :: r, h, h1, h2 => by
    unfold inRange
    split
    · rfl
    · rename_i q
      rcases List.mem_cons.1 h with h | h
      · subst h
        have : (Nat.ble nid id && Nat.blt id (nid + 4)) = true := by rw [Bool.and_eq_true, Nat.ble_eq, Nat.blt_eq]; exact ⟨h1, h2⟩
        rw [this] at q
        cases q
      · exact inRange_of h h1 h2
theorem Sched0.fresh (h : Sched0 G ops nid0 S es) {m : Nat → Bool} {i : Nat} (hi : ∀ k e, es[k]? = some e → i ≤ k → (i < k → inRange (nid0 + 4 * i) (trOf e).2 = true) → m k = false) {j : Nat} (hj : j < 4) : (mst m ops.toList es 0 S).obj (nid0 + 4 * i + j) = none := by
  have h1 := mst_obj (m := m) (m' := fun _ => false) (id := nid0 + 4 * i + j) (l := ops.toList) (es := es) (i := 0) (S := S) (S' := S) rfl (fun k e hk hl hid => by
    rw [Nat.zero_add]
    have hk' := hk
    obtain ⟨e', q1, q2⟩ := h.has (i := k) (o := ops[k]'(by simpa using hl)) (Array.getElem?_eq_getElem (by simpa using hl))
    rw [q1] at hk
    cases hk
    cases e with
    | none => cases hid
    | some e =>
      obtain ⟨_, q3, _⟩ := q2.run e rfl
      have := wsOK_mem q3 _ hid
      exact hi k (some e) hk' (by omega) fun _ => inRange_of hid (by omega) (by omega))
  rw [h1, mst_none (fun _ => rfl)]
  cases hq : S.obj (nid0 + 4 * i + j) with
  | none => rfl
  | some o => have := h.bd _ (by rw [hq]; simp); omega
/-- An operation that is ready: what it looks at is what it would see in its own order. -/
theorem Sched.sees (h : Sched G ops nid0 S es) {m : Nat → Bool} (hd : Down ops m) {j : Nat} (hm : m j = false) {o : Oper} {e : Option Eff} (ho : ops[j]? = some o) (he : es[j]? = some e)
    (hr : ∀ i, ((clos ops.toList #[]).getD j 0).testBit i = true → m i = true) :
    (∀ t, t ∈ looks ops o → (mst m ops.toList es 0 S).get t = (mst (upto j) ops.toList es 0 S).get t) ∧
    (∀ id, id ∈ (trOf e).1 → (mst m ops.toList es 0 S).obj id = (mst (upto j) ops.toList es 0 S).obj id) ∧
    Eqv (mst (fun i => m i || decide (i = j)) ops.toList es 0 S) ((mst m ops.toList es 0 S).doneBy o e) := by
  have key : ∀ k o' e', ops[k]? = some o' → es[k]? = some e' → (k < j → clash ops o' o (trOf e') (trOf e) = true) → (j < k → clash ops o o' (trOf e) (trOf e') = true) → k ≠ j → m k = upto j k := by
    intro k o' e' h1 h2 h3 h4 h5
    unfold upto
    rcases Nat.lt_trichotomy k j with q | q | q
    · rw [hr k (h.held q h1 ho h2 he (.inl (h3 q)))]; simp [q]
    · exact (h5 q).elim
    · have : m k = false := by
        cases hk : m k with
        | false => rfl
        | true => have := hd k hk j (h.held q ho h1 he h2 (.inl (h4 q))); rw [hm] at this; cases this
      rw [this]; simp; omega
  have hmj : m j = upto j j := by rw [hm]; simp [upto]
  have esk : ∀ {k : Nat} {o' : Oper}, ops.toList[k]? = some o' → ops[k]? = some o' ∧ ∃ e', es[k]? = some e' := by
    intro k o' hk
    rw [Array.getElem?_toList] at hk
    obtain ⟨e', q, _⟩ := h.has hk
    exact ⟨hk, e', q⟩
  refine ⟨fun t ht => ?_, fun id hid => ?_, ?_⟩
  · refine mst_get rfl fun k o' hk hdst => ?_
    rw [Nat.zero_add]
    obtain ⟨hk, e', he'⟩ := esk hk
    by_cases hkj : k = j
    · rw [hkj]; exact hmj
    · exact key k o' e' hk he' (fun _ => clash_look hdst ht) (fun _ => clash_back hdst ht) hkj
  · refine mst_obj rfl fun k e' hk hl hw => ?_
    rw [Nat.zero_add]
    have hl' : k < ops.size := by simpa using hl
    rw [wids_tr] at hw
    by_cases hkj : k = j
    · rw [hkj]; exact hmj
    · exact key k _ e' (Array.getElem?_eq_getElem hl') hk (fun _ => clash_ws hw (.inl hid)) (fun _ => clash_rd hw hid) hkj
  · have hstep : mst (upto (j + 1)) ops.toList es 0 S = (mst (upto j) ops.toList es 0 S).doneBy o e := by
      have := mst_step (i := 0) (k := j) (S := S) (toList_get ho) he
      simpa using this
    have hone : ∀ k, k ≠ j → upto j k = upto (j + 1) k := by intro k hk; simp [upto]; omega
    refine ⟨fun t => ?_, fun id => ?_⟩
    · by_cases ht : o.dst = some t
      · have h1 : (mst (fun i => m i || decide (i = j)) ops.toList es 0 S).get t = (mst (upto (j + 1)) ops.toList es 0 S).get t := by
          refine mst_get rfl fun k o' hk hdst => ?_
          rw [Nat.zero_add]
          obtain ⟨hk, e', he'⟩ := esk hk
          by_cases hkj : k = j
          · subst hkj; simp [upto]
          · have := key k o' e' hk he' (fun _ => clash_dst hdst ht) (fun _ => clash_dst ht hdst) hkj
            simp [hkj, this, hone k hkj]
        rw [h1, hstep, get_doneBy, get_doneBy, if_pos ht, if_pos ht]
      · rw [get_doneBy, if_neg ht]
        refine mst_get rfl fun k o' hk hdst => ?_
        rw [Nat.zero_add]
        obtain ⟨hk, e', he'⟩ := esk hk
        by_cases hkj : k = j
        · subst hkj; rw [ho] at hk; cases hk; exact (ht hdst).elim
        · simp [hkj]
    · by_cases hid : id ∈ wids e
      · have h1 : (mst (fun i => m i || decide (i = j)) ops.toList es 0 S).obj id = (mst (upto (j + 1)) ops.toList es 0 S).obj id := by
          refine mst_obj rfl fun k e' hk hl hw => ?_
          rw [Nat.zero_add]
          have hl' : k < ops.size := by simpa using hl
          rw [wids_tr] at hw hid
          by_cases hkj : k = j
          · subst hkj; simp [upto]
          · have := key k _ e' (Array.getElem?_eq_getElem hl') hk (fun _ => clash_ws hw (.inr hid)) (fun _ => clash_ws hid (.inr hw)) hkj
            simp [hkj, this, hone k hkj]
        rw [h1, hstep]
        exact obj_doneBy_mem hid
      · rw [obj_doneBy_ne hid]
        refine mst_obj rfl fun k e' hk hl hw => ?_
        rw [Nat.zero_add]
        by_cases hkj : k = j
        · subst hkj; rw [he] at hk; cases hk; exact (hid hw).elim
        · simp [hkj]
theorem ready_all (h : Sched G ops nid0 S es) {listed : Array Bool} (hs : listed.size = ops.size) (hr : Region.ready .any ops listed = []) : ∀ j, j < ops.size → listed.getD j false = true := by
  intro j
  induction j using Nat.strongRecOn with
  | _ j ih =>
    intro hj
    cases hq : listed.getD j false with
    | true => rfl
    | false =>
      have : j ∈ Region.ready .any ops listed := by
        rw [mem_ready]
        refine ⟨?_, ops[j], Array.getElem?_eq_getElem hj, fun e he hb => ?_⟩
        · simp [Array.getD_eq_getD_getElem?, hs, hj] at hq ⊢
          exact hq
        · rw [binds_any] at hb
          have := forward_spec (k := j) h.fwd (toList_get (Array.getElem?_eq_getElem hj)) e (by simpa using he) hb
          exact ih e.on (by omega) (by omega)
      rw [hr] at this
      cases this
theorem any_ok (hG : GOK C G) (h : Sched G ops nid0 S es) {Q : Exit → Act → World → Prop} (hQ : ∀ E a w, RepE C (fin ops.toList es S) E a w → Q .normal a w) :
    ∀ (fuel : Nat) (listed : Array Bool) (E : Env) (a : Act) (w : World), listed.size = ops.size → unl ops listed ≤ fuel → Down ops (fun i => listed.getD i false) →
      RepE C (mst (fun i => listed.getD i false) ops.toList es 0 S) E a w → wpAny C.P .any ops Q fuel listed a w := by
  have hend : ∀ (listed : Array Bool) (E : Env) (a : Act) (w : World), listed.size = ops.size → RepE C (mst (fun i => listed.getD i false) ops.toList es 0 S) E a w → Region.ready .any ops listed = [] → Q .normal a w := by
    intro listed E a w hs hR hr
    refine hQ E a w ?_
    rw [mst_all] at hR
    · exact hR
    · intro k hk
      rw [Nat.zero_add]
      exact ready_all h hs hr k (by simpa using hk)
  intro fuel
  induction fuel with
  | zero =>
    intro listed E a w hs hu hd hR
    have hr : Region.ready .any ops listed = [] := by
      rw [List.eq_nil_iff_forall_not_mem]
      intro j hj
      rw [mem_ready] at hj
      obtain ⟨h1, o, h2, _⟩ := hj
      have h3 := (Array.getElem?_eq_some_iff.1 h2).1
      have : 0 < unl ops listed := by
        unfold unl
        rw [List.countP_pos_iff]
        exact ⟨j, by simpa using h3, by rw [h1]; rfl⟩
      omega
    exact ⟨hr, hend listed E a w hs hR hr⟩
  | succ fuel ih =>
    intro listed E a w hs hu hd hR
    refine ⟨hend listed E a w hs hR, fun j hj => ?_⟩
    have hj' := hj
    rw [mem_ready] at hj
    obtain ⟨h1, o, h2, h3⟩ := hj
    have hlt := (Array.getElem?_eq_some_iff.1 h2).1
    obtain ⟨e, q1, q2⟩ := h.has h2
    have hm : listed.getD j false = false := by
      simp [Array.getD_eq_getD_getElem?, hs, hlt] at h1 ⊢
      exact h1
    have hr : ∀ i, ((clos ops.toList #[]).getD j 0).testBit i = true → listed.getD i false = true := by
      intro i hi
      rcases clos_spec hi with hi | ⟨k, o', r1, r2, e', r3, r4, r5⟩
      · simp [Array.getD_eq_getD_getElem?] at hi
      · simp at r1
        subst r1
        rw [Array.getElem?_toList, h2] at r2
        cases r2
        have hl := h3 e' (by simpa using r3) (by rw [binds_any]; exact r4)
        rcases r5 with r5 | r5
        · rw [r5]; exact hl
        · exact hd e'.on hl i r5
    obtain ⟨s1, s2, s3⟩ := h.sees (m := fun i => listed.getD i false) hd hm h2 q1 hr
    refine step_ok hG hR (mst_dec h.dec) (fun d hd' => h.fresh (i := j) (fun k e' hk hle hr' => by
      rcases Nat.lt_or_ge j k with hlt' | hge
      · cases hmk : listed.getD k false with
        | false => rfl
        | true =>
          have hks : k < ops.size := by
            have := (List.getElem?_eq_some_iff.1 hk).1
            rw [plan_len h.plan] at this
            simpa using this
          have hjj : listed.getD j false = true := hd k hmk j (h.held hlt' h2 (Array.getElem?_eq_getElem hks) q1 hk (.inr (hr' hlt')))
          rw [hm] at hjj
          cases hjj
      · have : k = j := by omega
        rw [this]; exact hm) hd') h2 q2 s1 (fun e' he id hid => s2 id (by rw [he]; exact hid)) (fun E' a' w' hR' => ?_)
    have hset : ∀ i, (listed.setIfInBounds j true).getD i false = (listed.getD i false || decide (i = j)) := by
      intro i
      by_cases hij : i = j
      · subst hij; simp [Array.getD_eq_getD_getElem?, hs, hlt]
      · rw [getD_set_ne false (Ne.symm hij)]; simp [hij]
    refine ih _ E' a' w' (by simpa using hs) ?_ ?_ ?_
    · have : unl ops (listed.setIfInBounds j true) < unl ops listed := by
        unfold unl
        refine countP_lt (i := j) (fun x hx => ?_) (by simpa using hlt) (by rw [h1]; rfl) ?_
        · by_cases hxj : x = j
          · subst hxj; rw [h1]; rfl
          · rwa [getD_set_ne true (Ne.symm hxj)] at hx
        · simp [Array.getD_eq_getD_getElem?, hs, hlt]
      omega
    · intro k hk i hi
      have hk' : (listed.setIfInBounds j true).getD k false = true := hk
      show (listed.setIfInBounds j true).getD i false = true
      rw [hset] at hk' ⊢
      by_cases hkj : k = j
      · subst hkj; rw [hr i hi]; rfl
      · have hl : listed.getD k false = true := by simpa [hkj] using hk'
        rw [show listed.getD i false = true from hd k hl i hi]; rfl
    · rw [show (fun i => (listed.setIfInBounds j true).getD i false) = fun i => listed.getD i false || decide (i = j) from funext hset]
      exact hR'.eqv s3.symm
def Bd (S : AS) : Prop := ∀ id, S.obj id ≠ none → id < S.nx
theorem seq_ok (hG : GOK C G) (h : Sched0 G ops nid0 S es) {Q : Exit → Act → World → Prop} (hQ : ∀ E a w, RepE C (fin ops.toList es S) E a w → Q .normal a w) :
    ∀ (n k : Nat) (E : Env) (a : Act) (w : World), k + n = ops.size → RepE C (mst (upto k) ops.toList es 0 S) E a w → wpOps C.P ops Q (List.range' k n) a w
  | 0, k, E, a, w, hk, hR => by
    rw [mst_all (fun i hi => by simp [upto]; simp at hi; omega)] at hR
    exact hQ E a w hR
  | n + 1, k, E, a, w, hk, hR => by
    rw [List.range'_succ, wpOps_cons]
    have hlt : k < ops.size := by omega
    obtain ⟨e, q1, q2⟩ := h.has (Array.getElem?_eq_getElem hlt)
    refine step_ok hG hR (mst_dec h.dec) (fun d hd' => h.fresh (fun k' e' _ hle _ => by simp [upto]; omega) hd') (Array.getElem?_eq_getElem hlt) q2 (fun _ _ => rfl) (fun _ _ _ _ => rfl) (fun E' a' w' hR' => ?_)
    refine seq_ok hG h hQ n (k + 1) E' a' w' (by omega) ?_
    have := mst_step (i := 0) (k := k) (S := S) (toList_get (Array.getElem?_eq_getElem hlt)) q1
    rw [Nat.zero_add] at this
    rw [this]
    exact hR'
theorem region_ok (hG : GOK C G) (hmix : C.P.follows .mixedOrders = true) (hd : DecOK S) (hb : Bd S) (h : RepE C S E a w) {draw : Bool} {id : Nat} {Q' : AS → Prop} (hs : (evRegion G ops draw S).sat Q')
    {Q : Exit → Act → World → Prop} (hQ : ∀ S' E a w, Q' S' → DecOK S' → Bd S' → RepE C S' E a w → Q .normal a w) : (Code.region id ops draw).wp C.P Q a w := by
  unfold evRegion at hs
  obtain ⟨es, S', p1, p2, p3, p4, p5, p6⟩ := evOps_plan (sat_bnd hs) (show DecOK { S with nx := S.nx + 4 * ops.size } from hd)
  have hE0 : Eqv { S with nx := S.nx + 4 * ops.size } { S with dec := [] } := ⟨fun _ => rfl, fun _ => rfl⟩
  have hE1 : Eqv S { S with dec := [] } := ⟨fun _ => rfl, fun _ => rfl⟩
  have s0 : Sched0 G ops S.nx { S with dec := [] } es := ⟨rfl, hb, p2.eqv hE0⟩
  have hfin : Eqv S' (fin ops.toList es { S with dec := [] }) := p4.trans (fin_eqv hE0)
  have hB : Bd S' := by
    intro i hi
    rw [p6]
    show i < S.nx + 4 * ops.size
    rcases Nat.lt_or_ge i (S.nx + 4 * ops.size) with q | q
    · exact q
    · exfalso
      apply hi
      rw [hfin.o, ← mst_all (m := fun _ => true) (i := 0) (fun _ _ => rfl)]
      have h1 := mst_obj (m := fun _ => true) (m' := fun _ => false) (id := i) (l := ops.toList) (es := es) (i := 0) (S := { S with dec := [] }) (S' := { S with dec := [] }) rfl (fun k e hk hl hid => by
        exfalso
        have hl' : k < ops.size := by simpa using hl
        obtain ⟨e', q1, q2⟩ := s0.has (i := k) (Array.getElem?_eq_getElem hl')
        rw [q1] at hk
        cases hk
        cases e with
        | none => cases hid
        | some e =>
          obtain ⟨_, q3, _⟩ := q2.run e rfl
          have := wsOK_mem q3 _ hid
          omega)
      rw [h1, mst_none (fun _ => rfl)]
      cases hq : AS.obj { S with dec := [] } i with
      | none => rfl
      | some o => have := hb i (by rw [show S.obj i = some o from hq]; simp); omega
  cases draw with
  | false =>
    refine wp_region ?_
    rw [List.range_eq_range']
    refine seq_ok hG s0 (fun E a w hR => hQ S' E a w p3 p5 hB (hR.eqv hfin.symm)) ops.size 0 E a w (by omega) ?_
    rw [mst_none (fun _ => by simp [upto])]
    exact h.eqv hE1
  | true =>
    simp only at p3
    split at p3
    · rename_i hc
      rw [Bool.and_eq_true] at hc
      simp only [List.append_nil, List.reverse_reverse] at hc
      have s1 : Sched G ops S.nx { S with dec := [] } es := { s0 with fwd := hc.1, ord := hc.2 }
      refine wp_region_any hmix ?_
      refine any_ok hG s1 (fun E a w hR => hQ S' E a w p3 p5 hB (hR.eqv hfin.symm)) ops.size _ E a _ (by simp) ?_ ?_ ?_
      · unfold unl
        exact Nat.le_trans List.countP_le_length (by simp)
      · intro j hj
        simp [Array.getD_eq_getD_getElem?, Array.getElem?_replicate] at hj
        split at hj <;> simp at hj
      · rw [mst_none (fun k => by
          simp [Array.getD_eq_getD_getElem?, Array.getElem?_replicate]
          split <;> rfl)]
        exact (h.eqv hE1).heap rfl ⟨Nat.le_refl _, rfl, rfl, fun _ => rfl⟩
    · cases p3
end
end Go.Rx
/-! Rx, part 20: a state read as data, and made of them again, is the state still. -/
namespace Go.Rx
set_option linter.unusedVariables false
set_option linter.unusedSimpArgs false
theorem castT_rfl {e : Sh} (x : e.T) : castT rfl x = x := rfl
theorem ofTup_toTup : ∀ {l : List Sh} {ds : List Dat} {x : tupT l}, toTup l ds = some x → ofTup l x = ds
  | [], [], _, _ => rfl
  | [], d :: l, _, h => by cases h
  | [e], [], _, h => by cases h
  | [e], [d], x, h => by
    obtain ⟨e', y⟩ := d
    simp only [toTup] at h
    split at h
    · rename_i q _
      cases q
      cases h
      rfl
    · cases h
  | [e], d :: d' :: l, x, h => by simp [toTup] at h
  | e :: e' :: r, [], _, h => by cases h
  | e :: e' :: r, d :: l, x, h => by
    obtain ⟨e1, y⟩ := d
    simp only [toTup] at h
    split at h
    · rename_i q _
      cases q
      split at h
      · rename_i z hz
        cases h
        show (⟨e1, y⟩ : Dat) :: ofTup (e' :: r) z = _
        rw [ofTup_toTup hz]
      · cases h
    · cases h

section
variable {C : Ctx} {S : AS} {E E' : Env} {a : Act} {w : World} {A' : Nat → Prop} {D' : Nat → Prop} {m : Nat}
theorem dataAll_sound (hR : ∀ id o, S.obj id = some o → RepO (Dom S) E (Al C S E w) w id o) (hA : ∀ b, Al C S E w b → A' b) {e : Sh} {l : List AV} {vs : List Value} {d : DC e}
    (h : dataAll m S.obj e l = some d) (hl : RepL (Dom S) E (Al C S E w) w l vs) (hv : ∀ id o, id ∈ d.vis → S.obj id = some o → Owns E id o → (∀ e xs, o ≠ .arr e xs) → A' (E.β id)) : PC A' w e d.x vs := by
  unfold dataAll at h
  split at h
  · rename_i x vis hd
    cases h
    obtain ⟨c, r, e1, h2, h3⟩ := data_sound hR hA e l vs _ hd hl hv
    simp only [RepL] at h2
    subst h2
    rw [List.append_nil] at e1
    subst e1
    exact h3
  · cases h
theorem dataV_sound (hR : ∀ id o, S.obj id = some o → RepO (Dom S) E (Al C S E w) w id o) (hA : ∀ b, Al C S E w b → A' b) {e : Sh} {v : AV} {x : Value} {d : DC e}
    (h : dataV m S.obj e v = some d) (hx : RepV (Dom S) E (Al C S E w) w v x) (hv : ∀ id o, id ∈ d.vis → S.obj id = some o → Owns E id o → (∀ e xs, o ≠ .arr e xs) → A' (E.β id)) : RepV D' E' A' w (valAV e d.x) x := by
  have one : ∀ {e : Sh} {d : DC e}, dataAll m S.obj e [v] = some d → (∀ id o, id ∈ d.vis → S.obj id = some o → Owns E id o → (∀ e xs, o ≠ .arr e xs) → A' (E.β id)) → enc e d.x = [valAV e d.x] → RepV D' E' A' w (valAV e d.x) x := by
    intro e d hd hv he
    have h1 := enc_ok (D := D') (E := E') (dataAll_sound hR hA hd (vs := [x]) (by simp only [RepL]; exact ⟨x, [], rfl, hx, rfl⟩) hv)
    rw [he] at h1
    simp only [RepL] at h1
    obtain ⟨y, t, e2, h2, rfl⟩ := h1
    cases e2
    exact h2
  cases e with
  | st a =>
    cases v with
    | agg cs =>
      simp only [dataV] at h
      split at h
      · rename_i d1 hd1
        cases h
        simp only [RepV] at hx
        obtain ⟨vs, rfl, hl⟩ := hx
        simp only [valAV, RepV]
        refine ⟨vs, rfl, ?_⟩
        exact enc_ok (e := a) (dataAll_sound hR hA hd1 hl hv)
      · cases h
    | _ => cases h
  | pair a b => cases h
  | unit => cases h
  | int k => cases v <;> first | (cases h; done) | exact one h hv rfl
  | bool => cases v <;> first | (cases h; done) | exact one h hv rfl
  | str => cases v <;> first | (cases h; done) | exact one h hv rfl
  | sl e => cases v <;> first | (cases h; done) | exact one h hv rfl
  | ptr e => cases v <;> first | (cases h; done) | exact one h hv rfl
theorem dataAll_free {e : Sh} {l : List AV} {d : DC e} (h : dataAll m S.obj e l = some d) : ∀ id o, id ∈ d.vis → S.obj id = some o → FreeM m id o := by
  unfold dataAll at h
  split at h
  · rename_i x vis hd
    cases h
    exact data_free e l _ hd
  · cases h
theorem dataV_free {e : Sh} {v : AV} {d : DC e} (h : dataV m S.obj e v = some d) : ∀ id o, id ∈ d.vis → S.obj id = some o → FreeM m id o := by
  have one : ∀ {e : Sh} {d : DC e} {v : AV}, dataAll m S.obj e [v] = some d → ∀ id o, id ∈ d.vis → S.obj id = some o → FreeM m id o := fun h => dataAll_free h
  cases e with
  | st a =>
    cases v with
    | agg cs =>
      simp only [dataV] at h
      split at h
      · rename_i d1 hd1
        cases h
        exact fun id o hi => dataAll_free hd1 id o hi
      · cases h
    | _ => cases h
  | pair a b => cases h
  | unit => cases h
  | int k => exact one (show dataAll m S.obj (.int k) [v] = some d by cases v <;> first | (cases h; done) | exact h)
  | bool => exact one (show dataAll m S.obj .bool [v] = some d by cases v <;> first | (cases h; done) | exact h)
  | str => exact one (show dataAll m S.obj .str [v] = some d by cases v <;> first | (cases h; done) | exact h)
  | sl e => exact one (show dataAll m S.obj (.sl e) [v] = some d by cases v <;> first | (cases h; done) | exact h)
  | ptr e => exact one (show dataAll m S.obj (.ptr e) [v] = some d by cases v <;> first | (cases h; done) | exact h)

/-- The objects of the new state, by their places in the old one. -/
structure Moved (E : Env) (ids : List (Option Nat)) (E' : Env) : Prop where
  old : ∀ (j id : Nat), ids[j]? = some (some id) → E'.β j = E.β id ∧ E'.σ j = E.σ id ∧ E'.ln j = E.ln id
  nil : ∀ (j : Nat), ids[j]? = some none → E'.σ j = .slice none 0 0 ∧ E'.ln j = 0
theorem beqO_some {x : Option (Option Nat)} {id : Nat} (h : beqO x (some id) = true) : x = some (some id) := by
  unfold beqO at h
  split at h
  · rename_i a b q; cases q; have : a = id := by simpa using h
    rw [this]
  · rename_i q; cases q
  · cases h
theorem beqO_none {x : Option (Option Nat)} (h : beqO x none = true) : x = some none := by
  unfold beqO at h
  split at h
  · rename_i q; cases q
  · rfl
  · cases h
/-- What a value, once read as data, still is. -/
def VisIn (S : AS) (E : Env) (A' : Nat → Prop) (vis : List Nat) : Prop := ∀ id o, id ∈ vis → S.obj id = some o → Owns E id o → (∀ e xs, o ≠ .arr e xs) → A' (E.β id)
def FreeIn (S : AS) (m : Nat) (vis : List Nat) : Prop := ∀ id o, id ∈ vis → S.obj id = some o → FreeM m id o
theorem VisIn.left {a b : List Nat} (h : VisIn S E A' (a ++ b)) : VisIn S E A' a := fun id o hi => h id o (List.mem_append_left _ hi)
theorem VisIn.right {a b : List Nat} (h : VisIn S E A' (a ++ b)) : VisIn S E A' b := fun id o hi => h id o (List.mem_append_right _ hi)
theorem FreeIn.app {a b : List Nat} (h : FreeIn S m a) (h' : FreeIn S m b) : FreeIn S m (a ++ b) := fun id o hi => (List.mem_append.1 hi).elim (h id o) (h' id o)
section
variable (hR : ∀ id o, S.obj id = some o → RepO (Dom S) E (Al C S E w) w id o) (hA : ∀ b, Al C S E w b → A' b) {ids : List (Option Nat)} (hM : Moved E ids E') (hD : ∀ j, j < ids.length → D' j)
include hR hA hM hD
mutual
theorem projSD_sound (s : SD) {v : AV} {d : List Dat} {vis : List Nat} (rest : List Dat) (h : projSD m S ids s v = some (d, vis)) :
    FreeIn S m vis ∧ (takeSD s (d ++ rest)).2 = rest ∧ (VisIn S E A' vis → ∀ x, RepV (Dom S) E (Al C S E w) w v x → RepV D' E' A' w (takeSD s (d ++ rest)).1 x) := by
  have nof : FreeIn S m [] := fun id o hi => by cases hi
  have lt : ∀ {j : Nat} {y : Option Nat}, ids[j]? = some y → D' j := fun q => hD _ (List.getElem?_eq_some_iff.1 q).1
  cases s with
  | d e =>
    simp only [projSD] at h
    split at h
    · rename_i d1 hd
      cases h
      exact ⟨dataV_free hd, rfl, fun hv x q => dataV_sound hR hA hd q hv⟩
    · cases h
  | fn f a b =>
    cases v with
    | fn f' va vb =>
      simp only [projSD] at h
      split at h
      · rename_i d1 v1 d2 v2 hf h1 h2
        cases h
        have hf' : f = f' := by simpa using hf
        subst hf'
        obtain ⟨p0, p1, p2⟩ := projSDs_sound a (d2 ++ rest) h1
        obtain ⟨q0, q1, q2⟩ := projSDs_sound b rest h2
        refine ⟨p0.app q0, ?_, fun hv x q => ?_⟩
        · simp only [takeSD, List.append_assoc, p1, q1]
        · simp only [RepV] at q
          obtain ⟨fs, cs, rfl, r1, r2⟩ := q
          simp only [takeSD, List.append_assoc, RepV, p1]
          exact ⟨fs, cs, rfl, p2 hv.left fs r1, q2 hv.right cs r2⟩
      · cases h
    | _ => cases h
  | agg l =>
    cases v with
    | agg vs =>
      simp only [projSD] at h
      obtain ⟨p0, p1, p2⟩ := projSDs_sound l rest h
      refine ⟨p0, by simp only [takeSD, p1], fun hv x q => ?_⟩
      simp only [RepV] at q
      obtain ⟨xs, rfl, r1⟩ := q
      simp only [takeSD, RepV]
      exact ⟨xs, rfl, p2 hv xs r1⟩
    | _ => cases h
  | own j =>
    cases v with
    | own id =>
      simp only [projSD] at h
      split at h
      · rename_i hb
        cases h
        have hj := beqO_some hb
        refine ⟨nof, rfl, fun _ x q => ?_⟩
        simp only [RepV] at q
        simp only [takeSD, RepV]
        exact ⟨lt hj, q.2.trans (hM.old j id hj).2.1.symm⟩
      · cases h
    | nilsl =>
      simp only [projSD] at h
      split at h
      · rename_i hb
        cases h
        have hj := beqO_none hb
        refine ⟨nof, rfl, fun _ x q => ?_⟩
        simp only [RepV] at q
        simp only [takeSD, RepV]
        exact ⟨lt hj, q.trans (hM.nil j hj).1.symm⟩
      · cases h
    | _ => cases h
  | ptr j off =>
    cases v with
    | optr id off' =>
      simp only [projSD] at h
      split at h
      · rename_i hb ho
        cases h
        have hj := beqO_some hb
        have ho : off = off' := by simpa using ho
        subst ho
        refine ⟨nof, rfl, fun _ x q => ?_⟩
        simp only [RepV] at q
        simp only [takeSD, RepV]
        exact ⟨lt hj, by rw [(hM.old j id hj).1]; exact q.2⟩
      · cases h
    | _ => cases h
  | nl =>
    cases v with
    | nilsl =>
      simp only [projSD] at h
      cases h
      exact ⟨nof, rfl, fun _ x q => by simpa [takeSD, RepV] using q⟩
    | _ => cases h
  | tl j sz =>
    cases v with
    | otl id sz' lo =>
      simp only [projSD] at h
      split at h
      · rename_i hb hs
        cases h
        have hj := beqO_some hb
        have hs : sz = sz' := by simpa using hs
        subst hs
        refine ⟨nof, rfl, fun _ x q => ?_⟩
        simp only [RepV] at q
        obtain ⟨_, ad, c, e1, e2⟩ := q
        simp only [List.cons_append, List.nil_append, takeSD, Int.toNat_natCast, RepV]
        exact ⟨lt hj, ad, c, by rw [(hM.old j id hj).2.2]; exact e1, fun q => by rw [(hM.old j id hj).2.2] at q; rw [(hM.old j id hj).1]; exact e2 q⟩
      · cases h
    | _ => cases h
  | unk =>
    simp only [projSD] at h
    cases h
    exact ⟨nof, rfl, fun _ _ _ => by simp [takeSD, RepV]⟩
theorem projSDs_sound : ∀ (l : List SD) {vs : List AV} {d : List Dat} {vis : List Nat} (rest : List Dat), projSDs m S ids l vs = some (d, vis) →
    FreeIn S m vis ∧ (takeSDs l (d ++ rest)).2 = rest ∧ (VisIn S E A' vis → ∀ xs, RepL (Dom S) E (Al C S E w) w vs xs → RepL D' E' A' w (takeSDs l (d ++ rest)).1 xs)
  | [], [], d, vis, rest, h => by
    have _u1 := hR
    have _u2 := hA
    have _u3 := hM
    have _u4 := hD
    cases h
    exact ⟨fun id o hi => (by cases hi), rfl, fun _ xs q => by simpa [takeSDs, RepL] using q⟩
  | [], v :: vs, d, vis, rest, h => by cases h
  | e :: l, [], d, vis, rest, h => by cases h
  | e :: l, v :: vs, d, vis, rest, h => by
    simp only [projSDs] at h
    split at h
    · rename_i d1 a1 d2 a2 h1 h2
      cases h
      obtain ⟨p0, p1, p2⟩ := projSD_sound e (d2 ++ rest) h1
      obtain ⟨i0, i1, i2⟩ := projSDs_sound l rest h2
      refine ⟨p0.app i0, by simp only [takeSDs, List.append_assoc, p1, i1], fun hv xs q => ?_⟩
      simp only [RepL] at q
      obtain ⟨x, t, rfl, q1, q2⟩ := q
      simp only [takeSDs, List.append_assoc, p1, RepL]
      exact ⟨x, t, rfl, p2 hv.left x q1, i2 hv.right t q2⟩
    · cases h
end
theorem projS_sound : ∀ {ss : List (Nat × SD)} {d : List Dat} {vis : List Nat} (rest : List Dat), projS m S ids ss = some (d, vis) →
    FreeIn S m vis ∧ (VisIn S E A' vis → ∀ t v' x, look (takeS ss (d ++ rest)) t = some v' → RepV (Dom S) E (Al C S E w) w (S.get t) x → RepV D' E' A' w v' x)
  | [], d, vis, rest, h => by
    cases h
    exact ⟨fun id o hi => (by cases hi), fun _ t v' x q => by cases q⟩
  | s :: r, d, vis, rest, h => by
    simp only [projS] at h
    split at h
    · rename_i d1 a1 d2 a2 h1 h2
      cases h
      obtain ⟨p0, p1, p2⟩ := projSD_sound hR hA hM hD s.2 (d2 ++ rest) h1
      obtain ⟨i0, i1⟩ := projS_sound rest h2
      refine ⟨p0.app i0, fun hv t v' x q hx => ?_⟩
      simp only [takeS, List.append_assoc, p1] at q
      rw [look_cons] at q
      split at q
      · rename_i ht
        cases q
        subst ht
        exact p2 hv.left x hx
      · exact i1 hv.right t v' x q hx
    · cases h
end
/-- An object of the new state. -/
inductive NewO (S : AS) (E : Env) (A : Nat → Prop) (D' : Nat → Prop) (E' : Env) (A' : Nat → Prop) (w : World) : Option Nat → Obj → Prop where
  | nil (en : Bool) (e : Sh) (et : TypeId) : NewO S E A D' E' A' w none (.grow en e et [])
  | grow (id : Nat) (en en' : Bool) (e : Sh) (et : TypeId) (xs : List e.T) : S.obj id = some (.grow en' e et xs) → (en' = true → en = true) → NewO S E A D' E' A' w (some id) (.grow en e et xs)
  | arr (id : Nat) (e : Sh) (xs : List e.T) : S.obj id = some (.arr e xs) → NewO S E A D' E' A' w (some id) (.arr e xs)
  | gone (id : Nat) : (∀ e xs, S.obj id ≠ some (.arr e xs)) → (∀ cs, S.obj id ≠ some (.cells cs)) → NewO S E A D' E' A' w (some id) .gone
  | cells (id : Nat) (cs cs' : List AV) : S.obj id = some (.cells cs) → (∀ xs, RepL (Dom S) E A w cs xs → RepL D' E' A' w cs' xs) → NewO S E A D' E' A' w (some id) (.cells cs')
section
variable (hR : ∀ id o, S.obj id = some o → RepO (Dom S) E (Al C S E w) w id o) (hA : ∀ b, Al C S E w b → A' b) {ids : List (Option Nat)} (hM : Moved E ids E') (hD : ∀ j, j < ids.length → D' j)
include hR hA hM hD in
theorem projOS_sound {o : OS} {i : Option Nat} {d : List Dat} {vis : List Nat} (rest : List Dat) (h : projOS m S ids o i = some (d, vis)) :
    FreeIn S m vis ∧ (takeOS o (d ++ rest)).2 = rest ∧ (VisIn S E A' vis → NewO S E (Al C S E w) D' E' A' w i (takeOS o (d ++ rest)).1) := by
  have nof : FreeIn S m [] := fun id o hi => by cases hi
  cases o with
  | grow en e et =>
    cases i with
    | none => simp only [projOS] at h; cases h; exact ⟨nof, rfl, fun _ => .nil en e et⟩
    | some id =>
      simp only [projOS] at h
      split at h
      · rename_i en' e' et' xs ho
        split at h
        · rename_i q _ he hen
          cases h
          subst q
          have he : et' = et := by simpa using he
          subst he
          exact ⟨nof, rfl, fun _ => .grow id en en' e' et' xs ho (fun q => by subst q; simpa using hen)⟩
        · cases h
      · cases h
  | arr e =>
    cases i with
    | none => cases h
    | some id =>
      simp only [projOS] at h
      split at h
      · rename_i e' xs ho
        split at h
        · rename_i q _
          cases h
          subst q
          exact ⟨nof, rfl, fun _ => .arr id e' xs ho⟩
        · cases h
      · cases h
  | cells l =>
    cases i with
    | none => cases h
    | some id =>
      simp only [projOS] at h
      split at h
      · rename_i cs ho
        obtain ⟨p0, p1, p2⟩ := projSDs_sound hR hA hM hD l rest h
        exact ⟨p0, p1, fun hv => .cells id cs _ ho (p2 hv)⟩
      · cases h
  | gone =>
    cases i with
    | none => cases h
    | some id =>
      simp only [projOS] at h
      split at h
      · rename_i ho
        cases h
        exact ⟨nof, rfl, fun _ => .gone id (fun e xs q => by rw [ho] at q; cases q) (fun cs q => by rw [ho] at q; cases q)⟩
      · rename_i ho
        cases h
        exact ⟨nof, rfl, fun _ => .gone id (fun e xs q => by rw [ho] at q; cases q) (fun cs q => by rw [ho] at q; cases q)⟩
      · cases h
include hR hA hM hD in
theorem projO_sound : ∀ {os : List (Loc × OS)} {is : List (Option Nat)} {j : Nat} {d : List Dat} {vis : List Nat} (rest : List Dat), projO m S ids os is = some (d, vis) →
    FreeIn S m vis ∧ (takeO os j (d ++ rest)).2 = rest ∧ os.length = is.length ∧ (∀ i, j ≤ i → i < j + os.length → look (takeO os j (d ++ rest)).1 i ≠ none) ∧
    (∀ i o', look (takeO os j (d ++ rest)).1 i = some o' → j ≤ i ∧ i < j + os.length) ∧
    (VisIn S E A' vis → ∀ i o', look (takeO os j (d ++ rest)).1 (j + i) = some o' → ∃ y, is[i]? = some y ∧ NewO S E (Al C S E w) D' E' A' w y o')
  | [], [], j, d, vis, rest, h => by
    cases h
    refine ⟨fun id o hi => (by cases hi), rfl, rfl, fun i h1 h2 => ?_, fun i o' q => ?_, fun _ i o' q => ?_⟩
    · simp at h2; omega
    · cases q
    · cases q
  | [], i :: is, j, d, vis, rest, h => by cases h
  | o :: os, [], j, d, vis, rest, h => by cases h
  | o :: os, y :: is, j, d, vis, rest, h => by
    simp only [projO] at h
    split at h
    · rename_i d1 a1 d2 a2 h1 h2
      cases h
      obtain ⟨p0, p1, p2⟩ := projOS_sound hR hA hM hD (d2 ++ rest) h1
      obtain ⟨i0, i1, i2, i3, i4, i5⟩ := projO_sound (j := j + 1) rest h2
      refine ⟨p0.app i0, by simp only [takeO, List.append_assoc, p1, i1], by simp [i2], fun i q1 q2 => ?_, fun i o' q => ?_, fun hv i o' q => ?_⟩
      · simp only [takeO, List.append_assoc, p1]
        rw [look_cons]
        split
        · simp
        · simp at q2; exact i3 i (by omega) (by omega)
      · simp only [takeO, List.append_assoc, p1] at q
        rw [look_cons] at q
        simp only [List.length_cons]
        split at q
        · omega
        · have := i4 i o' q; omega
      · simp only [takeO, List.append_assoc, p1] at q
        rw [look_cons] at q
        split at q
        · rename_i hi
          cases q
          have : i = 0 := by omega
          subst this
          exact ⟨y, rfl, p2 hv.left⟩
        · rename_i hi
          cases i with
          | zero => omega
          | succ i =>
            rw [show j + (i + 1) = j + 1 + i by omega] at q
            obtain ⟨y', r1, r2⟩ := i5 hv.right i o' q
            exact ⟨y', by simpa using r1, r2⟩
    · cases h
end
theorem hasO_iff {id : Nat} : ∀ {ids : List (Option Nat)}, some id ∈ ids → hasO ids id = true
  | [], h => by cases h
  | none :: r, h => hasO_iff (ids := r) (by simpa using h)
  | some x :: r, h => by
    simp only [hasO]
    split
    · rfl
    · rename_i q
      rcases List.mem_cons.1 h with h | h
      · cases h; simp at q
      · exact hasO_iff h
theorem nodupO_inj {id : Nat} : ∀ {ids : List (Option Nat)}, nodupO ids = true → ∀ (i j : Nat), ids[i]? = some (some id) → ids[j]? = some (some id) → i = j
  | [], _, _, _, h, _ => by cases h
  | none :: r, hn, i, j, hi, hj => by
    cases i with
    | zero => cases hi
    | succ i => cases j with
      | zero => cases hj
      | succ j => rw [nodupO_inj (ids := r) hn i j (by simpa using hi) (by simpa using hj)]
  | some x :: r, hn, i, j, hi, hj => by
    simp only [nodupO] at hn
    split at hn
    · cases hn
    · rename_i hx
      have no : ∀ k, r[k]? = some (some x) → False := fun k hk => by rw [hasO_iff (List.mem_of_getElem? hk)] at hx; cases hx
      cases i with
      | zero =>
        cases hi
        cases j with
        | zero => rfl
        | succ j => exact (no j (by simpa using hj)).elim
      | succ i => cases j with
        | zero => cases hj; exact (no i (by simpa using hi)).elim
        | succ j => rw [nodupO_inj (ids := r) hn i j (by simpa using hi) (by simpa using hj)]
theorem live_get {y : Option Nat} {o' : Obj} : ∀ {os : List (Loc × OS)} {ids : List (Option Nat)} {j i : Nat} {l : List Dat}, look (takeO os j l).1 (j + i) = some o' → o' ≠ .gone → ids[i]? = some y → (liveO os ids)[i]? = some y
  | [], _, _, _, _, h, _, _ => by cases h
  | o :: os, [], _, _, _, _, _, h => by cases h
  | o :: os, y' :: is, j, i, l, h, hg, hi => by
    simp only [takeO] at h
    rw [look_cons] at h
    split at h
    · rename_i q
      cases h
      have : i = 0 := by omega
      subst this
      simp only [liveO, List.getElem?_cons_zero] at hi ⊢
      split
      · rename_i q2; rw [q2] at hg; exact absurd rfl hg
      · exact hi
    · rename_i q
      cases i with
      | zero => omega
      | succ i =>
        rw [show j + (i + 1) = j + 1 + i by omega] at h
        simp only [liveO, List.getElem?_cons_succ] at hi ⊢
        exact live_get h hg hi
theorem live_sub {id : Nat} : ∀ {os : List (Loc × OS)} {ids : List (Option Nat)} {i : Nat}, (liveO os ids)[i]? = some (some id) → ids[i]? = some (some id)
  | [], _, _, h => by cases h
  | o :: os, [], _, h => by cases h
  | o :: os, y' :: is, i, h => by
    cases i with
    | zero =>
      simp only [liveO, List.getElem?_cons_zero] at h ⊢
      split at h
      · cases h
      · exact h
    | succ i =>
      simp only [liveO, List.getElem?_cons_succ] at h ⊢
      exact live_sub h
theorem pinned_get {ids : List (Option Nat)} : ∀ {m : Nat}, pinned ids m = true → ∀ i, i < m → ids[i]? = some (some i)
  | 0, _, i, hi => by omega
  | m + 1, h, i, hi => by
    simp only [pinned] at h
    split at h
    · rename_i hb
      rcases Nat.lt_or_ge i m with q | q
      · exact pinned_get h i q
      · have : i = m := by omega
        subst this
        exact beqO_some hb
    · cases h
theorem apartO_get {ids : List (Option Nat)} {m : Nat} : ∀ {vis : List Nat}, apartO ids m vis = true → ∀ id, id ∈ vis → some id ∉ ids ∧ m ≤ id
  | [], _, _, h => by cases h
  | v :: r, h, id, hid => by
    simp only [apartO] at h
    split at h
    · rename_i h1 h2
      rcases List.mem_cons.1 hid with rfl | hid
      · exact ⟨fun q => (by rw [hasO_iff q] at h1; cases h1), by simpa using h2⟩
      · exact apartO_get h id hid
    · cases h
theorem head_get (D : Descr) (l : List Dat) (t : Nat) : (head D l).get t = match look (takeS D.ss (takeO D.os 0 l).2) t with | some v => v | none => .unk := rfl
theorem head_obj (D : Descr) (l : List Dat) (id : Nat) : (head D l).obj id = look (takeO D.os 0 l).1 id := rfl
theorem head_ok (h : RepE C S E a w) {D : Descr} {ids : List (Option Nat)} {d d' : List Dat} {v v' : List Nat} (hO : projO C.m S ids D.os ids = some (d, v)) (hS : projS C.m S ids D.ss = some (d', v'))
    (hn : ∀ (id i j : Nat), (liveO D.os ids)[i]? = some (some id) → (liveO D.os ids)[j]? = some (some id) → i = j) (hp : ∀ i, i < C.m → ids[i]? = some (some i)) (ha : ∀ id, id ∈ v ++ v' → some id ∉ ids) :
    ∃ E', Moved E ids E' ∧ RepE C (head D (d ++ d')) E' a w ∧ Bd (head D (d ++ d')) := by
  let E' : Env := ⟨fun j => match ids[j]? with | some (some id) => E.β id | _ => 0, fun j => match ids[j]? with | some (some id) => E.sl id | _ => (none, 0, 0), fun j => match ids[j]? with | some (some id) => E.ln id | _ => 0⟩
  have hM : Moved E ids E' := by
    refine ⟨fun j id hj => ?_, fun j hj => ?_⟩
    · simp only [E', Env.σ, hj]; exact ⟨trivial, trivial, trivial⟩
    · simp only [E', Env.σ, hj]; exact ⟨trivial, trivial⟩
  let S' := head D (d ++ d')
  let D' : Nat → Prop := fun j => j < ids.length
  -- shapes first, with no memory of the new state asked for
  obtain ⟨f0, f1, f2, f3, f4, _⟩ := projO_sound (j := 0) (A' := fun b => Al C S E w b ∨ True) (D' := D') h.h.objs (fun b hb => .inl hb) hM (fun j hj => hj) d' hO
  obtain ⟨g0, _⟩ := projS_sound (A' := fun b => Al C S E w b ∨ True) (D' := D') h.h.objs (fun b hb => .inl hb) hM (fun j hj => hj) [] hS
  have hdom : ∀ j, Dom S' j ↔ j < ids.length := by
    intro j
    constructor
    · intro q
      unfold Dom at q
      cases hq : S'.obj j with
      | none => exact (q hq).elim
      | some o => have := f4 j o hq; omega
    · intro q; exact f3 j (Nat.zero_le _) (by omega)
  have hDD : Dom S' = D' := by funext j; exact propext (hdom j)
  have weak : ∀ j o', S'.obj j = some o' → ∃ y, ids[j]? = some y ∧ NewO S E (Al C S E w) D' E' (fun b => Al C S E w b ∨ True) w y o' := by
    intro j o' hj
    obtain ⟨_, _, _, _, _, f5⟩ := projO_sound (j := 0) (A' := fun b => Al C S E w b ∨ True) (D' := D') h.h.objs (fun b hb => .inl hb) hM (fun j hj => hj) d' hO
    exact f5 (fun _ _ _ _ _ _ => .inr trivial) j o' (by rw [Nat.zero_add]; exact hj)
  have owns : ∀ j o', S'.obj j = some o' → Owns E' j o' → ∃ id o, ids[j]? = some (some id) ∧ S.obj id = some o ∧ Owns E id o ∧ E'.β j = E.β id ∧ (Entry C id o → Entry C j o') := by
    intro j o' hj hw
    obtain ⟨y, hy, hN⟩ := weak j o' hj
    have ent : ∀ id : Nat, ids[j]? = some (some id) → o' ≠ .gone → (∀ en e et xs, S.obj id ≠ some (.grow en e et xs)) → S.obj id ≠ some .gone → (∃ o, S.obj id = some o ∧ ∀ e xs, o ≠ .froz e xs) → id < C.m → j < C.m := by
      intro id hid hg hno hng hex hlt
      have hpi := hp id hlt
      cases hq : S'.obj id with
      | none => exact absurd hq ((hdom id).2 (List.getElem?_eq_some_iff.1 hpi).1)
      | some o2 =>
        have h2 : o2 ≠ .gone := by
          rintro rfl
          obtain ⟨y2, hy2, hN2⟩ := weak id _ hq
          rw [hpi] at hy2
          cases hy2
          cases hN2 with
          | gone _ k1 k2 =>
            obtain ⟨o, ho, hfz⟩ := hex
            cases o with
            | gone => exact hng ho
            | grow en e et xs => exact hno en e et xs ho
            | froz e xs => exact hfz e xs rfl
            | cells cs => exact k2 cs ho
            | arr e xs => exact k1 e xs ho
        have := hn id id j (live_get (j := 0) (by rw [Nat.zero_add]; exact hq) h2 hpi) (live_get (j := 0) (by rw [Nat.zero_add]; exact hj) hg hid)
        omega
    cases hN with
    | nil en e et => exact absurd (hM.nil j hy).1 hw
    | grow id en en' e et xs ho hen =>
      obtain ⟨m1, m2, m3⟩ := hM.old j id hy
      exact ⟨id, _, hy, ho, by rw [Owns, m2] at hw; exact hw, m1, hen⟩
    | arr id e xs ho =>
      obtain ⟨m1, m2, m3⟩ := hM.old j id hy
      exact ⟨id, _, hy, ho, trivial, m1, fun q => ent id hy (fun h => by cases h) (fun _ _ _ _ h => by rw [ho] at h; cases h) (fun h => by rw [ho] at h; cases h) ⟨_, ho, fun _ _ h => by cases h⟩ q⟩
    | gone id hx hy' => exact hw.elim
    | cells id cs cs' ho hc =>
      obtain ⟨m1, m2, m3⟩ := hM.old j id hy
      exact ⟨id, _, hy, ho, trivial, m1, fun q => ent id hy (fun h => by cases h) (fun _ _ _ _ h => by rw [ho] at h; cases h) (fun h => by rw [ho] at h; cases h) ⟨_, ho, fun _ _ h => by cases h⟩ q⟩
  have hA : ∀ b, Al C S E w b → Al C S' E' w b := by
    intro b hb
    rcases hb with hb | ⟨h1, h2, h3⟩
    · exact .inl hb
    · refine .inr ⟨h1, h2, fun j o' hj hw hβ => ?_⟩
      obtain ⟨id, o, q1, q2, q3, q4, _⟩ := owns j o' hj hw
      exact h3 id o q2 q3 (by rw [← q4]; exact hβ)
  have hvis : VisIn S E (Al C S' E' w) (v ++ v') := by
    intro id o hid ho hw harr
    have hni := ha id hid
    have hfr := h.h.fresh id o ho hw
    have hfree := f0.app g0 id o hid ho
    refine .inr ⟨?_, hfr.1, ?_⟩
    · rcases hfr.2 with q | ⟨_, q⟩
      · exact q
      · cases o with
        | grow en e et xs => simp only [FreeM, Entry] at hfree q; rw [hfree] at q; cases q
        | cells cs => simp only [FreeM, Entry] at hfree q; omega
        | arr e xs => exact absurd rfl (harr e xs)
        | gone => exact hw.elim
        | froz e xs => exact hw.elim
    · intro j o' hj hwj hβ
      obtain ⟨id2, o2, q1, q2, q3, q4, _⟩ := owns j o' hj hwj
      have := h.h.inj id2 id o2 o q2 q3 ho hw (by rw [← q4]; exact hβ)
      subst this
      exact hni (List.mem_of_getElem? q1)
  obtain ⟨_, k1, _, _, _, k5⟩ := projO_sound (j := 0) (D' := D') h.h.objs hA hM (fun j hj => hj) d' hO
  obtain ⟨_, l1⟩ := projS_sound (D' := D') h.h.objs hA hM (fun j hj => hj) [] hS
  have up : ∀ {s : Sh} {x : s.T} {cs : List Value}, PC (Al C S E w) w s x cs → PC (Al C S' E' w) w s x cs := fun q => q.mono hA (fun _ _ _ _ q => q)
  refine ⟨E', hM, ⟨h.n, h.d, ⟨h.h.a0, h.h.gl, h.h.lat, h.h.keep, ?_, ?_, ?_, ?_⟩, ?_⟩, ?_⟩
  · intro i hi
    have hid := hp i hi
    obtain ⟨m1, m2, m3⟩ := hM.old i i hid
    obtain ⟨p1, p2, p3, p4⟩ := h.h.pin i hi
    exact ⟨(hdom i).2 (List.getElem?_eq_some_iff.1 hid).1, m1.trans p2, m2.trans p3, m3.trans p4⟩
  · intro j o' hj hw
    obtain ⟨id, o, q1, q2, q3, q4, q5⟩ := owns j o' hj hw
    have := h.h.fresh id o q2 q3
    rw [q4]
    exact ⟨this.1, this.2.imp (fun q => q) fun q => ⟨q.1, q5 q.2⟩⟩
  · intro i j oi oj hi hwi hj hwj hβ
    obtain ⟨id, o, q1, q2, q3, q4, _⟩ := owns i oi hi hwi
    obtain ⟨id2, o2, r1, r2, r3, r4, _⟩ := owns j oj hj hwj
    have := h.h.inj id id2 o o2 q2 q3 r2 r3 (by rw [← q4, ← r4]; exact hβ)
    subst this
    exact hn _ i j (live_get (j := 0) (by rw [Nat.zero_add]; exact hi) (fun h => by subst h; exact hwi.elim) q1) (live_get (j := 0) (by rw [Nat.zero_add]; exact hj) (fun h => by subst h; exact hwj.elim) r1)
  · intro j o' hj
    obtain ⟨y, hy, hN⟩ := k5 hvis.left j o' (by rw [Nat.zero_add]; exact hj)
    rw [hDD]
    cases hN with
    | nil en e et => obtain ⟨m1, m2⟩ := hM.nil j hy; exact ⟨m2, .inl ⟨m1, rfl⟩⟩
    | grow id en en' e et xs ho hen =>
      obtain ⟨m1, m2, m3⟩ := hM.old j id hy
      have hr := h.h.objs id _ ho
      simp only [RepO] at hr ⊢
      rw [m1, m2, m3]
      refine ⟨hr.1, hr.2.imp (fun q => q) ?_⟩
      rintro ⟨cap, cur, cells, r1, r2, r3, r4, r5, r6, r7⟩
      exact ⟨cap, cur, cells, r1, r2, r3, r4, r5, r6.imp (fun _ _ => up), r7⟩
    | arr id e xs ho =>
      obtain ⟨m1, m2, m3⟩ := hM.old j id hy
      have hr := h.h.objs id _ ho
      simp only [RepO] at hr ⊢
      rw [m1, m3]
      obtain ⟨r1, cells, et, r2, r3⟩ := hr
      exact ⟨r1, cells, et, r2, r3.imp (fun _ _ => up)⟩
    | gone id hx hy' => simp only [RepO]
    | cells id cs cs' ho hc =>
      obtain ⟨m1, m2, m3⟩ := hM.old j id hy
      have hr := h.h.objs id _ ho
      simp only [RepO] at hr ⊢
      rw [m1]
      obtain ⟨vs, et, r1, r2⟩ := hr
      exact ⟨vs, et, r1, hc vs r2⟩
  · intro t
    rw [hDD]
    rw [head_get, k1]
    cases hq : look (takeS D.ss d') t with
    | none => simp [RepV]
    | some v1 => exact l1 hvis.right t v1 _ (by rw [List.append_nil]; exact hq) (h.t t)
  · intro j hj
    have := (hdom j).1 hj
    show j < D.os.length
    omega
end
end Go.Rx

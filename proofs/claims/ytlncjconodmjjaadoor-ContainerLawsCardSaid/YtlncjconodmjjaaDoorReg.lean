/- Rx, part 17: a region, in its own order or in any order that its edges allow. -/
import Derived.Test.YtlncjconodmjjaaDoorAgree2
import Derived.Orders
namespace Go.Rx
set_option linter.unusedVariables false
set_option linter.unusedSimpArgs false
theorem sat_bnd {α β : Type} {f : α → Tree β} {Q : β → Prop} : ∀ {t : Tree α}, (t.bnd f).sat Q → t.sat (fun a => (f a).sat Q)
  | .leaf _, h => h
  | .br _ _ _, h => by
    rcases h with ⟨h1, h2⟩ | ⟨h1, h2⟩
    · exact .inl ⟨h1, sat_bnd h2⟩
    · exact .inr ⟨h1, sat_bnd h2⟩
  | .chk _ _, h => ⟨h.1, sat_bnd h.2⟩
  | .bind _ _ _, h => by
    obtain ⟨r, h1, h2⟩ := h
    exact ⟨r, h1, sat_bnd h2⟩
  | .alt _ _ _ _ _, h => by
    rcases h with ⟨r, h1, h2⟩ | ⟨r, h1, h2⟩
    · exact .inl ⟨r, h1, sat_bnd h2⟩
    · exact .inr ⟨r, h1, sat_bnd h2⟩
  | .fail, h => h
theorem sat_ex {α : Type} {Q : α → Prop} : ∀ {t : Tree α}, t.sat Q → ∃ a, Q a ∧ t.sat (· = a)
  | .leaf a, h => ⟨a, h, rfl⟩
  | .br _ _ _, h => by
    rcases h with ⟨h1, h2⟩ | ⟨h1, h2⟩
    · obtain ⟨a, q, r⟩ := sat_ex h2; exact ⟨a, q, .inl ⟨h1, r⟩⟩
    · obtain ⟨a, q, r⟩ := sat_ex h2; exact ⟨a, q, .inr ⟨h1, r⟩⟩
  | .chk _ _, h => by
    obtain ⟨a, q, r⟩ := sat_ex h.2; exact ⟨a, q, h.1, r⟩
  | .bind _ _ _, h => by
    obtain ⟨r, h1, h2⟩ := h
    obtain ⟨a, q, s⟩ := sat_ex h2; exact ⟨a, q, r, h1, s⟩
  | .alt _ _ _ _ _, h => by
    rcases h with ⟨r, h1, h2⟩ | ⟨r, h1, h2⟩
    · obtain ⟨a, q, s⟩ := sat_ex h2; exact ⟨a, q, .inl ⟨r, h1, s⟩⟩
    · obtain ⟨a, q, s⟩ := sat_ex h2; exact ⟨a, q, .inr ⟨r, h1, s⟩⟩
  | .fail, h => h.elim

structure Eqv (S S' : AS) : Prop where
  g : ∀ t, S.get t = S'.get t
  o : ∀ id, S.obj id = S'.obj id
theorem Eqv.refl (S : AS) : Eqv S S := ⟨fun _ => rfl, fun _ => rfl⟩
theorem Eqv.symm {S S' : AS} (h : Eqv S S') : Eqv S' S := ⟨fun t => (h.g t).symm, fun id => (h.o id).symm⟩
theorem Eqv.trans {S S' S'' : AS} (h : Eqv S S') (h' : Eqv S' S'') : Eqv S S'' := ⟨fun t => (h.g t).trans (h'.g t), fun id => (h.o id).trans (h'.o id)⟩
section
variable {C : Ctx} {S S' : AS} {E : Env} {a : Act} {w : World} {G : Gl}
theorem RepE.eqv (h : RepE C S E a w) (q : Eqv S S') : RepE C S' E a w := by
  have ho : S.obj = S'.obj := funext q.o
  have hg : S.get = S'.get := funext q.g
  have hD : Dom S = Dom S' := by funext id; simp [Dom, ho]
  have hA : Al C S E w = Al C S' E w := by funext b; simp [Al, ho]
  refine ⟨h.n, h.d, ⟨h.h.a0, h.h.gl, h.h.lat, h.h.keep, ?_, ?_, ?_, ?_⟩, ?_⟩
  · intro i hi; rw [← ho]; exact h.h.pin i hi
  · rw [← ho]; exact h.h.fresh
  · rw [← ho]; exact h.h.inj
  · rw [← ho, ← hD, ← hA]; exact h.h.objs
  · rw [← hg, ← hD, ← hA]; exact h.t
theorem RepE.heap {w' : World} (h : RepE C S E a w) (q : w'.heap = w.heap) (ql : Later w w') : RepE C S E a w' := by
  refine (RepE.step (S' := S) (E' := E) h (fun _ => rfl) ql (fun b _ _ => by rw [q]) (fun id hd => ⟨hd, rfl, rfl, rfl⟩) (fun b _ _ hb => hb) (fun b _ => by rw [q]) (fun _ id o ho => .inl ⟨ho, fun _ => by rw [q]⟩) h.h.inj).1
theorem get_putN (S : AS) (v : AV) (t : Nat) : (S.put none v).get t = S.get t := rfl
theorem RepE.put (h : RepE C S E a w) {dst : Option Nat} {v : AV} {x : Value} (hx : RepV (Dom S) E (Al C S E w) w v x) (hd : dstOK C.N dst = true ∨ v = .unk ∨ (v = .undef ∧ x = undef)) : RepE C (S.put dst v) E (a.put dst x) w := by
  cases dst with
  | none => exact h
  | some d =>
    have ho : ∀ id, (S.put (some d) v).obj id = S.obj id := obj_put S (some d) v
    have h1 : RepE C (S.put (some d) v) E (a.put (some d) x) w ↔ ((a.tmps.setIfInBounds d x).size = C.N ∧ a.defers = [] ∧ ∀ t, RepV (Dom S) E (Al C S E w) w ((S.put (some d) v).get t) ((a.tmps.setIfInBounds d x).getD t undef)) := by
      have ho' : (S.put (some d) v).obj = S.obj := funext ho
      have hD : Dom (S.put (some d) v) = Dom S := by funext id; simp [Dom, ho']
      have hA : Al C (S.put (some d) v) E w = Al C S E w := by funext b; simp [Al, ho']
      constructor
      · intro q
        refine ⟨q.n, q.d, fun t => ?_⟩
        have := q.t t
        rw [hD, hA] at this
        exact this
      · intro ⟨q1, q2, q3⟩
        refine ⟨q1, q2, ⟨h.h.a0, h.h.gl, h.h.lat, h.h.keep, ?_, ?_, ?_, ?_⟩, ?_⟩
        · intro i hi; rw [ho']; exact h.h.pin i hi
        · rw [ho']; exact h.h.fresh
        · rw [ho']; exact h.h.inj
        · rw [ho', hD, hA]; exact h.h.objs
        · rw [hD, hA]; exact q3
    refine h1.2 ⟨by simpa using h.n, h.d, fun t => ?_⟩
    rw [get_put]
    by_cases ht : t = d
    · subst ht
      rw [if_pos rfl]
      rcases hd with hd | hd
      · have : t < a.tmps.size := by rw [h.n]; simpa [dstOK, Nat.blt_eq] using hd
        simpa [Array.getD_eq_getD_getElem?, Array.getElem?_setIfInBounds, this] using hx
      · rcases hd with hd | ⟨hd, hx'⟩
        · subst hd; simp [RepV]
        · subst hd; subst hx'
          have : (a.tmps.setIfInBounds t undef).getD t undef = undef := by
            simp only [Array.getD_eq_getD_getElem?, Array.getElem?_setIfInBounds]
            split <;> (try split) <;> simp_all
          rw [this]
          simp [RepV]
    · rw [if_neg ht]
      have : (a.tmps.setIfInBounds d x).getD t undef = a.tmps.getD t undef := by
        simp [Array.getD_eq_getD_getElem?, Array.getElem?_setIfInBounds, Ne.symm ht]
      rw [this]
      exact h.t t
end

def AS.doneBy (S : AS) (o : Oper) : Option Eff → AS
  | some e => S.aft o.dst e
  | none => S.put o.dst .undef
theorem get_aft (S : AS) (d : Option Nat) (e : Eff) (t : Nat) : (S.aft d e).get t = if d = some t then e.v else S.get t := by
  cases d with
  | none => rfl
  | some d =>
    show ((S.setObjs e.ws).put (some d) e.v).get t = _
    rw [get_put, get_setObjs]
    by_cases h : t = d
    · simp [h]
    · simp [h, Ne.symm h]
theorem obj_aft (S : AS) (d : Option Nat) (e : Eff) (id : Nat) : (S.aft d e).obj id = (S.setObjs e.ws).obj id := obj_put _ _ _ _
theorem get_doneBy (S : AS) (o : Oper) (e : Option Eff) (t : Nat) : (S.doneBy o e).get t = if o.dst = some t then (match e with | some e => e.v | none => .undef) else S.get t := by
  cases e with
  | some e => exact get_aft S o.dst e t
  | none =>
    show (S.put o.dst .undef).get t = _
    cases h : o.dst with
    | none => simp; rfl
    | some d =>
      rw [get_put]
      by_cases h : t = d
      · simp [h]
      · simp [h, Ne.symm h]
def wids : Option Eff → List Nat
  | some e => e.ws.map (·.1)
  | none => []
theorem look_app {α : Type} : ∀ (l l' : List (Nat × α)) (n : Nat), look (l ++ l') n = match look l n with | some v => some v | none => look l' n
  | [], _, _ => rfl
  | p :: l, l', n => by
    obtain ⟨k, v⟩ := p
    rw [List.cons_append, look_cons, look_cons]
    split
    · rfl
    · exact look_app l l' n
theorem look_none {α : Type} : ∀ {l : List (Nat × α)} {n : Nat}, n ∉ l.map (·.1) → look l n = none
  | [], _, _ => rfl
  | p :: l, n, h => by
    obtain ⟨k, v⟩ := p
    rw [look_cons, if_neg (by intro q; exact h (by simp [q])), look_none (by intro q; exact h (by simp [q]))]
theorem look_some {α : Type} : ∀ {l : List (Nat × α)} {n : Nat}, n ∈ l.map (·.1) → ∃ v, look l n = some v
  | [], _, h => by cases h
  | p :: l, n, h => by
    obtain ⟨k, v⟩ := p
    rw [look_cons]
    by_cases q : n = k
    · exact ⟨v, by simp [q]⟩
    · rw [if_neg q]
      exact look_some (by simpa [q] using h)
theorem obj_doneBy (S : AS) (o : Oper) (e : Option Eff) (id : Nat) : (S.doneBy o e).obj id = match e with | some e => (match look e.ws id with | some v => some v | none => S.obj id) | none => S.obj id := by
  cases e with
  | some e =>
    show (S.aft o.dst e).obj id = _
    rw [obj_aft]
    show look (e.ws ++ S.h) id = _
    rw [look_app]
    show _ = (match look e.ws id with | some v => some v | none => S.obj id)
    cases look e.ws id <;> rfl
  | none => exact obj_put _ _ _ _
theorem obj_doneBy_ne {S : AS} {o : Oper} {e : Option Eff} {id : Nat} (h : id ∉ wids e) : (S.doneBy o e).obj id = S.obj id := by
  rw [obj_doneBy]
  cases e with
  | some e => simp only [look_none (show id ∉ e.ws.map (·.1) from h)]
  | none => rfl
theorem obj_doneBy_mem {S S' : AS} {o : Oper} {e : Option Eff} {id : Nat} (h : id ∈ wids e) : (S.doneBy o e).obj id = (S'.doneBy o e).obj id := by
  rw [obj_doneBy, obj_doneBy]
  cases e with
  | some e => obtain ⟨v, hv⟩ := look_some (show id ∈ e.ws.map (·.1) from h); simp only [hv]
  | none => cases h
theorem Eqv.doneBy {S S' : AS} (h : Eqv S S') (o : Oper) (e : Option Eff) : Eqv (S.doneBy o e) (S'.doneBy o e) := by
  refine ⟨fun t => ?_, fun id => ?_⟩
  · rw [get_doneBy, get_doneBy, h.g]
  · rw [obj_doneBy, obj_doneBy, h.o]

structure DidOK (G : Gl) (all : Array Oper) (nid0 nid : Nat) (S : AS) (o : Oper) (e : Option Eff) : Prop where
  guard : match o.guard with | none => e.isSome = true | some (j, want) => ∃ t, guardTmp all j = some t ∧ ((∃ c, S.get t = .bool c ∧ (c == want) = e.isSome) ∨ (S.get t = .undef ∧ e = none))
  run : ∀ e', e = some e' → dstOK G.n o.dst = true ∧ wsOK nid e'.ws = true ∧ ∃ S', Eqv S' S ∧ DecOK S' ∧ (evOp G S' nid o.op).sat (· = e')
def Plan (G : Gl) (all : Array Oper) (nid0 : Nat) : List Oper → Nat → AS → List (Option Eff) → Prop
  | [], _, _, es => es = []
  | o :: r, i, S, es => ∃ e es', es = e :: es' ∧ DidOK G all nid0 (nid0 + 4 * i) S o e ∧ Plan G all nid0 r (i + 1) (S.doneBy o e) es'
def fin : List Oper → List (Option Eff) → AS → AS
  | o :: r, e :: es, S => fin r es (S.doneBy o e)
  | _, _, S => S
theorem DidOK.eqv {G : Gl} {all : Array Oper} {nid0 nid : Nat} {S S' : AS} {o : Oper} {e : Option Eff} (h : DidOK G all nid0 nid S o e) (q : Eqv S S') : DidOK G all nid0 nid S' o e := by
  refine ⟨?_, fun e' he => ?_⟩
  · have := h.guard
    split at this
    · simpa using this
    · obtain ⟨t, h1, h2⟩ := this
      exact ⟨t, h1, by rw [← q.g]; exact h2⟩
  · obtain ⟨h1, h2, S'', h3, h4⟩ := h.run e' he
    exact ⟨h1, h2, S'', h3.trans q, h4⟩
theorem Plan.eqv {G : Gl} {all : Array Oper} {nid0 : Nat} : ∀ {l : List Oper} {i : Nat} {S S' : AS} {es : List (Option Eff)}, Plan G all nid0 l i S es → Eqv S S' → Plan G all nid0 l i S' es
  | [], _, _, _, _, h, _ => h
  | o :: r, i, S, S', es, h, q => by
    obtain ⟨e, es', h1, h2, h3⟩ := h
    exact ⟨e, es', h1, h2.eqv q, h3.eqv (q.doneBy o e)⟩
theorem fin_eqv : ∀ {l : List Oper} {es : List (Option Eff)} {S S' : AS}, Eqv S S' → Eqv (fin l es S) (fin l es S')
  | [], es, S, S', q => by simpa [fin] using q
  | o :: r, [], S, S', q => by simpa [fin] using q
  | o :: r, e :: es, S, S', q => by
    show Eqv (fin r es (S.doneBy o e)) (fin r es (S'.doneBy o e))
    exact fin_eqv (q.doneBy o e)
def trOf : Option Eff → List Nat × List Nat
  | some e => (e.rd, e.ws.map (·.1))
  | none => ([], [])
theorem strike_mem {d : Nat} : ∀ {l : List (Nat × Bool)} {p : Nat × Bool}, p ∈ strike d l → p ∈ l ∧ p.1 ≠ d
  | [], _, h => by cases h
  | q :: l, p, h => by
    unfold strike at h
    split at h
    · obtain ⟨h1, h2⟩ := strike_mem h
      exact ⟨List.mem_cons_of_mem _ h1, h2⟩
    · rename_i hq
      rcases List.mem_cons.1 h with h | h
      · subst h
        exact ⟨List.mem_cons_self, fun e => by simp [e] at hq⟩
      · obtain ⟨h1, h2⟩ := strike_mem h
        exact ⟨List.mem_cons_of_mem _ h1, h2⟩
theorem DecOK.put {S : AS} (h : DecOK S) (d : Option Nat) (v : AV) : DecOK (S.put d v) := by
  cases d with
  | none => exact h
  | some d =>
    intro p hp
    obtain ⟨h1, h2⟩ := strike_mem hp
    rw [get_put, if_neg h2]
    exact h p h1
theorem DecOK.dec {S : AS} (h : DecOK S) {dec : List (Nat × Bool)} (hd : ∀ p, p ∈ dec → S.get p.1 = .bool p.2) : DecOK { S with dec := dec ++ S.dec } := by
  intro p hp
  rcases List.mem_append.1 hp with hp | hp
  · exact hd p hp
  · exact h p hp
theorem dec_eqv (S : AS) (dec : List (Nat × Bool)) : Eqv { S with dec := dec } S := ⟨fun _ => rfl, fun _ => rfl⟩
theorem pick_dec {G : Gl} {S : AS} {nid : Nat} {op : Op} {e : Eff} (hd : DecOK S) (hp : isPick op = true) (h : (evOp G S nid op).sat (· = e)) : ∀ p, p ∈ e.dec → S.get p.1 = .bool p.2 := by
  cases op <;> simp [isPick] at hp
  simp only [evOp] at h
  obtain ⟨b, dec, h1, h2, h3⟩ := withBool_sat hd h
  cases h1
  exact fun p hp => (h3 p hp).1
theorem DecOK.apply {G : Gl} {S : AS} {nid : Nat} {o : Oper} {e : Eff} (hd : DecOK S) (h : (evOp G S nid o.op).sat (· = e)) : DecOK (S.apply o e) := by
  show DecOK (AS.put _ _ _)
  refine DecOK.put ?_ _ _
  intro p hp
  rcases List.mem_append.1 hp with hp | hp
  · split at hp
    · exact pick_dec hd (by assumption) h p hp
    · cases hp
  · exact hd p hp
theorem apply_eqv (S : AS) (o : Oper) (e : Eff) : Eqv (S.apply o e) (S.doneBy o (some e)) := by
  refine ⟨fun t => ?_, fun id => ?_⟩
  · show (AS.aft _ _ _).get t = (AS.aft _ _ _).get t
    rw [get_aft, get_aft]; rfl
  · show (AS.aft _ _ _).obj id = (AS.aft _ _ _).obj id
    rw [obj_aft, obj_aft]; rfl
theorem apply_nx (S : AS) (o : Oper) (e : Eff) : (S.apply o e).nx = S.nx := by
  show (AS.put _ _ _).nx = _
  cases o.dst <;> rfl
theorem put_nx (S : AS) (d : Option Nat) (v : AV) : (S.put d v).nx = S.nx := by cases d <;> rfl
theorem op1_sat {G : Gl} {nid : Nat} {o : Oper} {S : AS} {Q : Eff → Prop} (h : (evOp1 G nid o S).sat Q) : ∃ e, Q e ∧ dstOK G.n o.dst = true ∧ wsOK nid e.ws = true ∧ (evOp G S nid o.op).sat (· = e) := by
  unfold evOp1 at h
  split at h
  · cases h
  · rename_i hd
    obtain ⟨e, h1, h2⟩ := sat_ex (sat_bnd h)
    split at h1
    · exact ⟨e, h1, hd, by assumption, h2⟩
    · cases h1
theorem evOps_plan {G : Gl} {all : Array Oper} {nid0 : Nat} {Q : AS × Trace → Prop} : ∀ {l : List Oper} {i : Nat} {S : AS} {tr : Trace}, (evOps G all nid0 l i S tr).sat Q → DecOK S →
    ∃ es S', es.length = l.length ∧ Plan G all nid0 l i S es ∧ Q (S', (es.map trOf).reverse ++ tr) ∧ Eqv S' (fin l es S) ∧ DecOK S' ∧ S'.nx = S.nx
  | [], i, S, tr, h, hd => ⟨[], S, rfl, rfl, h, Eqv.refl S, hd, rfl⟩
  | o :: r, i, S, tr, h, hd => by
    rw [evOps] at h
    split at h
    · rename_i hg
      obtain ⟨e, h1, h2, h3, h4⟩ := op1_sat (sat_bnd h)
      obtain ⟨es, S', q1, q2, q3, q4, q5, q6⟩ := evOps_plan h1 (hd.apply h4)
      refine ⟨some e :: es, S', by simp [q1], ⟨some e, es, rfl, ⟨by rw [hg]; rfl, fun e' he => by cases he; exact ⟨h2, h3, S, Eqv.refl S, hd, h4⟩⟩, q2.eqv (apply_eqv S o e)⟩, ?_, ?_, q5, by rw [q6, apply_nx]⟩
      · simpa [trOf] using q3
      · exact q4.trans (fin_eqv (apply_eqv S o e))
    · rename_i j want hg
      split at h
      · cases h
      · rename_i t ht
        split at h
        · rename_i hu
          have hu' : S.get t = .undef := by
            unfold isUndef at hu
            split at hu
            · assumption
            · cases hu
          obtain ⟨es, S', q1, q2, q3, q4, q5, q6⟩ := evOps_plan h (hd.put o.dst .undef)
          refine ⟨none :: es, S', by simp [q1], ⟨none, es, rfl, ⟨by rw [hg]; exact ⟨t, ht, .inr ⟨hu', rfl⟩⟩, fun e' he => by cases he⟩, q2⟩, ?_, q4, q5, by rw [q6, put_nx]⟩
          simpa [trOf] using q3
        obtain ⟨c, dec, h1, h2, h3⟩ := withBool_sat hd h
        have hd' : DecOK { S with dec := dec ++ S.dec } := hd.dec fun p hp => (h3 p hp).1
        have hE : Eqv { S with dec := dec ++ S.dec } S := dec_eqv _ _
        split at h1
        · rename_i hc
          obtain ⟨e, r1, r2, r3, r4⟩ := op1_sat (sat_bnd h1)
          obtain ⟨es, S', q1, q2, q3, q4, q5, q6⟩ := evOps_plan r1 (hd'.apply r4)
          refine ⟨some e :: es, S', by simp [q1], ⟨some e, es, rfl, ⟨by rw [hg]; exact ⟨t, ht, .inl ⟨c, h2, by rw [hc]; rfl⟩⟩, fun e' he => by cases he; exact ⟨r2, r3, _, hE, hd', r4⟩⟩, q2.eqv ((apply_eqv _ o e).trans (hE.doneBy o (some e)))⟩, ?_, ?_, q5, by rw [q6, apply_nx]⟩
          · simpa [trOf] using q3
          · exact q4.trans (fin_eqv ((apply_eqv _ o e).trans (hE.doneBy o (some e))))
        · rename_i hc
          obtain ⟨es, S', q1, q2, q3, q4, q5, q6⟩ := evOps_plan h1 (hd'.put o.dst .undef)
          refine ⟨none :: es, S', by simp [q1], ⟨none, es, rfl, ⟨by rw [hg]; exact ⟨t, ht, .inl ⟨c, h2, by simpa using hc⟩⟩, fun e' he => by cases he⟩, q2.eqv (hE.doneBy o none)⟩, ?_, ?_, q5, by rw [q6, put_nx]⟩
          · simpa [trOf] using q3
          · exact q4.trans (fin_eqv (hE.doneBy o none))
end Go.Rx

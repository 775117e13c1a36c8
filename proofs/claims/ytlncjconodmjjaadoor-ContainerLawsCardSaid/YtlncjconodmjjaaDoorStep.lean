/- Rx, part 4: new memory, writes, and what is given up: what an abstract state tells is kept. -/
import Derived.Test.YtlncjconodmjjaaDoorRep
namespace Go.Rx
set_option linter.unusedVariables false

theorem look_cons {α : Type} (k : Nat) (v : α) (l : List (Nat × α)) (n : Nat) : look ((k, v) :: l) n = if n = k then some v else look l n := by
  have e : look ((k, v) :: l) n = match Nat.beq k n with | true => some v | false => look l n := rfl
  rw [e]
  by_cases h : n = k
  · subst h; simp [Nat.beq_refl]
  · have : Nat.beq k n = false := by
      cases hb : Nat.beq k n with
      | false => rfl
      | true => exact absurd (Nat.eq_of_beq_eq_true hb).symm h
    simp [this, h]
theorem obj_cons (S : AS) (k : Nat) (o : Obj) (l : List (Nat × Obj)) (id : Nat) : (S.setObjs ((k, o) :: l)).obj id = if id = k then some o else (S.setObjs l).obj id := by
  simp only [AS.setObjs, AS.obj, List.cons_append, look_cons]
theorem obj_nil (S : AS) (id : Nat) : (S.setObjs []).obj id = S.obj id := rfl
theorem get_setObjs (S : AS) (l : List (Nat × Obj)) (t : Nat) : (S.setObjs l).get t = S.get t := rfl
theorem get_put (S : AS) (d : Nat) (v : AV) (t : Nat) : (S.put (some d) v).get t = if t = d then v else S.get t := by
  simp only [AS.put, AS.get, look_cons]
  by_cases h : t = d <;> simp [h]
theorem obj_put (S : AS) (d : Option Nat) (v : AV) (id : Nat) : (S.put d v).obj id = S.obj id := by
  cases d <;> rfl

def Env.upd (E : Env) (id b : Nat) (s : Option Addr × Nat × Nat) (n : Nat) : Env :=
  ⟨fun i => if i = id then b else E.β i, fun i => if i = id then s else E.sl i, fun i => if i = id then n else E.ln i⟩
@[simp] theorem upd_β (E : Env) (id b : Nat) (s : Option Addr × Nat × Nat) (n : Nat) : (E.upd id b s n).β id = b := by simp [Env.upd]
@[simp] theorem upd_σ (E : Env) (id b : Nat) (s : Option Addr × Nat × Nat) (n : Nat) : (E.upd id b s n).σ id = .slice s.1 s.2.1 s.2.2 := by simp [Env.upd, Env.σ]
@[simp] theorem upd_ln (E : Env) (id b : Nat) (s : Option Addr × Nat × Nat) (n : Nat) : (E.upd id b s n).ln id = n := by simp [Env.upd]
theorem upd_ne (E : Env) {id b : Nat} {s : Option Addr × Nat × Nat} {n i : Nat} (h : i ≠ id) : (E.upd id b s n).β i = E.β i ∧ (E.upd id b s n).σ i = E.σ i ∧ (E.upd id b s n).ln i = E.ln i := by simp [Env.upd, Env.σ, h]

section
variable {C : Ctx} {S S' : AS} {E E' : Env} {a : Act} {w w' : World}

theorem Al.ext (hsz : w.heap.size ≤ w'.heap.size)
    (hown : ∀ b, C.w0.heap.size ≤ b → b < w.heap.size → (∀ id o, S.obj id = some o → Owns E id o → E.β id ≠ b) → ∀ id o, S'.obj id = some o → Owns E' id o → E'.β id ≠ b)
    {b : Nat} (h : Al C S E w b) : Al C S' E' w' b := by
  rcases h with h | ⟨h1, h2, h3⟩
  · exact .inl h
  · exact .inr ⟨h1, Nat.lt_of_lt_of_le h2 hsz, hown b h1 h2 h3⟩

theorem RepE.step (h : RepE C S E a w) (ht : ∀ t, S'.get t = S.get t) (hlat : Later w w')
    (hkeep : ∀ b, b < C.w0.heap.size → ¬ C.O0 b → w'.heap[b]? = w.heap[b]?)
    (hd : ∀ id, Dom S id → Dom S' id ∧ E'.β id = E.β id ∧ E'.σ id = E.σ id ∧ E'.ln id = E.ln id)
    (hown : ∀ b, C.w0.heap.size ≤ b → b < w.heap.size → (∀ id o, S.obj id = some o → Owns E id o → E.β id ≠ b) → ∀ id o, S'.obj id = some o → Owns E' id o → E'.β id ≠ b)
    (hAw : ∀ b, Al C S E w b → w'.heap[b]? = w.heap[b]?)
    (hobj : Ext (Dom S) E (Al C S E w) w (Dom S') E' (Al C S' E' w') w' → ∀ id o, S'.obj id = some o →
      (S.obj id = some o ∧ (Owns E id o → w'.heap[E.β id]? = w.heap[E.β id]?)) ∨
      (RepO (Dom S') E' (Al C S' E' w') w' id o ∧ (Owns E' id o → E'.β id < w'.heap.size ∧ (C.w0.heap.size ≤ E'.β id ∨ C.O0 (E'.β id) ∧ Entry C id o))))
    (hinj : ∀ i j o o', S'.obj i = some o → Owns E' i o → S'.obj j = some o' → Owns E' j o' → E'.β i = E'.β j → i = j) :
    RepE C S' E' a w' ∧ Ext (Dom S) E (Al C S E w) w (Dom S') E' (Al C S' E' w') w' := by
  have hsz := hlat.sz
  have ext : Ext (Dom S) E (Al C S E w) w (Dom S') E' (Al C S' E' w') w' :=
    ⟨hd, fun b hb => ⟨Al.ext hsz hown hb, fun o v => cell_of_heap (hAw b hb) o v⟩⟩
  have hobj := hobj ext
  refine ⟨⟨h.n, h.d, ⟨h.h.a0, h.h.gl, h.h.lat.trans hlat, ?_, ?_, ?_, hinj, ?_⟩, ?_⟩, ext⟩
  · intro b h1 h2
    rw [hkeep b h1 h2]
    exact h.h.keep b h1 h2
  · intro i hi
    obtain ⟨p1, p2, p3, p4⟩ := h.h.pin i hi
    obtain ⟨q1, q2, q3, q4⟩ := hd i p1
    exact ⟨q1, q2.trans p2, q3.trans p3, q4.trans p4⟩
  · intro id o ho hw
    rcases hobj id o ho with ⟨h1, _⟩ | ⟨_, h2⟩
    · obtain ⟨_, q2, q3, _⟩ := hd id (by simp [Dom, h1])
      have := h.h.fresh id o h1 ((Owns.env q3).1 hw)
      rw [q2]
      exact ⟨Nat.lt_of_lt_of_le this.1 hsz, this.2⟩
    · exact h2 hw
  · intro id o ho
    rcases hobj id o ho with ⟨h1, h2⟩ | ⟨h1, _⟩
    · exact ext.repO (by simp [Dom, h1]) h2 (h.h.objs id o h1)
    · exact h1
  · intro t
    rw [ht]
    exact ext.repV (h.t t)

/-- Owned blocks are not memory that stays. -/
theorem RepH.apart (h : RepH C S E w) {id : Nat} {o : Obj} (ho : S.obj id = some o) (hw : Owns E id o) {b : Nat} (hb : Al C S E w b) : E.β id ≠ b := by
  rcases hb with hb | ⟨_, _, hb⟩
  · intro e
    obtain ⟨h1, h2⟩ := h.a0 b hb
    rcases (h.fresh id o ho hw).2 with h3 | h3
    · omega
    · exact h2 (e ▸ h3.1)
  · exact hb id o ho hw
theorem RepH.lt (h : RepH C S E w) {id : Nat} {o : Obj} (ho : S.obj id = some o) (hw : Owns E id o) : E.β id < w.heap.size := (h.fresh id o ho hw).1
theorem RepH.al_lt (h : RepH C S E w) {b : Nat} (hb : Al C S E w b) : b < w.heap.size := by
  rcases hb with hb | ⟨_, hb, _⟩
  · exact Nat.lt_of_lt_of_le (h.a0 b hb).1 h.size
  · exact hb
/-- Blocks that came in and may not be written are no object's. -/
theorem RepH.away (h : RepH C S E w) {id : Nat} {o : Obj} (ho : S.obj id = some o) (hw : Owns E id o) {b : Nat} (hb : b < C.w0.heap.size) (hO : ¬ C.O0 b) : b ≠ E.β id := by
  intro e
  rcases (h.fresh id o ho hw).2 with h3 | h3
  · omega
  · exact hO (e ▸ h3.1)

/-- A new block. -/
theorem RepE.alloc (h : RepE C S E a w) {id : Nat} (hid : S.obj id = none) (o : Obj) (b : Go.Obj) (hbc : ∃ c t, b = .cells c t) (s : Option Addr × Nat × Nat) (n : Nat)
    (ho : ∀ (D' A' : Nat → Prop), Ext (Dom S) E (Al C S E w) w D' (E.upd id w.heap.size s n) A' (w.alloc b) → D' id → RepO D' (E.upd id w.heap.size s n) A' (w.alloc b) id o) :
    RepE C (S.setObjs [(id, o)]) (E.upd id w.heap.size s n) a (w.alloc b) ∧ Ext (Dom S) E (Al C S E w) w (Dom (S.setObjs [(id, o)])) (E.upd id w.heap.size s n) (Al C (S.setObjs [(id, o)]) (E.upd id w.heap.size s n) (w.alloc b)) (w.alloc b) := by
  have hsz : (w.alloc b).heap.size = w.heap.size + 1 := by simp
  have hold : ∀ k, k < w.heap.size → (w.alloc b).heap[k]? = w.heap[k]? := fun k hk => heap_alloc_old w b k hk
  have hne : ∀ i, Dom S i → i ≠ id := fun i hi e => hi (e ▸ hid)
  refine h.step (fun t => rfl) (by obtain ⟨c, t, rfl⟩ := hbc; exact later_alloc w c t) ?_ ?_ ?_ ?_ ?_ ?_
  · intro k hk _
    exact hold k (Nat.lt_of_lt_of_le hk h.h.size)
  · intro i hi
    exact ⟨by unfold Dom at *; rw [obj_cons]; split <;> simp [obj_nil, hi], upd_ne E (hne i hi)⟩
  · intro k hk1 hk2 hk3 i o' hi hw
    rw [obj_cons] at hi
    split at hi
    · rename_i e
      subst e
      simp
      omega
    · rename_i e
      rw [obj_nil] at hi
      rw [(upd_ne E e).1]
      exact hk3 i o' hi ((Owns.env (upd_ne E e).2.1).1 hw)
  · intro k hk
    exact hold k (h.h.al_lt hk)
  · intro ext i o' hi
    rw [obj_cons] at hi
    split at hi
    · rename_i e
      subst e
      simp at hi
      subst hi
      refine .inr ⟨ho _ _ ext (by unfold Dom; rw [obj_cons]; simp), fun _ => ?_⟩
      simp
      exact .inl h.h.size
    · rw [obj_nil] at hi
      exact .inl ⟨hi, fun hw => hold _ (h.h.lt hi hw)⟩
  · intro i j o1 o2 hi hwi hj hwj hβ
    rw [obj_cons] at hi hj
    split at hi <;> split at hj
    · omega
    · rename_i e1 e2
      subst e1
      rw [obj_nil] at hj
      rw [(upd_ne E e2).1] at hβ
      simp at hβ
      have := h.h.lt hj ((Owns.env (upd_ne E e2).2.1).1 hwj)
      omega
    · rename_i e1 e2
      subst e2
      rw [obj_nil] at hi
      rw [(upd_ne E e1).1] at hβ
      simp at hβ
      have := h.h.lt hi ((Owns.env (upd_ne E e1).2.1).1 hwi)
      omega
    · rename_i e1 e2
      rw [obj_nil] at hi hj
      rw [(upd_ne E e1).1, (upd_ne E e2).1] at hβ
      exact h.h.inj i j o1 o2 hi ((Owns.env (upd_ne E e1).2.1).1 hwi) hj ((Owns.env (upd_ne E e2).2.1).1 hwj) hβ

/-- A block of one's own is written. -/
theorem RepE.write (h : RepE C S E a w) {id : Nat} {o o' : Obj} (hid : S.obj id = some o) (hO : Owns E id o) (hen : Entry C id o → Entry C id o')
    (hlat : Later w w') (hsz : w'.heap.size = w.heap.size) (hw : ∀ k, k ≠ E.β id → w'.heap[k]? = w.heap[k]?)
    (ho : ∀ (D' A' : Nat → Prop), Ext (Dom S) E (Al C S E w) w D' E A' w' → RepO D' E A' w' id o') :
    RepE C (S.setObjs [(id, o')]) E a w' ∧ Ext (Dom S) E (Al C S E w) w (Dom (S.setObjs [(id, o')])) E (Al C (S.setObjs [(id, o')]) E w') w' := by
  have hb : ∀ k, Al C S E w k → w'.heap[k]? = w.heap[k]? := fun k hk => hw k (Ne.symm (h.h.apart hid hO hk))
  have old : ∀ i o1, (S.setObjs [(id, o')]).obj i = some o1 → Owns E i o1 → ∃ o2, S.obj i = some o2 ∧ Owns E i o2 := by
    intro i o1 hi hw
    rw [obj_cons] at hi
    split at hi
    · rename_i e; subst e; exact ⟨o, hid, hO⟩
    · exact ⟨o1, hi, hw⟩
  refine h.step (fun t => rfl) hlat ?_ ?_ ?_ hb ?_ ?_
  · intro k hk hk2
    exact hw k (h.h.away hid hO hk hk2)
  · intro i hi
    exact ⟨by unfold Dom at *; rw [obj_cons]; split <;> simp [obj_nil, hi], rfl, rfl, rfl⟩
  · intro k hk1 hk2 hk3 i o1 hi hwi
    obtain ⟨o2, h2, h3⟩ := old i o1 hi hwi
    exact hk3 i o2 h2 h3
  · intro ext i o1 hi
    rw [obj_cons] at hi
    split at hi
    · rename_i e
      subst e
      simp at hi
      subst hi
      refine .inr ⟨ho _ _ ext, fun _ => ?_⟩
      have := h.h.fresh i o hid hO
      rw [hsz]
      exact ⟨this.1, this.2.imp id (fun q => ⟨q.1, hen q.2⟩)⟩
    · rename_i e
      rw [obj_nil] at hi
      refine .inl ⟨hi, fun hwi => hw _ ?_⟩
      intro e2
      exact e (h.h.inj i id o1 o hi hwi hid hO e2)
  · intro i j o1 o2 hi hwi hj hwj hβ
    obtain ⟨o3, h3, h4⟩ := old i o1 hi hwi
    obtain ⟨o5, h5, h6⟩ := old j o2 hj hwj
    exact h.h.inj i j o3 o5 h3 h4 h5 h6 hβ

/-! ### Objects given up -/
def isIn (l : List Nat) (n : Nat) : Prop := n ∈ l
theorem frz_look (hh : Nat → Option Obj) (l : List (Nat × Obj)) : ∀ (vis : List Nat) (id : Nat), look (frz hh vis ++ l) id =
    if id ∈ vis then (match hh id with | some (.grow _ e _ xs) => some (.froz e xs) | some (.cells _) => some .gone | _ => look l id) else look l id
  | [], id => by simp [frz]
  | v :: r, id => by
    have ih := frz_look hh l r id
    by_cases e : id = v
    · subst e
      cases ho : hh id with
      | none => simp only [frz, ho, ih]; simp
      | some o =>
        cases o <;> simp only [frz, ho, List.cons_append, look_cons, ih] <;> simp
    · cases ho : hh v with
      | none => simp only [frz, ho, ih]; simp [e]
      | some o =>
        cases o <;> simp only [frz, ho, List.cons_append, look_cons, ih] <;> simp [e]
theorem obj_frz (S : AS) (vis : List Nat) (id : Nat) : (S.setObjs (frz S.obj vis)).obj id =
    if id ∈ vis then (match S.obj id with | some (.grow _ e _ xs) => some (.froz e xs) | some (.cells _) => some .gone | o => o) else S.obj id := by
  show look (frz S.obj vis ++ S.h) id = _
  rw [frz_look]
  split
  · cases h : S.obj id with
    | none => exact h
    | some o => cases o <;> first | rfl | exact h
  · rfl
/-- May an object be given up? -/
def Free (C : Ctx) (id : Nat) : Obj → Prop
  | .grow en _ _ _ => en = false
  | .cells _ => C.m ≤ id
  | _ => True
theorem RepE.release (h : RepE C S E a w) (vis : List Nat) (hf : ∀ id o, id ∈ vis → S.obj id = some o → Free C id o) :
    RepE C (S.setObjs (frz S.obj vis)) E a w ∧ Ext (Dom S) E (Al C S E w) w (Dom (S.setObjs (frz S.obj vis))) E (Al C (S.setObjs (frz S.obj vis)) E w) w ∧
      ∀ id o, id ∈ vis → S.obj id = some o → Owns E id o → (∀ e xs, o ≠ .arr e xs) → Al C (S.setObjs (frz S.obj vis)) E w (E.β id) := by
  have old : ∀ i o1, (S.setObjs (frz S.obj vis)).obj i = some o1 → Owns E i o1 → S.obj i = some o1 ∧ (i ∈ vis → ∃ e xs, o1 = .arr e xs) := by
    intro i o1 hi hw
    rw [obj_frz] at hi
    split at hi
    · rename_i hv
      split at hi
      · cases hi; exact hw.elim
      · cases hi; exact hw.elim
      · rename_i n1 n2
        refine ⟨hi, fun _ => ?_⟩
        cases o1 with
        | arr e xs => exact ⟨e, xs, rfl⟩
        | grow en e et xs => exact absurd hi (n1 en e et xs)
        | cells cs => exact absurd hi (n2 cs)
        | gone => exact hw.elim
        | froz e xs => exact hw.elim
    · rename_i hv
      exact ⟨hi, fun q => absurd q hv⟩
  have key : ∀ id o, id ∈ vis → S.obj id = some o → Owns E id o → (∀ e xs, o ≠ .arr e xs) → Al C (S.setObjs (frz S.obj vis)) E w (E.β id) := by
    intro id o hv ho hw ha
    have hfr := h.h.fresh id o ho hw
    have hfree := hf id o hv ho
    refine .inr ⟨?_, hfr.1, ?_⟩
    · rcases hfr.2 with q | ⟨_, q⟩
      · exact q
      · cases o with
        | grow en e et xs => simp only [Free, Entry] at hfree q; rw [hfree] at q; cases q
        | cells cs => simp only [Free, Entry] at hfree q; omega
        | arr e xs => exact absurd rfl (ha e xs)
        | gone => exact hw.elim
        | froz e xs => exact hw.elim
    · intro j o2 hj hwj hβ
      obtain ⟨hj1, hj2⟩ := old j o2 hj hwj
      have := h.h.inj j id o2 o hj1 hwj ho hw hβ
      subst this
      obtain ⟨e, xs, he⟩ := hj2 hv
      rw [hj1] at ho
      cases ho
      exact ha e xs he
  have main := h.step (S' := S.setObjs (frz S.obj vis)) (E' := E) (w' := w) (fun t => rfl) (Later.refl _) (fun _ _ _ => rfl)
    (fun id hd => ⟨by
      unfold Dom at *
      rw [obj_frz]
      split
      · split <;> simp_all
      · exact hd, rfl, rfl, rfl⟩)
    (fun b h1 h2 h3 id o ho hw => h3 id o (old id o ho hw).1 hw) (fun _ _ => rfl)
    (fun ext id o ho => by
      by_cases hv : id ∈ vis
      · rw [obj_frz, if_pos hv] at ho
        split at ho
        · rename_i en e et xs hg
          cases ho
          refine .inr ⟨?_, fun q => q.elim⟩
          have hr := h.h.objs id _ hg
          obtain ⟨h1, h2⟩ := hr
          refine ⟨h1, ?_, ?_⟩
          · rcases h2 with ⟨h2, h3⟩ | ⟨cap, cur, cells, h2, h3, h4, h5, h6, h7, h8⟩
            · subst h3
              exact ⟨none, 0, by rw [h2]; rfl, Nat.le_refl _, fun q => absurd rfl q⟩
            · refine ⟨some ⟨E.β id, 0, none⟩, cap, by rw [h2], h4, fun _ => ⟨_, rfl, rfl, key id _ hv hg (by simp only [Owns]; rw [h2]; simp) (by simp), cells, h7.imp (fun _ _ => ext.pc), ?_⟩⟩
              intro j v hv
              have : cur[j]? = some v := by
                rw [← h8, List.getElem?_take] at hv
                split at hv
                · simpa using hv
                · cases hv
              simp [World.cell?, h3, this]
          · intro hx
            rcases h2 with ⟨h2, h3⟩ | ⟨cap, cur, cells, h2, _⟩
            · exact absurd h3 hx
            · exact ⟨cap, h2⟩
        · cases ho
          exact .inr ⟨trivial, fun q => q.elim⟩
        · exact .inl ⟨ho, fun _ => rfl⟩
      · rw [obj_frz, if_neg hv] at ho
        exact .inl ⟨ho, fun _ => rfl⟩)
    (fun i j o1 o2 hi hwi hj hwj hβ => h.h.inj i j o1 o2 (old i o1 hi hwi).1 hwi (old j o2 hj hwj).1 hwj hβ)
  exact ⟨main.1, main.2, key⟩
end
end Go.Rx

/- RxD: texts of one kind, laid side by side. -/
import Derived.Test.YtgoofkilcbniiaaGreatDoorRxC
/-! Rx, part 13: what a function is said to do, and a call of it. -/
namespace Go.Rx
set_option linter.unusedVariables false
set_option linter.unusedSimpArgs false

def stateOf (H : List (Nat × Obj)) : AS := ⟨[], H, 0, []⟩
structure FPre (gl : Nat → Option Tab) (w : World) (A0 O0 : Nat → Prop) (E0 : Env) (args : List AV) (H : List Obj) (vs : List Value) : Prop where
  a0 : ∀ b, A0 b → b < w.heap.size ∧ ¬ O0 b
  gl : ∀ g e xs, gl g = some ⟨e, xs⟩ → A0 g ∧ ∃ cells, RowsL (fun x c => PC A0 w e x c) xs cells ∧ At w ⟨g, 0, none⟩ cells
  objs : ∀ id o, (stateOf (zipI 0 H)).obj id = some o → RepO (Dom (stateOf (zipI 0 H))) E0 A0 w id o
  own : ∀ id o, (stateOf (zipI 0 H)).obj id = some o → Owns E0 id o → E0.β id < w.heap.size ∧ O0 (E0.β id)
  inj : ∀ i j o o', (stateOf (zipI 0 H)).obj i = some o → Owns E0 i o → (stateOf (zipI 0 H)).obj j = some o' → Owns E0 j o' → E0.β i = E0.β j → i = j
  args : RepL (Dom (stateOf (zipI 0 H))) E0 A0 w args vs
  en : ∀ (j : Nat) (en : Bool) (e : Sh) (et : TypeId) (xs : List e.T), H[j]? = some (.grow en e et xs) → en = true
def FCtx (P : Program) (gl : Nat → Option Tab) (w : World) (A0 O0 : Nat → Prop) (E0 : Env) (m N : Nat) : Ctx := ⟨P, w, A0, O0, m, E0, N, gl⟩
def FPost (C : Ctx) (res : AV) (H' : List (Nat × Obj)) (e : Ending) (w' : World) : Prop :=
  ∃ v E', e = .returned v ∧ RepH C (stateOf H') E' w' ∧ RepV (Dom (stateOf H')) E' (Al C (stateOf H') E' w') w' res v
def FSpec (P : Program) (gl : Nat → Option Tab) (f : FuncId) (args : List AV) (H : List Obj) (res : AV) (H' : List (Nat × Obj)) : Prop :=
  (∃ fn c, P.funcs[f]? = some fn ∧ fn.body = some c ∧ (fn.name == "runtime.NumGoroutine") = false) ∧
  ∀ w A0 O0 E0 vs, FPre gl w A0 O0 E0 args H vs → Calls P f vs.toArray w (FPost (FCtx P gl w A0 O0 E0 H.length 0) res H')

/-! ### Renaming -/
structure Map (D : Nat → Prop) (E : Env) (D' : Nat → Prop) (E' : Env) (f : Nat → Nat) (ids : List Nat) : Prop where
  ok : ∀ id, id ∈ ids → D id → D' (f id) ∧ E'.β (f id) = E.β id ∧ E'.σ (f id) = E.σ id ∧ E'.ln (f id) = E.ln id
mutual
theorem Map.repV {D D' : Nat → Prop} {E E' : Env} {f : Nat → Nat} {ids : List Nat} (h : Map D E D' E' f ids) {A : Nat → Prop} {w : World} : ∀ {v : AV} {x : Value}, (∀ i, i ∈ refs v → i ∈ ids) → RepV D E A w v x → RepV D' E' A w (ren f v) x
  | .unk, _, _, _ => by simp [ren, RepV]
  | .undef, _, _, q => by simpa [ren, RepV] using q
  | .anyB, _, _, q => by simpa [ren, RepV] using q
  | .zb _, _, _, q => by simpa [ren, RepV] using q
  | .int _ _, _, _, q => by simpa [ren, RepV] using q
  | .bool _, _, _, q => by simpa [ren, RepV] using q
  | .str _, _, _, q => by simpa [ren, RepV] using q
  | .nilsl, _, _, q => by simpa [ren, RepV] using q
  | .nilptr, _, _, q => by simpa [ren, RepV] using q
  | .glob _, _, _, q => by simpa [ren, RepV] using q
  | .psl _ _, _, _, q => by simp only [ren, RepV] at q ⊢; exact q
  | .ppt _ _, _, _, q => by simp only [ren, RepV] at q ⊢; exact q
  | .own id, _, r, q => by
    simp only [ren, RepV] at q ⊢
    obtain ⟨h1, _, h3, _⟩ := h.ok id (r id (by simp [refs])) q.1
    exact ⟨h1, by rw [h3]; exact q.2⟩
  | .optr id _, _, r, q => by
    simp only [ren, RepV] at q ⊢
    obtain ⟨h1, h2, _, _⟩ := h.ok id (r id (by simp [refs])) q.1
    exact ⟨h1, by rw [h2]; exact q.2⟩
  | .oel id _ _ _, _, r, q => by
    simp only [ren, RepV] at q ⊢
    obtain ⟨h1, h2, _, h4⟩ := h.ok id (r id (by simp [refs])) q.1
    exact ⟨h1, by rw [h4]; exact q.2.1, by rw [h2]; exact q.2.2⟩
  | .otl id _ _, _, r, q => by
    simp only [ren, RepV] at q ⊢
    obtain ⟨h1, h2, _, h4⟩ := h.ok id (r id (by simp [refs])) q.1
    exact ⟨h1, by rw [h4, h2]; exact q.2⟩
  | .pel _ _ _ _, _, _, q => by simp only [ren, RepV] at q ⊢; exact q
  | .pfl _ _ _, _, _, q => by simp only [ren, RepV] at q ⊢; exact q
  | .fn _ a b, _, r, q => by
    simp only [ren, RepV] at q ⊢
    obtain ⟨fs, cs, h1, h2, h3⟩ := q
    exact ⟨fs, cs, h1, h.repL (fun i hi => r i (by simp [refs, hi])) h2, h.repL (fun i hi => r i (by simp [refs, hi])) h3⟩
  | .agg l, _, r, q => by
    simp only [ren, RepV] at q ⊢
    obtain ⟨vs, h1, h2⟩ := q
    exact ⟨vs, h1, h.repL (fun i hi => r i (by simp [refs, hi])) h2⟩
  | .tup l, _, r, q => by
    simp only [ren, RepV] at q ⊢
    obtain ⟨vs, h1, h2⟩ := q
    exact ⟨vs, h1, h.repL (fun i hi => r i (by simp [refs, hi])) h2⟩
theorem Map.repL {D D' : Nat → Prop} {E E' : Env} {f : Nat → Nat} {ids : List Nat} (h : Map D E D' E' f ids) {A : Nat → Prop} {w : World} : ∀ {l : List AV} {vs : List Value}, (∀ i, i ∈ refsL l → i ∈ ids) → RepL D E A w l vs → RepL D' E' A w (renL f l) vs
  | [], _, _, q => by simpa [renL, RepL] using q
  | v :: l, _, r, q => by
    simp only [renL, RepL] at q ⊢
    obtain ⟨x, t, h1, h2, h3⟩ := q
    exact ⟨x, t, h1, h.repV (fun i hi => r i (by simp [refsL, hi])) h2, h.repL (fun i hi => r i (by simp [refsL, hi])) h3⟩
end
mutual
/-- What a value mentions is there. -/
theorem refs_dom {D : Nat → Prop} {E : Env} {A : Nat → Prop} {w : World} : ∀ {v : AV} {x : Value}, RepV D E A w v x → ∀ i, i ∈ refs v → D i
  | .own id, _, q, i, hi => by simp only [RepV] at q; simp [refs] at hi; rw [hi]; exact q.1
  | .optr id _, _, q, i, hi => by simp only [RepV] at q; simp [refs] at hi; rw [hi]; exact q.1
  | .oel id _ _ _, _, q, i, hi => by simp only [RepV] at q; simp [refs] at hi; rw [hi]; exact q.1
  | .otl id _ _, _, q, i, hi => by simp only [RepV] at q; simp [refs] at hi; rw [hi]; exact q.1
  | .fn _ a b, _, q, i, hi => by
    simp only [RepV] at q
    obtain ⟨fs, cs, h1, h2, h3⟩ := q
    simp only [refs, List.mem_append] at hi
    rcases hi with hi | hi
    · exact refsL_dom h2 i hi
    · exact refsL_dom h3 i hi
  | .agg l, _, q, i, hi => by
    simp only [RepV] at q
    obtain ⟨vs, h1, h2⟩ := q
    simp only [refs] at hi
    exact refsL_dom h2 i hi
  | .tup l, _, q, i, hi => by
    simp only [RepV] at q
    obtain ⟨vs, h1, h2⟩ := q
    simp only [refs] at hi
    exact refsL_dom h2 i hi
  | .unk, _, _, i, hi => by simp [refs] at hi
  | .undef, _, _, i, hi => by simp [refs] at hi
  | .anyB, _, _, i, hi => by simp [refs] at hi
  | .zb _, _, _, i, hi => by simp [refs] at hi
  | .int _ _, _, _, i, hi => by simp [refs] at hi
  | .bool _, _, _, i, hi => by simp [refs] at hi
  | .str _, _, _, i, hi => by simp [refs] at hi
  | .nilsl, _, _, i, hi => by simp [refs] at hi
  | .nilptr, _, _, i, hi => by simp [refs] at hi
  | .glob _, _, _, i, hi => by simp [refs] at hi
  | .psl _ _, _, _, i, hi => by simp [refs] at hi
  | .ppt _ _, _, _, i, hi => by simp [refs] at hi
  | .pel _ _ _ _, _, _, i, hi => by simp [refs] at hi
  | .pfl _ _ _, _, _, i, hi => by simp [refs] at hi
theorem refsL_dom {D : Nat → Prop} {E : Env} {A : Nat → Prop} {w : World} : ∀ {l : List AV} {vs : List Value}, RepL D E A w l vs → ∀ i, i ∈ refsL l → D i
  | [], _, _, i, hi => by simp [refsL] at hi
  | v :: l, _, q, i, hi => by
    simp only [RepL] at q
    obtain ⟨x, t, h1, h2, h3⟩ := q
    simp only [refsL, List.mem_append] at hi
    rcases hi with hi | hi
    · exact refs_dom h2 i hi
    · exact refsL_dom h3 i hi
end
theorem look_zip {α : Type} : ∀ (l : List α) (k n : Nat), look (zipI k l) n = if k ≤ n then l[n - k]? else none
  | [], k, n => by simp [zipI, look]
  | a :: l, k, n => by
    simp only [zipI, look_cons, look_zip l (k + 1) n]
    by_cases h1 : n = k
    · subst h1; simp
    · by_cases h2 : k ≤ n
      · rw [if_neg h1, if_pos (by omega), if_pos h2]
        rw [show n - k = (n - (k + 1)) + 1 by omega]
        simp
      · rw [if_neg h1, if_neg (by omega), if_neg h2]
theorem obj_zip (H : List Obj) (id : Nat) : (stateOf (zipI 0 H)).obj id = H[id]? := by
  show look (zipI 0 H) id = _
  rw [look_zip]
  simp
theorem nodupN_iff : ∀ {l : List Nat}, nodupN l = true → l.Nodup
  | [], _ => List.nodup_nil
  | a :: l, h => by
    unfold nodupN at h
    split at h
    · cases h
    · rename_i hh
      refine List.nodup_cons.2 ⟨fun q => ?_, nodupN_iff h⟩
      rw [hasId_iff.2 q] at hh
      cases hh
theorem subIds_iff : ∀ {l ids : List Nat}, subIds l ids = true → ∀ i, i ∈ l → i ∈ ids
  | [], _, _, i, hi => by cases hi
  | a :: l, ids, h, i, hi => by
    unfold subIds at h
    split at h
    · rename_i hh
      rcases List.mem_cons.1 hi with rfl | hi
      · exact hasId_iff.1 hh
      · exact subIds_iff h i hi
    · cases h
theorem disj_iff : ∀ {l ids : List Nat}, disj l ids = true → ∀ i, i ∈ l → i ∉ ids
  | [], _, _, i, hi => by cases hi
  | a :: l, ids, h, i, hi => by
    unfold disj at h
    split at h
    · cases h
    · rename_i hh
      rcases List.mem_cons.1 hi with rfl | hi
      · intro q
        rw [hasId_iff.2 q] at hh
        cases hh
      · exact disj_iff h i hi
theorem objsOf_get {S : AS} : ∀ {ids : List Nat} {os : List Obj}, objsOf S ids = some os → os.length = ids.length ∧ ∀ (j id : Nat), ids[j]? = some id → ∃ o, os[j]? = some o ∧ S.obj id = some o
  | [], _, h => by cases h; exact ⟨rfl, fun j id hj => by simp at hj⟩
  | a :: r, os, h => by
    unfold objsOf at h
    split at h
    · rename_i o l ho hl
      cases h
      obtain ⟨q1, q2⟩ := objsOf_get hl
      refine ⟨by simp [q1], fun j id hj => ?_⟩
      cases j with
      | zero => simp at hj; subst hj; exact ⟨o, rfl, ho⟩
      | succ j => simp at hj; simpa using q2 j id hj
    · cases h
theorem objsIn_get {ids : List Nat} : ∀ {os : List Obj}, objsIn ids os = true → ∀ o, o ∈ os → ∀ i, i ∈ o.refs → i ∈ ids
  | [], _, o, ho => by cases ho
  | a :: r, h, o, ho => by
    unfold objsIn at h
    split at h
    · rename_i hh
      rcases List.mem_cons.1 ho with rfl | ho
      · exact subIds_iff hh
      · exact objsIn_get h o ho
    · cases h
theorem sendObjs_get (f : Nat → Nat) : ∀ (os : List Obj) (j : Nat), (sendObjs f os)[j]? = (os[j]?).map (Obj.send f)
  | [], j => by simp [sendObjs]
  | o :: r, 0 => by simp [sendObjs]
  | o :: r, j + 1 => by simpa [sendObjs] using sendObjs_get f r j
theorem sendObjs_length (f : Nat → Nat) : ∀ (os : List Obj), (sendObjs f os).length = os.length
  | [] => rfl
  | o :: r => by simp [sendObjs, sendObjs_length f r]

section
variable {C : Ctx} {S : AS} {E : Env} {a : Act} {w : World} {G : Gl}
theorem up_ext {A A' : Nat → Prop} (hA : ∀ b, A b → A' b) {D : Nat → Prop} : Ext D E A w D E A' w := ⟨fun id hd => ⟨hd, rfl, rfl, rfl⟩, fun b hb => ⟨hA b hb, fun _ _ q => q⟩⟩
/-- A list handed over for good. -/
theorem own_pc (h : RepE C S E a w) {A' : Nat → Prop} (hA : ∀ b, Al C S E w b → A' b) {id : Nat} {e : Sh} {xs : List e.T} (ho : (∃ et, S.obj id = some (.grow false e et xs)) ∨ S.obj id = some (.froz e xs))
    (hv : ∀ o, S.obj id = some o → Owns E id o → (∀ e xs, o ≠ .arr e xs) → A' (E.β id)) : PC A' w (.sl e) xs [E.σ id] := by
  have hd : ∃ d, dataC C.m S.obj (.sl e) [.own id] = some d ∧ d.x = xs ∧ d.vis = [id] ∧ d.rest = [] := by
    rcases ho with ⟨et, ho⟩ | ho
    · refine ⟨⟨xs, [], [id]⟩, ?_, rfl, rfl, rfl⟩
      simp only [dataC, ho]
      cases hq : decEq e e with
      | isTrue q => rfl
      | isFalse q => exact absurd rfl q
    · refine ⟨⟨xs, [], [id]⟩, ?_, rfl, rfl, rfl⟩
      simp only [dataC, ho]
      cases hq : decEq e e with
      | isTrue q => rfl
      | isFalse q => exact absurd rfl q
  obtain ⟨d, hd, hx, hvis, hrest⟩ := hd
  have hdom : Dom S id := by unfold Dom; rcases ho with ⟨et, ho⟩ | ho <;> rw [ho] <;> simp
  obtain ⟨c, r, e1, h2, h3⟩ := data_sound h.h.objs hA (.sl e) [.own id] [E.σ id] d hd (by simp only [RepL, RepV]; exact ⟨_, [], rfl, ⟨hdom, rfl⟩, rfl⟩) (fun i o hi => by rw [hvis] at hi; simp at hi; subst hi; exact hv o)
  rw [hrest] at h2
  simp only [RepL] at h2
  subst h2
  rw [List.append_nil] at e1
  subst e1
  rw [hx] at h3
  exact h3
theorem handCells_sound (h : RepE C S E a w) {A' : Nat → Prop} (hA : ∀ b, Al C S E w b → A' b) : ∀ {l as : List AV} {vis : List Nat} {vs : List Value}, handOver.handCells S l = some (as, vis) → RepL (Dom S) E (Al C S E w) w l vs →
    (∀ id o, id ∈ vis → S.obj id = some o → Owns E id o → (∀ e xs, o ≠ .arr e xs) → A' (E.β id)) → RepL (Dom S) E A' w as vs ∧ ∀ id o, id ∈ vis → S.obj id = some o → Free C id o
  | [], as, vis, vs, hh, hl, hv => by
    cases hh
    simp only [RepL] at hl ⊢
    exact ⟨hl, fun id o hi => by cases hi⟩
  | v :: l, as, vis, vs, hh, hl, hv => by
    simp only [RepL] at hl
    obtain ⟨x, t, rfl, h1, h2⟩ := hl
    have gen : (match handOver.handCells S l with | some (l, vis) => some (v :: l, vis) | none => none) = some (as, vis) → RepL (Dom S) E A' w as (x :: t) ∧ ∀ id o, id ∈ vis → S.obj id = some o → Free C id o := by
      intro q
      split at q
      · rename_i l' vis' hl'
        cases q
        obtain ⟨r1, r2⟩ := handCells_sound h hA hl' h2 hv
        exact ⟨by simp only [RepL]; exact ⟨x, t, rfl, (up_ext hA).repV h1, r1⟩, r2⟩
      · cases q
    cases v <;> first | exact gen hh | skip
    rename_i id
    simp only [handOver.handCells] at hh
    split at hh
    · rename_i l' vis' hl'
      simp only [RepV] at h1
      obtain ⟨_, rfl⟩ := h1
      split at hh
      · rename_i e et xs ho
        cases hh
        obtain ⟨r1, r2⟩ := handCells_sound h hA hl' h2 (fun i o hi => hv i o (by simp [hi]))
        refine ⟨?_, ?_⟩
        · simp only [RepL, RepV]
          exact ⟨_, t, rfl, own_pc h hA (.inl ⟨_, ho⟩) (fun o => hv id o (by simp)), r1⟩
        · intro i o hi hio
          rcases List.mem_cons.1 hi with rfl | hi
          · rw [ho] at hio; cases hio; rfl
          · exact r2 i o hi hio
      · rename_i e xs ho
        cases hh
        obtain ⟨r1, r2⟩ := handCells_sound h hA hl' h2 (fun i o hi => hv i o (by simp [hi]))
        refine ⟨?_, ?_⟩
        · simp only [RepL, RepV]
          exact ⟨_, t, rfl, own_pc h hA (.inr ho) (fun o => hv id o (by simp)), r1⟩
        · intro i o hi hio
          rcases List.mem_cons.1 hi with rfl | hi
          · rw [ho] at hio; cases hio; trivial
          · exact r2 i o hi hio
      · cases hh
    · cases hh
theorem hand_sound (h : RepE C S E a w) {A' : Nat → Prop} (hA : ∀ b, Al C S E w b → A' b) : ∀ {m : List Bool} {l as : List AV} {vis : List Nat} {vs : List Value}, handOver S m l = some (as, vis) → RepL (Dom S) E (Al C S E w) w l vs →
    (∀ id o, id ∈ vis → S.obj id = some o → Owns E id o → (∀ e xs, o ≠ .arr e xs) → A' (E.β id)) → RepL (Dom S) E A' w as vs ∧ ∀ id o, id ∈ vis → S.obj id = some o → Free C id o
  | [], l, as, vis, vs, hh, hl, hv => by
    have e : handOver S [] l = some (l, []) := by cases l <;> rfl
    rw [e] at hh
    cases hh
    exact ⟨(up_ext hA).repL hl, fun id o hi => by cases hi⟩
  | b :: m, [], as, vis, vs, hh, hl, hv => by
    have e : handOver S (b :: m) [] = some ([], []) := by cases b <;> rfl
    rw [e] at hh
    cases hh
    exact ⟨(up_ext hA).repL hl, fun id o hi => by cases hi⟩
  | b :: m, v :: l, as, vis, vs, hh, hl, hv => by
    simp only [RepL] at hl
    obtain ⟨x, t, rfl, h1, h2⟩ := hl
    have gen : (match handOver S m l with | some (l, vis) => some (v :: l, vis) | none => none) = some (as, vis) → RepL (Dom S) E A' w as (x :: t) ∧ ∀ id o, id ∈ vis → S.obj id = some o → Free C id o := by
      intro q
      split at q
      · rename_i l' vis' hl'
        cases q
        obtain ⟨r1, r2⟩ := hand_sound h hA hl' h2 hv
        exact ⟨by simp only [RepL]; exact ⟨x, t, rfl, (up_ext hA).repV h1, r1⟩, r2⟩
      · cases q
    cases b with
    | false => exact gen (by cases v <;> exact hh)
    | true =>
      cases v <;> first | exact gen hh | skip
      · rename_i id
        simp only [handOver] at hh
        split at hh
        · rename_i l' vis' hl'
          simp only [RepV] at h1
          obtain ⟨_, rfl⟩ := h1
          split at hh
          · rename_i e et xs ho
            cases hh
            obtain ⟨r1, r2⟩ := hand_sound h hA hl' h2 (fun i o hi => hv i o (by simp [hi]))
            refine ⟨?_, ?_⟩
            · simp only [RepL, RepV]
              exact ⟨_, t, rfl, own_pc h hA (.inl ⟨_, ho⟩) (fun o => hv id o (by simp)), r1⟩
            · intro i o hi hio
              rcases List.mem_cons.1 hi with rfl | hi
              · rw [ho] at hio; cases hio; rfl
              · exact r2 i o hi hio
          · rename_i e xs ho
            cases hh
            obtain ⟨r1, r2⟩ := hand_sound h hA hl' h2 (fun i o hi => hv i o (by simp [hi]))
            refine ⟨?_, ?_⟩
            · simp only [RepL, RepV]
              exact ⟨_, t, rfl, own_pc h hA (.inr ho) (fun o => hv id o (by simp)), r1⟩
            · intro i o hi hio
              rcases List.mem_cons.1 hi with rfl | hi
              · rw [ho] at hio; cases hio; trivial
              · exact r2 i o hi hio
          · cases hh
        · cases hh
      · rename_i cs
        simp only [handOver] at hh
        split at hh
        · rename_i c v1 l' v2 hc hl'
          cases hh
          simp only [RepV] at h1
          obtain ⟨ws, rfl, h3⟩ := h1
          obtain ⟨r1, r2⟩ := handCells_sound h hA hc h3 (fun i o hi => hv i o (by simp [hi]))
          obtain ⟨r3, r4⟩ := hand_sound h hA hl' h2 (fun i o hi => hv i o (by simp [hi]))
          refine ⟨?_, ?_⟩
          · simp only [RepL, RepV]
            exact ⟨_, t, rfl, ⟨ws, rfl, r1⟩, r3⟩
          · intro i o hi hio
            rcases List.mem_append.1 hi with hi | hi
            · exact r2 i o hi hio
            · exact r4 i o hi hio
        · cases hh
end
end Go.Rx
/-! Rx, part 14: a call. -/
namespace Go.Rx
set_option linter.unusedVariables false
set_option linter.unusedSimpArgs false
theorem RepH.glob {C : Ctx} {S : AS} {E : Env} {w : World} (h : RepH C S E w) {g : Nat} {e : Sh} {xs : List e.T} (hg : C.gl g = some ⟨e, xs⟩) : Al C S E w g ∧ ∃ cells, RowsL (fun x c => PC (Al C S E w) w e x c) xs cells ∧ At w ⟨g, 0, none⟩ cells := by
  obtain ⟨g1, cells, g2, g3⟩ := h.gl g e xs hg
  have upA : ∀ b, C.A0 b → ∀ o v, C.w0.cell? ⟨b, o, none⟩ = some v → w.cell? ⟨b, o, none⟩ = some v := fun b hb o v => cell_of_heap (h.keep b (h.a0 b hb).1 (h.a0 b hb).2) o v
  exact ⟨.inl g1, cells, g2.imp (fun x c q => PC.mono (A := C.A0) (A' := Al C S E w) (w := C.w0) (w' := w) (fun b hb => .inl hb) upA q), g3.mono (upA g g1)⟩
theorem backObjs_look {f : Nat → Nat} {b : Bool} {M : Nat} (hf : ∀ i j, i < M → j < M → f i = f j → i = j) : ∀ {H : List (Nat × Obj)}, (∀ p ∈ H, p.1 < M) → ∀ j, j < M → look (backObjs f b H) (f j) = (look H j).map (Obj.back f b)
  | [], _, j, _ => rfl
  | p :: r, hp, j, hj => by
    obtain ⟨k, o⟩ := p
    simp only [backObjs, look_cons]
    by_cases h : j = k
    · subst h; simp
    · have : f j ≠ f k := fun q => h (hf j k hj (hp (k, o) (by simp)) q)
      rw [if_neg this, if_neg h]
      exact backObjs_look hf (fun p hp' => hp p (by simp [hp'])) j hj
theorem backObjs_none {f : Nat → Nat} {b : Bool} {i : Nat} : ∀ {H : List (Nat × Obj)}, (∀ p ∈ H, f p.1 ≠ i) → look (backObjs f b H) i = none
  | [], _ => rfl
  | p :: r, hp => by
    obtain ⟨k, o⟩ := p
    simp only [backObjs, look_cons]
    rw [if_neg (Ne.symm (hp (k, o) (by simp)))]
    exact backObjs_none (fun p hp' => hp p (by simp [hp']))
theorem kinds_lt {os : List Obj} : ∀ {H : List (Nat × Obj)}, kindsOK os H = true → ∀ p ∈ H, p.1 < os.length + 4
  | [], _, p, hp => by cases hp
  | q :: r, h, p, hp => by
    unfold kindsOK at h
    split at h
    · rename_i o ho
      split at h
      · rcases List.mem_cons.1 hp with rfl | hp
        · have := (List.getElem?_eq_some_iff.1 ho).1; omega
        · exact kinds_lt h p hp
      · cases h
    · split at h
      · rename_i hb
        rcases List.mem_cons.1 hp with rfl | hp
        · exact Nat.le_of_ble_eq_true hb
        · exact kinds_lt h p hp
      · cases h
theorem kinds_same {os : List Obj} : ∀ {H : List (Nat × Obj)}, kindsOK os H = true → ∀ j o o', os[j]? = some o → look H j = some o' → sameKind o o' = true
  | [], _, j, o, o', _, h => by cases h
  | q :: r, h, j, o, o', ho, hl => by
    obtain ⟨k, ok⟩ := q
    simp only [look_cons] at hl
    unfold kindsOK at h
    split at hl
    · rename_i e
      subst e
      cases hl
      split at h
      · rename_i o1 ho1
        simp only at ho1
        rw [ho] at ho1
        cases ho1
        split at h
        · assumption
        · cases h
      · rename_i ho1
        simp only at ho1
        rw [ho] at ho1
        cases ho1
    · split at h
      · split at h
        · exact kinds_same h j o o' ho hl
        · cases h
      · split at h
        · exact kinds_same h j o o' ho hl
        · cases h
theorem idx_get {ids : List Nat} {id : Nat} (h : id ∈ ids) : ids[idx ids id]? = some id := by
  unfold idx
  have hl : ids.idxOf id < ids.length := List.idxOf_lt_length_iff.2 h
  rw [List.getElem?_eq_getElem hl, List.getElem_idxOf]
theorem anyEntry_true {m : Nat} {S : AS} {H : List (Nat × Obj)} : ∀ {ids : List Nat} {k j id : Nat}, ids[k]? = some id → entry m S id = true → held H (j + k) = false → anyEntry m S H j ids = true
  | [], _, _, _, hi, _, _ => by cases hi
  | a :: r, k, j, id, hi, he, hh => by
    unfold anyEntry
    split
    · rfl
    · rename_i h
      cases k with
      | zero =>
        cases hi
        exact (h he hh).elim
      | succ k => exact anyEntry_true (k := k) (j := j + 1) hi he (by rw [show j + 1 + k = j + (k + 1) by omega]; exact hh)
theorem owns_send {E E0 : Env} {j id : Nat} (h : E0.σ j = E.σ id) {f : Nat → Nat} {o : Obj} : Owns E0 j (o.send f) ↔ Owns E id o := by
  cases o <;> simp only [Obj.send, Owns, h]
theorem owns_back {E E0 : Env} {j id : Nat} (h : E0.σ j = E.σ id) {f : Nat → Nat} {b : Bool} {o : Obj} : Owns E0 j (o.back f b) ↔ Owns E id o := by
  cases o <;> simp only [Obj.back, Owns, h]
section
variable {C : Ctx} {S : AS} {E : Env} {a : Act} {w : World} {G : Gl}
def CallsOK (P : Program) (gl : Nat → Option Tab) (G : Gl) : Prop := ∀ f as H cs r, G.fn f as H = some cs → cs.o = some r → FSpec P gl f as H (cs.out r).1 (cs.out r).2
theorem call_ok (hG : CallsOK C.P C.gl G) (hm : G.m = C.m) (h : RepE C S E a w) {nid : Nat} (hn : ∀ j, j < 4 → S.obj (nid + j) = none) {fo : Operand} {args : Array Operand} {ats : Array TypeId} {o : Oper} (ho : o.op = .call ⟨.value fo, args, ats⟩) {e : Eff}
    (he : (evCall G S nid (S.ev fo) (args.toList.map S.ev)).sat (· = e)) : OpWP C S a w o e := by
  have hf := h.ev fo
  unfold evCall at he
  split at he
  case h_2 => cases he
  rename_i f first caps hfo
  rw [hfo] at hf
  simp only [RepV] at hf
  obtain ⟨fs, cs0, hfv, hf1, hf2⟩ := hf
  split at he
  · cases he
  rename_i as vis hhand
  simp only at he
  obtain ⟨ids, hids⟩ : ∃ ids, ids = reach S 64 [] (refsL as) := ⟨_, rfl⟩
  rw [← hids] at he
  split at he
  case h_2 => cases he
  rename_i os hos hdisj hnd hsub
  split at he
  case h_2 => cases he
  rename_i cs hin hcs
  obtain ⟨r, hr, he⟩ := he
  simp only at he
  split at he
  case h_2 => cases he
  rename_i hkinds
  cases he
  -- the arguments
  have hargs : RepL (Dom S) E (Al C S E w) w (first ++ args.toList.map S.ev ++ caps) (fs ++ args.toList.map a.eval ++ cs0) := repL_append.2 ⟨_, _, rfl, repL_append.2 ⟨_, _, rfl, hf1, h.evs args.toList⟩, hf2⟩
  have hfree := (hand_sound h (A' := fun _ => True) (fun _ _ => trivial) hhand hargs (fun _ _ _ _ _ _ => trivial)).2
  obtain ⟨r1, ext1, key⟩ := h.release vis hfree
  have has := (hand_sound h (A' := Al C (S.setObjs (frz S.obj vis)) E w) (fun b hb => (ext1.a b hb).1) hhand hargs key).1
  obtain ⟨S1, hS1⟩ : ∃ S1, S1 = S.setObjs (frz S.obj vis) := ⟨_, rfl⟩
  rw [← hS1] at r1 ext1 has
  have hdis := disj_iff hdisj
  have hnodup := nodupN_iff hnd
  have hsubi := subIds_iff hsub
  obtain ⟨hlen, hget⟩ := objsOf_get hos
  have hS1ids : ∀ id, id ∈ ids → S1.obj id = S.obj id := fun id hid => by rw [hS1, obj_frz, if_neg (hdis id hid)]
  have hS1none : ∀ id, S.obj id = none → S1.obj id = none := fun id hid => by rw [hS1]; exact obj_none_frz hid
  have hidsget : ∀ (j id : Nat), ids[j]? = some id → id ∈ ids := fun j id hj => List.mem_of_getElem? hj
  obtain ⟨H, hH⟩ : ∃ H, H = sendObjs (idx ids) os := ⟨_, rfl⟩
  have hHlen : H.length = ids.length := by rw [hH, sendObjs_length, hlen]
  have hHget : ∀ (j : Nat) (o' : Obj), H[j]? = some o' → ∃ id o1, ids[j]? = some id ∧ os[j]? = some o1 ∧ S1.obj id = some o1 ∧ S.obj id = some o1 ∧ o' = o1.send (idx ids) := by
    intro j o' hj
    have hjl : j < ids.length := by rw [← hHlen]; exact (List.getElem?_eq_some_iff.1 hj).1
    obtain ⟨o1, q1, q2⟩ := hget j _ (List.getElem?_eq_getElem hjl)
    rw [hH, sendObjs_get, q1] at hj
    simp at hj
    exact ⟨_, o1, List.getElem?_eq_getElem hjl, q1, by rw [hS1ids _ (List.getElem_mem hjl)]; exact q2, q2, hj.symm⟩
  obtain ⟨E0, hE0⟩ : ∃ E0 : Env, E0 = ⟨fun j => E.β (ids.getD j 0), fun j => E.sl (ids.getD j 0), fun j => E.ln (ids.getD j 0)⟩ := ⟨_, rfl⟩
  have hE0get : ∀ (j : Nat) (id : Nat), ids[j]? = some id → E0.β j = E.β id ∧ E0.σ j = E.σ id ∧ E0.ln j = E.ln id := by
    intro j id hj
    rw [hE0]
    simp [hj, Env.σ]
  have hDz : ∀ j, Dom (stateOf (zipI 0 H)) j ↔ j < ids.length := by
    intro j
    unfold Dom
    rw [obj_zip, ← hHlen]
    simp
  have hmap : Map (Dom S1) E (Dom (stateOf (zipI 0 H))) E0 (idx ids) ids := by
    refine ⟨fun id hid _ => ?_⟩
    have hg := idx_get hid
    exact ⟨(hDz _).2 (List.getElem?_eq_some_iff.1 hg).1, hE0get _ _ hg⟩
  obtain ⟨A0, hA0⟩ : ∃ A0, A0 = Al C S1 E w := ⟨_, rfl⟩
  obtain ⟨O0, hO0⟩ : ∃ O0 : Nat → Prop, O0 = fun b => ∃ id o1, id ∈ ids ∧ S.obj id = some o1 ∧ Owns E id o1 ∧ E.β id = b := ⟨_, rfl⟩
  have hpre : FPre C.gl w A0 O0 E0 (renL (idx ids) as) H (fs ++ args.toList.map a.eval ++ cs0) := by
    refine ⟨?_, ?_, ?_, ?_, ?_, ?_, fun j en e1 et xs hj => ?_⟩
    rotate_left 6
    · obtain ⟨id, o1, q1, q2, q3, q4, q5⟩ := hHget j _ hj
      cases o1 <;> simp [Obj.send] at q5
      exact q5.1
    · intro b hb
      rw [hA0] at hb
      refine ⟨r1.h.al_lt hb, ?_⟩
      rw [hO0]
      rintro ⟨id, o1, q1, q2, q3, q4⟩
      exact r1.h.apart (by rw [hS1ids id q1]; exact q2) q3 hb q4
    · intro g e1 xs hg
      rw [hA0]
      exact r1.h.glob hg
    · intro j o' hj
      rw [obj_zip] at hj
      obtain ⟨id, o1, q1, q2, q3, q4, q5⟩ := hHget j o' hj
      obtain ⟨e1, e2, e3⟩ := hE0get j id q1
      have hrep := r1.h.objs id o1 q3
      rw [q5, hA0]
      cases o1 with
      | gone => trivial
      | grow en e1' et xs =>
        obtain ⟨t1, t2⟩ := hrep
        refine ⟨by rw [e3]; exact t1, ?_⟩
        rcases t2 with ⟨t2, t3⟩ | ⟨cap, cur, cells, t2, t3, t4⟩
        · exact .inl ⟨by rw [e2]; exact t2, t3⟩
        · exact .inr ⟨cap, cur, cells, by rw [e1, e2]; exact t2, by rw [e1]; exact t3, t4⟩
      | froz e1' xs =>
        obtain ⟨t1, t2, t3⟩ := hrep
        exact ⟨by rw [e3]; exact t1, by rw [e2]; exact t2, by rw [e1, e2]; exact t3⟩
      | cells cs' =>
        obtain ⟨vs, et, t1, t2⟩ := hrep
        exact ⟨vs, et, by rw [e1]; exact t1, hmap.repL (fun i hi => objsIn_get hin _ (List.mem_of_getElem? q2) i hi) t2⟩
      | arr e1' xs =>
        obtain ⟨t1, cells, et, t2, t3⟩ := hrep
        exact ⟨by rw [e3]; exact t1, cells, et, by rw [e1]; exact t2, t3⟩
    · intro j o' hj hw
      rw [obj_zip] at hj
      obtain ⟨id, o1, q1, q2, q3, q4, q5⟩ := hHget j o' hj
      obtain ⟨e1, e2, e3⟩ := hE0get j id q1
      have hw1 : Owns E id o1 := (owns_send e2).1 (q5 ▸ hw)
      rw [e1]
      refine ⟨h.h.lt q4 hw1, ?_⟩
      rw [hO0]
      exact ⟨id, o1, hidsget j id q1, q4, hw1, rfl⟩
    · intro i j o1 o2 hi hwi hj hwj hβ
      rw [obj_zip] at hi hj
      obtain ⟨id, p1, q1, q2, q3, q4, q5⟩ := hHget i o1 hi
      obtain ⟨id', p2, s1, s2, s3, s4, s5⟩ := hHget j o2 hj
      obtain ⟨e1, e2, e3⟩ := hE0get i id q1
      obtain ⟨f1, f2, f3⟩ := hE0get j id' s1
      have hw1 : Owns E id p1 := (owns_send e2).1 (q5 ▸ hwi)
      have hw2 : Owns E id' p2 := (owns_send f2).1 (s5 ▸ hwj)
      rw [e1, f1] at hβ
      have := h.h.inj id id' p1 p2 q4 hw1 s4 hw2 hβ
      subst this
      have hi' := (List.getElem?_eq_some_iff.1 q1)
      have hj' := (List.getElem?_eq_some_iff.1 s1)
      exact (List.getElem_inj (h₀ := hi'.1) (h₁ := hj'.1) hnodup).1 (hi'.2.trans hj'.2.symm)
    · rw [hA0]
      exact hmap.repL hsubi (Ext.repL (A := Al C S1 E w) ⟨ext1.d, fun b hb => ⟨hb, fun _ _ q => q⟩⟩ has)
  obtain ⟨hfn, hspec⟩ := hG f _ _ cs r hcs hr
  rw [← hH] at hspec
  have hcall := hspec w A0 O0 E0 _ hpre
  -- the run
  intro K Q hK
  have hexec : (execOp a.eval o).run C.P w = .ok (.enter f (fs ++ args.toList.map a.eval ++ cs0).toArray) w := by
    obtain ⟨fn, c, g1, g2, g3⟩ := hfn
    unfold execOp
    simp only [ho, resolve, hfv, Deferred.ofValue, Sem.run_bind, Sem.run_pure, Result.andThen_ok, invoke, callFunc, run_program, g1, g3, g2]
    simp
  unfold Oper.wp
  rw [hexec]
  show Calls C.P f _ w _
  refine hcall.mono ?_
  rintro e' w' ⟨v, E', rfl, hpost, hres⟩
  show K (a.put o.dst v) w'
  obtain ⟨Cc, hCc⟩ : ∃ Cc, Cc = FCtx C.P C.gl w A0 O0 E0 H.length 0 := ⟨_, rfl⟩
  rw [← hCc] at hpost hres
  have hCw : Cc.w0 = w := by rw [hCc]; rfl
  have hCm : Cc.m = ids.length := by rw [hCc, ← hHlen]; rfl
  have hCA : Cc.A0 = A0 := by rw [hCc]; rfl
  have hCO : Cc.O0 = O0 := by rw [hCc]; rfl
  have hCE : Cc.E0 = E0 := by rw [hCc]; rfl
  obtain ⟨H', hH'⟩ : ∃ H', H' = (cs.out r).2 := ⟨_, rfl⟩
  rw [← hH'] at hpost hres hkinds hK
  obtain ⟨bk, hbk⟩ : ∃ bk, bk = backId ids nid := ⟨_, rfl⟩
  obtain ⟨ae, hae⟩ : ∃ ae, ae = anyEntry G.m S H' 0 ids := ⟨_, rfl⟩
  rw [← hbk, ← hae] at hK
  obtain ⟨S2, hS2⟩ : ∃ S2, S2 = S.setObjs (backObjs bk ae H' ++ frz S.obj vis) := ⟨_, rfl⟩
  have hS2' : S2 = S1.setObjs (backObjs bk ae H') := by rw [hS2, hS1]; simp [AS.setObjs]
  have hlt := kinds_lt hkinds
  rw [hlen] at hlt
  have hbk1 : ∀ (j id : Nat), ids[j]? = some id → bk j = id := fun j id hj => by rw [hbk]; simp [backId, hj]
  have hbk2 : ∀ j, ids.length ≤ j → bk j = nid + (j - ids.length) := fun j hj => by rw [hbk]; simp [backId, List.getElem?_eq_none hj]
  have hidsS : ∀ (j id : Nat), ids[j]? = some id → S.obj id ≠ none := fun j id hj => by
    obtain ⟨o1, _, q2⟩ := hget j id hj
    rw [q2]; simp
  have hinjbk : ∀ i j, i < ids.length + 4 → j < ids.length + 4 → bk i = bk j → i = j := by
    intro i j hi hj hq
    by_cases h1 : i < ids.length
    · have g1 := List.getElem?_eq_getElem h1
      rw [hbk1 i _ g1] at hq
      by_cases h2 : j < ids.length
      · have g2 := List.getElem?_eq_getElem h2
        rw [hbk1 j _ g2] at hq
        exact (List.getElem_inj hnodup).1 hq
      · rw [hbk2 j (by omega)] at hq
        have := hidsS i _ g1
        rw [hq] at this
        exact absurd (hn _ (by omega)) this
    · rw [hbk2 i (by omega)] at hq
      by_cases h2 : j < ids.length
      · have g2 := List.getElem?_eq_getElem h2
        rw [hbk1 j _ g2] at hq
        have := hidsS j _ g2
        rw [← hq] at this
        exact absurd (hn _ (by omega)) this
      · rw [hbk2 j (by omega)] at hq
        omega
  have hlookS2 : ∀ i, S2.obj i = match look (backObjs bk ae H') i with | some o => some o | none => S1.obj i := by
    intro i
    rw [hS2']
    show look (backObjs bk ae H' ++ S1.h) i = _
    generalize backObjs bk ae H' = L
    induction L with
    | nil => rfl
    | cons p L ih =>
      obtain ⟨k, o⟩ := p
      simp only [List.cons_append, look_cons]
      split
      · rfl
      · exact ih
  have hlookB : ∀ j, j < ids.length + 4 → look (backObjs bk ae H') (bk j) = (look H' j).map (Obj.back bk ae) := fun j hj => backObjs_look hinjbk hlt j hj
  obtain ⟨E2, hE2⟩ : ∃ E2 : Env, E2 = ⟨fun i => match S.obj i with | some _ => E.β i | none => E'.β (ids.length + (i - nid)), fun i => match S.obj i with | some _ => E.sl i | none => E'.sl (ids.length + (i - nid)), fun i => match S.obj i with | some _ => E.ln i | none => E'.ln (ids.length + (i - nid))⟩ := ⟨_, rfl⟩
  have hE2old : ∀ i, S.obj i ≠ none → E2.β i = E.β i ∧ E2.σ i = E.σ i ∧ E2.ln i = E.ln i := by
    intro i hi
    cases hq : S.obj i with
    | none => exact absurd hq hi
    | some o => rw [hE2]; simp [hq, Env.σ]
  -- the callee's numbers, and the caller's
  have hcorr : ∀ j, j < ids.length + 4 → (look H' j ≠ none) → E2.β (bk j) = E'.β j ∧ E2.σ (bk j) = E'.σ j ∧ E2.ln (bk j) = E'.ln j := by
    intro j hj hl
    by_cases h1 : j < ids.length
    · have g1 := List.getElem?_eq_getElem h1
      rw [hbk1 j _ g1]
      obtain ⟨p1, p2, p3, p4⟩ := hpost.pin j (by rw [hCm]; exact h1)
      rw [hCE] at p2 p3 p4
      obtain ⟨e1, e2, e3⟩ := hE0get j _ g1
      obtain ⟨f1, f2, f3⟩ := hE2old _ (hidsS j _ g1)
      exact ⟨by rw [f1, p2, e1], by rw [f2, p3, e2], by rw [f3, p4, e3]⟩
    · rw [hbk2 j (by omega)]
      have hnone := hn (j - ids.length) (by omega)
      rw [hE2]
      simp only [hnone, Env.σ]
      rw [show ids.length + (nid + (j - ids.length) - nid) = j by omega]
      exact ⟨rfl, rfl, by first | rfl | trivial⟩
  have hmap2 : Map (Dom (stateOf H')) E' (Dom S2) E2 bk (List.range (ids.length + 4)) := by
    refine ⟨fun j hj hd => ?_⟩
    have hj := List.mem_range.1 hj
    refine ⟨?_, hcorr j hj hd⟩
    unfold Dom
    rw [hlookS2, hlookB j hj]
    cases hq : look H' j with
    | none => exact absurd hq hd
    | some o => simp
  have hdomlt : ∀ j, Dom (stateOf H') j → j ∈ List.range (ids.length + 4) := by
    intro j hd
    refine List.mem_range.2 ?_
    unfold Dom at hd
    have : ∀ (L : List (Nat × Obj)), (∀ p ∈ L, p.1 < ids.length + 4) → look L j ≠ none → j < ids.length + 4 := by
      intro L
      induction L with
      | nil => intro _ q; exact absurd rfl q
      | cons p L ih =>
        obtain ⟨k, o⟩ := p
        intro hp q
        rw [look_cons] at q
        split at q
        · rename_i e; rw [e]; exact hp (k, o) (by simp)
        · exact ih (fun p hp' => hp p (by simp [hp'])) q
    exact this H' hlt hd
  -- which objects there are
  have split2 : ∀ i o2, S2.obj i = some o2 → (∃ j o', j < ids.length + 4 ∧ i = bk j ∧ look H' j = some o' ∧ o2 = o'.back bk ae) ∨ (S1.obj i = some o2 ∧ i ∉ ids) := by
    intro i o2 hi
    by_cases him : ∃ j, j < ids.length + 4 ∧ i = bk j ∧ look H' j ≠ none
    · obtain ⟨j, hj, rfl, hl⟩ := him
      cases hq : look H' j with
      | none => exact absurd hq hl
      | some o' =>
        rw [hlookS2, hlookB j hj, hq] at hi
        simp at hi
        exact .inl ⟨j, o', hj, rfl, hq, hi.symm⟩
    · have hni : i ∉ ids := by
        intro hmem
        obtain ⟨j, hj1, hj2⟩ := List.getElem_of_mem hmem
        refine him ⟨j, by omega, (hbk1 j i (by rw [← hj2]; exact List.getElem?_eq_getElem hj1)).symm, ?_⟩
        exact (hpost.pin j (by rw [hCm]; exact hj1)).1
      have hnone : look (backObjs bk ae H') i = none := by
        cases hq : look (backObjs bk ae H') i with
        | none => rfl
        | some o =>
          exfalso
          have : ∀ (L : List (Nat × Obj)), (∀ p ∈ L, p.1 < ids.length + 4) → look (backObjs bk ae L) i ≠ none → ∃ j, j < ids.length + 4 ∧ i = bk j ∧ look L j ≠ none := by
            intro L
            induction L with
            | nil => intro _ q; exact absurd rfl q
            | cons p L ih =>
              obtain ⟨k, o⟩ := p
              intro hp q
              simp only [backObjs, look_cons] at q
              split at q
              · rename_i e
                exact ⟨k, hp (k, o) (by simp), e, by rw [look_cons]; simp⟩
              · obtain ⟨j, q1, q2, q3⟩ := ih (fun p hp' => hp p (by simp [hp'])) q
                exact ⟨j, q1, q2, by rw [look_cons]; split <;> simp [q3]⟩
          exact him (this H' hlt (by rw [hq]; simp))
      rw [hlookS2, hnone] at hi
      exact .inr ⟨hi, hni⟩
  -- who owns what
  have hown2 : ∀ i o2, S2.obj i = some o2 → Owns E2 i o2 → (∃ j o', j < ids.length + 4 ∧ i = bk j ∧ look H' j = some o' ∧ o2 = o'.back bk ae ∧ Owns E' j o' ∧ E2.β i = E'.β j) ∨
      (S1.obj i = some o2 ∧ Owns E i o2 ∧ E2.β i = E.β i ∧ i ∉ ids) := by
    intro i o2 hi hw
    rcases split2 i o2 hi with ⟨j, o', hj, rfl, hq, ho2⟩ | ⟨hi1, hni⟩
    · obtain ⟨c1, c2, c3⟩ := hcorr j hj (by rw [hq]; simp)
      exact .inl ⟨j, o', hj, rfl, hq, ho2, (owns_back c2).1 (ho2 ▸ hw), c1⟩
    · have hSi : S.obj i ≠ none := fun q => by rw [hS1none i q] at hi1; cases hi1
      obtain ⟨f1, f2, f3⟩ := hE2old i hSi
      exact .inr ⟨hi1, (Owns.env f2).1 hw, f1, hni⟩
  -- where a callee's block lies
  have hplace : ∀ j o', look H' j = some o' → Owns E' j o' → E'.β j < w'.heap.size ∧ (w.heap.size ≤ E'.β j ∨ ∃ id o1, id ∈ ids ∧ S1.obj id = some o1 ∧ Owns E id o1 ∧ E.β id = E'.β j ∧ Entry Cc j o') := by
    intro j o' hl hw
    have := hpost.fresh j o' hl hw
    rw [hCw, hCO] at this
    refine ⟨this.1, this.2.imp (fun q => q) ?_⟩
    rintro ⟨q, q'⟩
    rw [hO0] at q
    obtain ⟨id, o1, s1, s2, s3, s4⟩ := q
    exact ⟨id, o1, s1, by rw [hS1ids id s1]; exact s2, s3, s4, q'⟩
  have hlatw : Later w w' := by have := hpost.lat; rw [hCw] at this; exact this
  have hszw : w.heap.size ≤ w'.heap.size := hlatw.sz
  have hkeepw : ∀ b, b < w.heap.size → ¬ O0 b → w'.heap[b]? = w.heap[b]? := by
    intro b hb hO
    have := hpost.keep b (by rw [hCw]; exact hb) (by rw [hCO]; exact hO)
    rw [hCw] at this
    exact this
  have hnotO : ∀ b, (∀ id o1, id ∈ ids → S1.obj id = some o1 → Owns E id o1 → E.β id ≠ b) → ¬ O0 b := by
    intro b hq
    rw [hO0]
    rintro ⟨id, o1, s1, s2, s3, s4⟩
    exact hq id o1 s1 (by rw [hS1ids id s1]; exact s2) s3 s4
  have hownA : ∀ b, C.w0.heap.size ≤ b → b < w.heap.size → (∀ id o, S1.obj id = some o → Owns E id o → E.β id ≠ b) → ∀ id o, S2.obj id = some o → Owns E2 id o → E2.β id ≠ b := by
    intro b h1 h2 h3 i o2 hi hw
    rcases hown2 i o2 hi hw with ⟨j, o', hj, _, hq, _, hwj, hβ⟩ | ⟨hi1, hw1, hβ, _⟩
    · rw [hβ]
      rcases (hplace j o' hq hwj).2 with q | ⟨id, o1, q1, q2, q3, q4, _⟩
      · omega
      · rw [← q4]; exact h3 id o1 q2 q3
    · rw [hβ]; exact h3 i o2 hi1 hw1
  have hA2 : ∀ b, Al Cc (stateOf H') E' w' b → Al C S2 E2 w' b := by
    intro b hb
    rcases hb with hb | ⟨h1, h2, h3⟩
    · rw [hCA, hA0] at hb
      exact Al.ext hszw hownA hb
    · rw [hCw] at h1
      refine .inr ⟨Nat.le_trans r1.h.size h1, h2, ?_⟩
      intro i o2 hi hw
      rcases hown2 i o2 hi hw with ⟨j, o', hj, _, hq, _, hwj, hβ⟩ | ⟨hi1, hw1, hβ, _⟩
      · rw [hβ]; exact h3 j o' hq hwj
      · rw [hβ]
        have := r1.h.lt hi1 hw1
        omega
  have hstep := r1.step (S' := S2) (E' := E2) (w' := w') (fun t => by rw [hS2']; rfl) hlatw
    (fun b h1 h2 => hkeepw b (Nat.lt_of_lt_of_le h1 r1.h.size) (hnotO b (fun id o1 _ q2 q3 q4 => r1.h.away q2 q3 h1 h2 q4.symm)))
    (fun id hd => by
      have hSi : S.obj id ≠ none := fun q => hd (hS1none id q)
      refine ⟨?_, hE2old id hSi⟩
      unfold Dom
      rw [hlookS2]
      split
      · simp
      · exact hd)
    hownA
    (fun b hb => hkeepw b (r1.h.al_lt hb) (hnotO b (fun id o1 _ q2 q3 q4 => r1.h.apart q2 q3 hb q4)))
    (fun ext i o2 hi => by
      rcases split2 i o2 hi with ⟨j, o', hj, rfl, hq, rfl⟩ | ⟨hi1, hni⟩
      · obtain ⟨c1, c2, c3⟩ := hcorr j hj (by rw [hq]; simp)
        refine .inr ⟨?_, ?_⟩
        · have hrep := hpost.objs j o' hq
          have up : ∀ {s : Sh} {x : s.T} {c : List Value}, PC (Al Cc (stateOf H') E' w') w' s x c → PC (Al C S2 E2 w') w' s x c := fun q => (up_ext (E := E2) (D := Dom S2) hA2).pc q
          cases o' with
          | gone => trivial
          | grow en e1' et xs =>
            obtain ⟨t1, t2⟩ := hrep
            refine ⟨by rw [c3]; exact t1, ?_⟩
            rcases t2 with ⟨t2, t3⟩ | ⟨cap, cur, cells, t2, t3, t4, t5, t6, t7, t8⟩
            · exact .inl ⟨by rw [c2]; exact t2, t3⟩
            · exact .inr ⟨cap, cur, cells, by rw [c1, c2]; exact t2, by rw [c1]; exact t3, t4, t5, t6, t7.imp (fun _ _ => up), t8⟩
          | froz e1' xs =>
            obtain ⟨t1, t2, t3⟩ := hrep
            exact ⟨by rw [c3]; exact t1, by rw [c2]; exact up t2, by rw [c1, c2]; exact t3⟩
          | cells cs' =>
            obtain ⟨vs, et, t1, t2⟩ := hrep
            exact ⟨vs, et, by rw [c1]; exact t1, (up_ext hA2).repL (hmap2.repL (fun i hi => hdomlt i (refsL_dom t2 i hi)) t2)⟩
          | arr e1' xs =>
            obtain ⟨t1, cells, et, t2, t3⟩ := hrep
            exact ⟨by rw [c3]; exact t1, cells, et, by rw [c1]; exact t2, t3.imp (fun _ _ => up)⟩
        · intro hw
          have hwj := (owns_back c2).1 hw
          obtain ⟨p1, p2⟩ := hplace j o' hq hwj
          rw [c1]
          refine ⟨p1, ?_⟩
          rcases p2 with p2 | ⟨id, o1, q1, q2, q3, q4, q5⟩
          · exact .inl (Nat.le_trans r1.h.size p2)
          · rcases (r1.h.fresh id o1 q2 q3).2 with q6 | ⟨q6, q7⟩
            · exact .inl (by rw [← q4]; exact q6)
            · refine .inr ⟨by rw [← q4]; exact q6, ?_⟩
              have hent : entry G.m S id = true := by
                unfold entry
                rw [hm]
                by_cases hlt' : id < C.m
                · have : Nat.blt id C.m = true := Nat.ble_eq_true_of_le hlt'
                  rw [this]
                · have : Nat.blt id C.m = false := by
                    cases hb : Nat.blt id C.m with
                    | false => rfl
                    | true => exact absurd (Nat.le_of_ble_eq_true hb) hlt'
                  rw [this, ← hS1ids id q1, q2]
                  cases o1 with
                  | grow en1 _ _ _ => exact q7
                  | cells _ => exact absurd q7 hlt'
                  | arr _ _ => exact absurd q7 hlt'
                  | gone => exact q3.elim
                  | froz _ _ => exact q3.elim
              have hae' : (∀ cs', o' ≠ .cells cs') → (∀ e1 xs, o' ≠ .arr e1 xs) → ae = true := by
                intro no1 no2
                rw [hae]
                obtain ⟨k, hk1, hk2⟩ := List.getElem_of_mem q1
                have hk : ids[k]? = some id := by rw [← hk2]; exact List.getElem?_eq_getElem hk1
                refine anyEntry_true (k := k) (j := 0) hk hent ?_
                rw [Nat.zero_add]
                have same : ∀ o3, look H' k = some o3 → Owns E' k o3 → o3 = o' := by
                  intro o3 h3 hw3
                  have hb := hcorr k (by omega) (by rw [h3]; simp)
                  rw [hbk1 k id hk] at hb
                  have := hpost.inj k j o3 o' h3 hw3 hq hwj (by rw [← hb.1, (hE2old id (hidsS k id hk)).1, q4])
                  subst this
                  have h4 : (some o3 : Option Obj) = some o' := h3.symm.trans hq
                  cases h4; rfl
                unfold held
                split
                · rename_i cs' h3; exact absurd (same _ h3 trivial).symm (no1 cs')
                · rename_i e1 xs h3; exact absurd (same _ h3 trivial).symm (no2 e1 xs)
                · rfl
              have one : j < ids.length → ∀ o3, os[j]? = some o3 → Owns E (bk j) o3 → bk j = id := by
                intro hjl o3 ho3 hw3
                have g1 := List.getElem?_eq_getElem hjl
                obtain ⟨o4, q8, q9⟩ := hget j _ g1
                rw [ho3] at q8
                cases q8
                have hb1 := hbk1 j _ g1
                rw [hb1] at hw3 c1 ⊢
                have := (hE2old _ (hidsS j _ g1)).1
                exact r1.h.inj _ id o3 o1 (by rw [hS1ids _ (hidsget j _ g1)]; exact q9) hw3 q2 q3 (by rw [← this, c1, q4])
              cases o' with
              | gone => exact hwj.elim
              | froz _ _ => exact hwj.elim
              | grow en e1' et xs =>
                simp only [Entry] at q5
                simp only [Obj.back, Entry, hae' (fun _ q => by cases q) (fun _ _ q => by cases q), q5]
              | cells cs' =>
                simp only [Entry, hCm] at q5
                have g1 := List.getElem?_eq_getElem q5
                obtain ⟨o4, q8, q9⟩ := hget j _ g1
                have hk := kinds_same hkinds j o4 _ q8 hq
                cases o4 <;> simp [sameKind] at hk
                have := one q5 _ q8 trivial
                simp only [Obj.back, Entry, this]
                rw [hS1ids id q1, ← this, hbk1 j _ g1, q9] at q2
                cases q2
                exact q7
              | arr e1' xs =>
                simp only [Entry, hCm] at q5
                have g1 := List.getElem?_eq_getElem q5
                obtain ⟨o4, q8, q9⟩ := hget j _ g1
                have hk := kinds_same hkinds j o4 _ q8 hq
                cases o4 <;> simp [sameKind] at hk
                have := one q5 _ q8 trivial
                simp only [Obj.back, Entry, this]
                rw [hS1ids id q1, ← this, hbk1 j _ g1, q9] at q2
                cases q2
                exact q7
      · refine .inl ⟨hi1, fun hw => hkeepw _ (r1.h.lt hi1 hw) (hnotO _ (fun id o1 q1 q2 q3 q4 => ?_))⟩
        have := r1.h.inj id i o1 o2 q2 q3 hi1 hw q4
        subst this
        exact hni q1)
    (fun i j o1 o2 hi hwi hj hwj hβ => by
      rcases hown2 i o1 hi hwi with ⟨i', o1', hi', rfl, hq1, _, hw1, hβ1⟩ | ⟨hi1, hw1, hβ1, hni⟩ <;> rcases hown2 j o2 hj hwj with ⟨j', o2', hj', rfl, hq2, _, hw2, hβ2⟩ | ⟨hj1, hw2, hβ2, hnj⟩
      · rw [hβ1, hβ2] at hβ
        rw [hpost.inj i' j' o1' o2' hq1 hw1 hq2 hw2 hβ]
      · exfalso
        rw [hβ1, hβ2] at hβ
        rcases (hplace i' o1' hq1 hw1).2 with q | ⟨id, o3, q1, q2, q3, q4, _⟩
        · have := r1.h.lt hj1 hw2; omega
        · have := r1.h.inj id j o3 o2 q2 q3 hj1 hw2 (by rw [q4, hβ])
          subst this
          exact hnj q1
      · exfalso
        rw [hβ1, hβ2] at hβ
        rcases (hplace j' o2' hq2 hw2).2 with q | ⟨id, o3, q1, q2, q3, q4, _⟩
        · have := r1.h.lt hi1 hw1; omega
        · have := r1.h.inj id i o3 o1 q2 q3 hi1 hw1 (by rw [q4, hβ])
          subst this
          exact hni q1
      · rw [hβ1, hβ2] at hβ
        exact r1.h.inj i j o1 o2 hi1 hw1 hj1 hw2 hβ)
  refine hK v w' E2 (by rw [← hS2]; exact hstep.1) ?_
  rw [← hS2]
  exact (up_ext hA2).repV (hmap2.repV (fun i hi => hdomlt i (refs_dom hres i hi)) hres)
end
end Go.Rx
/-! Rx, part 15: each operation, in one lemma; it comes to the same wherever what it looks at is the same. -/
namespace Go.Rx
set_option linter.unusedVariables false
set_option linter.unusedSimpArgs false
def DecOK (S : AS) : Prop := ∀ p, p ∈ S.dec → S.get p.1 = .bool p.2
structure GOK (C : Ctx) (G : Gl) : Prop where
  m : G.m = C.m
  n : G.n = C.N
  gl : G.gl = C.gl
  ty : TyOK C.P G
  calls : CallsOK C.P C.gl G
theorem look_mem {α : Type} : ∀ {l : List (Nat × α)} {n : Nat} {v : α}, look l n = some v → (n, v) ∈ l
  | [], _, _, h => by cases h
  | p :: l, n, v, h => by
    obtain ⟨k, u⟩ := p
    rw [look_cons] at h
    split at h
    · rename_i e; cases h; rw [e]; simp
    · exact List.mem_cons_of_mem _ (look_mem h)
theorem withBool_sat {α : Type} {S : AS} (hd : DecOK S) {x : Operand} {k : Bool → List (Nat × Bool) → Tree α} {Q : α → Prop} (h : (withBool S x k).sat Q) :
    ∃ b dec, (k b dec).sat Q ∧ S.ev x = .bool b ∧ ∀ p, p ∈ dec → S.get p.1 = .bool p.2 ∧ x = .tmp p.1 := by
  unfold withBool at h
  split at h
  · exact ⟨_, [], h, rfl, fun p hp => by cases hp⟩
  · rename_i t
    split at h
    · rename_i c hc
      exact ⟨c, [], h, hd _ (look_mem hc), fun p hp => by cases hp⟩
    · split at h
      · rename_i b hb
        rcases h with ⟨h1, h2⟩ | ⟨h1, h2⟩
        · exact ⟨true, _, h2, by show S.get t = _; rw [hb, h1], fun p hp => by simp at hp; subst hp; exact ⟨by show S.get t = _; rw [hb, h1], rfl⟩⟩
        · exact ⟨false, _, h2, by show S.get t = _; rw [hb, h1], fun p hp => by simp at hp; subst hp; exact ⟨by show S.get t = _; rw [hb, h1], rfl⟩⟩
      · cases h
  · cases h
theorem withBoolC_sat {α : Type} {S : AS} (hd : DecOK S) {x : Operand} {k : Bool → List (Nat × Bool) → Tree α} {Q : α → Prop} (h : (withBoolC S x k).sat Q) :
    (∃ b dec, (k b dec).sat Q ∧ S.ev x = .bool b ∧ ∀ p, p ∈ dec → S.get p.1 = .bool p.2 ∧ x = .tmp p.1) ∨ (S.ev x = .anyB ∧ (k true []).sat Q ∧ (k false []).sat Q) := by
  unfold withBoolC at h
  split at h
  · exact .inl ⟨_, [], h, rfl, fun p hp => by cases hp⟩
  · rename_i t
    split at h
    · rename_i c hc
      exact .inl ⟨c, [], h, hd _ (look_mem hc), fun p hp => by cases hp⟩
    · split at h
      · rename_i b hb
        rcases h with ⟨h1, h2⟩ | ⟨h1, h2⟩
        · exact .inl ⟨true, _, h2, by show S.get t = _; rw [hb, h1], fun p hp => by simp at hp; subst hp; exact ⟨by show S.get t = _; rw [hb, h1], rfl⟩⟩
        · exact .inl ⟨false, _, h2, by show S.get t = _; rw [hb, h1], fun p hp => by simp at hp; subst hp; exact ⟨by show S.get t = _; rw [hb, h1], rfl⟩⟩
      · rename_i hb
        exact .inr ⟨hb, h.1, h.2⟩
      · cases h
  · cases h
theorem withTy_sat {G : Gl} {t : TypeId} {k : TI → Tree Eff} {Q : Eff → Prop} (h : (withTy G t k).sat Q) : ∃ ti, G.ty t = some ti ∧ (k ti).sat Q := by
  unfold withTy at h
  split at h
  · exact ⟨_, by assumption, h⟩
  · cases h
theorem fillAV_len (p : Nat → Option (Nat × Nat)) : True := trivial

/-! ### The same elsewhere -/
section
variable {S S' : AS} {G : Gl} {e : Eff}
theorem frz_agree {h h' : Nat → Option Obj} : ∀ {vis : List Nat}, (∀ id, id ∈ vis → h' id = h id) → frz h' vis = frz h vis
  | [], _ => rfl
  | v :: r, hv => by
    have := frz_agree (vis := r) (fun id hi => hv id (by simp [hi]))
    simp only [frz, hv v (by simp), this]
theorem dataAll_agree {m : Nat} {h h' : Nat → Option Obj} {t : Sh} {l : List AV} {d : DC t} (q : dataAll m h t l = some d) (hv : ∀ id, id ∈ d.vis → h' id = h id) : dataAll m h' t l = some d := by
  unfold dataAll at q ⊢
  split at q
  · rename_i x vis hd
    cases q
    rw [data_agree t l _ hd hv]
  · cases q
theorem evLoad_agree {ti : TI} {v : AV} (h : (evLoad S ti v).sat (· = e)) (ho : ∀ id, id ∈ e.rd → S'.obj id = S.obj id) : (evLoad S' ti v).sat (· = e) := by
  cases v <;> first | exact h | skip
  · rename_i id off
    have key : id ∈ e.rd := by
      simp only [evLoad] at h
      split at h
      · split at h
        · cases h; simp
        · cases h
      · cases h
    simp only [evLoad] at h ⊢
    rw [ho id key]
    exact h
  · rename_i id sz i off
    have key : id ∈ e.rd := by
      simp only [evLoad] at h
      split at h
      all_goals first
        | (split at h
           · cases h; simp
           · cases h)
        | cases h
    simp only [evLoad] at h ⊢
    rw [ho id key]
    exact h
theorem evStore_agree {m : Nat} {ti : TI} {a v : AV} (h : (evStore m S ti a v).sat (· = e)) (ho : ∀ id, id ∈ e.rd → S'.obj id = S.obj id) : (evStore m S' ti a v).sat (· = e) := by
  unfold evStore at h ⊢
  split at h
  case h_2 => cases h
  cases a <;> first | exact h | skip
  · rename_i id off
    simp only at h ⊢
    split at h
    · rename_i cs hob
      split at h
      · rename_i hle
        cases h
        rw [ho id (by simp), hob]
        simp only [hle]
        rfl
      · cases h
    · cases h
  · rename_i id sz i off
    simp only at h ⊢
    split at h
    · rename_i en e1 et xs hob
      split at h
      · rename_i d hb hle hd
        split at h
        · rename_i hvis
          cases h
          rw [ho id (by simp), hob]
          simp only
          rw [hb, hle, dataAll_agree hd (fun i hi => ho i (by simp [hi]))]
          simp only
          rw [hvis]
          simp only
          rw [frz_agree (fun i hi => ho i (by simp [hi]))]
          rfl
        · cases h
      · cases h
    · rename_i e1 xs hob
      split at h
      · rename_i d hb hle hd
        split at h
        · rename_i hvis
          cases h
          rw [ho id (by simp), hob]
          simp only
          rw [hb, hle, dataAll_agree hd (fun i hi => ho i (by simp [hi]))]
          simp only
          rw [hvis]
          simp only
          rw [frz_agree (fun i hi => ho i (by simp [hi]))]
          rfl
        · cases h
      · cases h
    · cases h
theorem evIndexAddr_agree {ti : TI} {v y : AV} (h : (evIndexAddr G S ti v y).sat (· = e)) (ho : ∀ id, id ∈ e.rd → S'.obj id = S.obj id) : (evIndexAddr G S' ti v y).sat (· = e) := by
  cases v <;> first | (cases y <;> exact h) | skip
  · rename_i id
    cases y <;> first | exact h | skip
    rename_i k i
    have key : id ∈ e.rd := by
      simp only [evIndexAddr] at h
      split at h
      all_goals first
        | (split at h
           · obtain ⟨_, _, h⟩ := h; cases h; simp
           · cases h)
        | cases h
    simp only [evIndexAddr] at h ⊢
    rw [ho id key]
    exact h
  · rename_i id off
    cases off with
    | succ n => cases y <;> exact h
    | zero =>
      cases y <;> first | exact h | skip
      rename_i k i
      have key : id ∈ e.rd := by
        simp only [evIndexAddr] at h
        split at h
        · split at h
          · obtain ⟨_, _, _, h⟩ := h; cases h; simp
          · cases h
        · cases h
      simp only [evIndexAddr] at h ⊢
      rw [ho id key]
      exact h
  · rename_i id sz lo
    cases y <;> first | exact h | skip
    rename_i k i
    have key : id ∈ e.rd := by
      simp only [evIndexAddr] at h
      split at h
      · split at h
        · obtain ⟨_, _, h⟩ := h; cases h; simp
        · cases h
      · cases h
    simp only [evIndexAddr] at h ⊢
    rw [ho id key]
    exact h
theorem bin2_agree {op : BinOp} {ti : TI} {x y : AV} (h : (evBin2 S op ti x y).sat (· = e)) (ho : ∀ id, id ∈ e.rd → S'.obj id = S.obj id) : (evBin2 S' op ti x y).sat (· = e) := by
  unfold evBin2 at h ⊢
  split at h
  case h_2 => exact h
  rename_i id
  have key : id ∈ e.rd := by
    unfold evNilOwn at h
    split at h
    · rcases h with ⟨_, h⟩ | ⟨_, h⟩ <;> cases h <;> simp
    · rcases h with ⟨_, h⟩ | ⟨_, h⟩ <;> cases h <;> simp
    · cases h
  simp only [evNilOwn] at h ⊢
  rw [ho id key]
  exact h
theorem lenAV_agree {td : TD} {v : AV} {n : Int} {rd : List Nat} (h : lenAV S td v = some (n, rd)) (ho : ∀ id, id ∈ rd → S'.obj id = S.obj id) : lenAV S' td v = some (n, rd) := by
  cases v <;> first | exact h | skip
  · rename_i id
    have key : id ∈ rd := by
      simp only [lenAV] at h
      split at h
      · cases h; simp
      · cases h; simp
      · cases h
    simp only [lenAV] at h ⊢
    rw [ho id key]
    exact h
  · rename_i id sz lo
    have key : id ∈ rd := by
      simp only [lenAV] at h
      split at h
      · cases h; simp
      · cases h
    simp only [lenAV] at h ⊢
    rw [ho id key]
    exact h
theorem listAV_agree {t : Sh} {v : AV} {d : DC (.sl t)} (h : listAV S t v = some d) (ho : ∀ id, id ∈ d.vis → S'.obj id = S.obj id) : listAV S' t v = some d := by
  cases v <;> first | exact h | skip
  rename_i id
  have key : id ∈ d.vis := by
    simp only [listAV] at h
    split at h
    · split at h
      · cases h; simp
      · cases h
    · split at h
      · cases h; simp
      · cases h
    · cases h
  simp only [listAV] at h ⊢
  rw [ho id key]
  exact h
theorem appDest_agree {t : Sh} {et : TypeId} {v : AV} {d : AD t} (h : appDest S t et v = some d) (ho : ∀ id, id ∈ d.vis → S'.obj id = S.obj id) : appDest S' t et v = some d := by
  cases v <;> first | exact h | skip
  rename_i id
  have key : id ∈ d.vis := by
    simp only [appDest] at h
    split at h
    · split at h
      · cases h; simp
      · cases h
    · cases h
  simp only [appDest] at h ⊢
  rw [ho id key]
  exact h
theorem evAppend_agree {nid : Nat} {st : TypeId} {s x : AV} (h : (evAppend G S nid st s x).sat (· = e)) (ho : ∀ id, id ∈ e.rd → S'.obj id = S.obj id) : (evAppend G S' nid st s x).sat (· = e) := by
  unfold evAppend at h ⊢
  split at h
  case h_2 => cases h
  rename_i ts hts
  try simp only [hts]
  split at h
  case h_2 => cases h
  rename_i el htt
  try simp only [htt]
  split at h
  case h_2 => cases h
  rename_i te hg
  try simp only [hg]
  split at h
  case h_2 => cases h
  rename_i d d' hd hd' hsz
  split at h
  case h_2 => cases h
  rename_i h1 h2
  obtain ⟨h3, h4, h5⟩ := h
  cases h5
  rw [appDest_agree hd (fun i hi => ho i (by simp [hi])), listAV_agree hd' (fun i hi => ho i (by simp [hi])), hsz]
  try simp only [h1, h2]
  exact ⟨h3, h4, rfl⟩
theorem evCopy_agree {st : TypeId} {s x : AV} (h : (evCopy G S st s x).sat (· = e)) (ho : ∀ id, id ∈ e.rd → S'.obj id = S.obj id) : (evCopy G S' st s x).sat (· = e) := by
  unfold evCopy at h ⊢
  split at h
  case h_2 => cases h
  rename_i ts hts
  try simp only [hts]
  split at h
  case h_2 => cases h
  rename_i el htt
  try simp only [htt]
  split at h
  case h_2 => cases h
  rename_i te hg
  try simp only [hg]
  split at h
  case h_2 => cases h
  rename_i id
  split at h
  case h_2 => cases h
  rename_i en e1 et xs hob
  split at h
  case h_2 => cases h
  rename_i d hd h1 h2
  split at h
  case h_2 => cases h
  rename_i hv
  obtain ⟨h3, h4⟩ := h
  cases h4
  have hid : S'.obj id = S.obj id := ho id (by simp)
  simp only [hid, hob]
  rw [listAV_agree hd (fun i hi => by rw [hv] at hi; cases hi)]
  simp only [h1, h2, hv]
  exact ⟨h3, rfl⟩
theorem sliceSrc_agree {v : AV} {tb : Tab} {rd : List Nat} (h : sliceSrc S v = some (tb, rd)) (ho : ∀ id, id ∈ rd → S'.obj id = S.obj id) : sliceSrc S' v = some (tb, rd) := by
  cases v <;> first | exact h | skip
  rename_i id
  have key : id ∈ rd := by
    simp only [sliceSrc] at h
    split at h
    · cases h; simp
    · cases h
  simp only [sliceSrc] at h ⊢
  rw [ho id key]
  exact h
theorem evSlice_agree {ti : TI} {v : AV} {lo hi : Option AV} (h : (evSlice G S ti v lo hi).sat (· = e)) (ho : ∀ id, id ∈ e.rd → S'.obj id = S.obj id) : (evSlice G S' ti v lo hi).sat (· = e) := by
  unfold evSlice at h ⊢
  split at h
  · cases h
  rename_i tb rd hsrc
  have key : e.rd = rd := by
    split at h
    case h_2 => cases h
    split at h
    · cases h; rfl
    · obtain ⟨_, _, h⟩ := h; cases h; rfl
    · obtain ⟨_, _, h⟩ := h; cases h; rfl
    · obtain ⟨_, _, _, _, h⟩ := h; cases h; rfl
    · cases h
  rw [sliceSrc_agree hsrc (fun i hi => ho i (by rw [key]; exact hi))]
  exact h
theorem newObj_agree {nid : Nat} {ti : TI} {v : AV} (h : (newObj G S nid ti v).sat (· = e)) (ho : ∀ id, id ∈ e.rd → S'.obj id = S.obj id) : (newObj G S' nid ti v).sat (· = e) := by
  unfold newObj at h ⊢
  split at h
  · split at h
    · rename_i te hg
      try simp only [hg]
      split at h
      · rename_i d hd
        cases h
        rw [dataN_agree _ _ _ _ hd (fun i hi => ho i hi)]
        simp only
        rw [frz_agree (fun i hi => ho i hi)]
        rfl
      · cases h
    · cases h
  · cases h
  · exact h
theorem evSlice2_agree {nid : Nat} {ti : TI} {v : AV} {lo hi : Option AV} (h : (evSlice2 G S nid ti v lo hi).sat (· = e)) (ho : ∀ id, id ∈ e.rd → S'.obj id = S.obj id) : (evSlice2 G S' nid ti v lo hi).sat (· = e) := by
  unfold evSlice2 at h
  split at h
  case h_2 => exact h
  case h_3 =>
    rename_i hv hv2
    have := evSlice_agree h ho
    unfold evSlice2
    split
    · rename_i id
      exact absurd rfl (hv id)
    · exact absurd rfl hv2
    · exact this
  rename_i id
  split at h
  case h_2 =>
    rename_i hob
    have hid : S'.obj id = S.obj id := by
      unfold evSlice at h
      split at h
      · cases h
      · rename_i tb rd hsrc
        have hm : id ∈ rd := by
          simp only [sliceSrc] at hsrc
          split at hsrc
          · cases hsrc; simp
          · cases hsrc
        refine ho id ?_
        split at h
        · split at h
          · cases h; exact hm
          · obtain ⟨_, _, h⟩ := h; cases h; exact hm
          · obtain ⟨_, _, h⟩ := h; cases h; exact hm
          · obtain ⟨_, _, _, _, h⟩ := h; cases h; exact hm
          · cases h
        · cases h
    have := evSlice_agree h ho
    unfold evSlice2
    simp only [hid]
    first
      | exact this
      | (split
         · rename_i en e1 et xs q
           exact absurd q (hob en e1 et xs)
         · exact this)
  rename_i en e1 et xs hob
  have hid : S'.obj id = S.obj id := by
    refine ho id ?_
    unfold evSliceOwn at h
    split at h
    · split at h
      · obtain ⟨_, _, h⟩ := h; cases h; simp
      · obtain ⟨_, _, _, h⟩ := h; cases h; simp
      · cases h
    · cases h
  unfold evSlice2
  simp only [hid, hob]
  exact h
theorem evClear_agree {st : TypeId} {x : AV} (h : (evClear G S st x).sat (· = e)) (ho : ∀ id, id ∈ e.rd → S'.obj id = S.obj id) : (evClear G S' st x).sat (· = e) := by
  unfold evClear at h ⊢
  split at h
  case h_2 => cases h
  rename_i ts hts
  try simp only [hts]
  split at h
  case h_2 => cases h
  rename_i el htt
  try simp only [htt]
  split at h
  case h_2 => cases h
  rename_i te hg
  try simp only [hg]
  split at h
  case h_2 => cases h
  rename_i id sz lo
  split at h
  case h_2 => cases h
  rename_i en e1 et xs hob
  split at h
  case h_2 => cases h
  rename_i hsh hd hb1 hb2
  obtain ⟨h3, h4⟩ := h
  cases h4
  have hid : S'.obj id = S.obj id := ho id (by simp)
  simp only [hid, hob, hd, hb1, hb2]
  exact ⟨h3, rfl⟩
theorem evStoreArr_agree {m n : Nat} {ti : TI} {a v : AV} (h : (evStoreArr m S n ti a v).sat (· = e)) (ho : ∀ id, id ∈ e.rd → S'.obj id = S.obj id) : (evStoreArr m S' n ti a v).sat (· = e) := by
  unfold evStoreArr at h ⊢
  split at h
  case h_2 => cases h
  rename_i id
  split at h
  case h_2 => cases h
  rename_i e1 xs hob
  split at h
  case h_2 => cases h
  rename_i d h1 h2 hd
  split at h
  case h_2 => cases h
  rename_i hv
  obtain ⟨h3, h4⟩ := h
  cases h4
  rw [ho id (by simp), hob]
  simp only
  rw [h1, h2, dataN_agree _ _ _ _ hd (fun i hi => ho i (by simp [hi]))]
  simp only
  rw [hv]
  simp only
  rw [frz_agree (fun i hi => ho i (by simp [hi]))]
  exact ⟨h3, rfl⟩
theorem evBuildSlice_agree {nid n : Nat} {ti : TI} {parts : List (Nat × AV)} (h : (evBuildSlice G S nid ti n parts).sat (· = e)) (ho : ∀ id, id ∈ e.rd → S'.obj id = S.obj id) : (evBuildSlice G S' nid ti n parts).sat (· = e) := by
  unfold evBuildSlice at h ⊢
  split at h
  case h_2 => cases h
  rename_i el htt
  try simp only [htt]
  split at h
  case h_2 => cases h
  rename_i te hg
  try simp only [hg]
  split at h
  case h_2 => cases h
  rename_i cs h1 h2
  split at h
  · rename_i d hd
    cases h
    try simp only [h1, h2]
    rw [dataN_agree _ _ _ _ hd (fun i hi => ho i hi)]
    simp only
    rw [frz_agree (fun i hi => ho i hi)]
    rfl
  · cases h
end
end Go.Rx
/-! Rx, part 16: a call comes to the same where the same objects stand; all operations together. -/
namespace Go.Rx
set_option linter.unusedVariables false
set_option linter.unusedSimpArgs false
section
variable {S S' : AS} {G : Gl} {e : Eff}
theorem handCells_agree : ∀ {l as : List AV} {vis : List Nat}, handOver.handCells S l = some (as, vis) → (∀ id, id ∈ vis → S'.obj id = S.obj id) → handOver.handCells S' l = some (as, vis)
  | [], _, _, h, _ => h
  | v :: l, as, vis, h, ho => by
    have gen : (match handOver.handCells S l with | some (l, vis) => some (v :: l, vis) | none => none) = some (as, vis) → (match handOver.handCells S' l with | some (l, vis) => some (v :: l, vis) | none => none) = some (as, vis) := by
      intro q
      split at q
      · rename_i l' vis' hl
        cases q
        rw [handCells_agree hl ho]
      · cases q
    cases v <;> first | exact gen h | skip
    rename_i id
    simp only [handOver.handCells] at h ⊢
    split at h
    · rename_i l' vis' hl
      split at h
      · rename_i e1 et xs hob
        cases h
        rw [handCells_agree hl (fun i hi => ho i (by simp [hi]))]
        simp only
        rw [ho id (by simp), hob]
      · rename_i e1 xs hob
        cases h
        rw [handCells_agree hl (fun i hi => ho i (by simp [hi]))]
        simp only
        rw [ho id (by simp), hob]
      · cases h
    · cases h
theorem handOver_agree : ∀ {m : List Bool} {l as : List AV} {vis : List Nat}, handOver S m l = some (as, vis) → (∀ id, id ∈ vis → S'.obj id = S.obj id) → handOver S' m l = some (as, vis)
  | [], l, as, vis, h, _ => by
    have e1 : ∀ S : AS, handOver S [] l = some (l, []) := fun S => by cases l <;> rfl
    rw [e1] at h ⊢
    exact h
  | b :: m, [], as, vis, h, _ => by
    have e1 : ∀ S : AS, handOver S (b :: m) [] = some ([], []) := fun S => by cases b <;> rfl
    rw [e1] at h ⊢
    exact h
  | b :: m, v :: l, as, vis, h, ho => by
    have gen : (match handOver S m l with | some (l, vis) => some (v :: l, vis) | none => none) = some (as, vis) → (match handOver S' m l with | some (l, vis) => some (v :: l, vis) | none => none) = some (as, vis) := by
      intro q
      split at q
      · rename_i l' vis' hl
        cases q
        rw [handOver_agree hl ho]
      · cases q
    cases b with
    | false =>
      have h1 : (match handOver S m l with | some (l, vis) => some (v :: l, vis) | none => none) = some (as, vis) := by cases v <;> exact h
      have := gen h1
      cases v <;> exact this
    | true =>
      cases v <;> first | exact gen h | skip
      · rename_i id
        simp only [handOver] at h ⊢
        split at h
        · rename_i l' vis' hl
          split at h
          · rename_i e1 et xs hob
            cases h
            rw [handOver_agree hl (fun i hi => ho i (by simp [hi]))]
            simp only
            rw [ho id (by simp), hob]
          · rename_i e1 xs hob
            cases h
            rw [handOver_agree hl (fun i hi => ho i (by simp [hi]))]
            simp only
            rw [ho id (by simp), hob]
          · cases h
        · cases h
      · rename_i cs
        simp only [handOver] at h ⊢
        split at h
        · rename_i c v1 l' v2 hc hl
          cases h
          rw [handCells_agree hc (fun i hi => ho i (by simp [hi])), handOver_agree hl (fun i hi => ho i (by simp [hi]))]
        · cases h
theorem reach_sub : ∀ {n : Nat} {acc l : List Nat} (id : Nat), id ∈ acc → id ∈ reach S n acc l
  | 0, _, _, _, h => by simpa [reach] using h
  | n + 1, acc, [], _, h => by simpa [reach] using h
  | n + 1, acc, a :: r, id, h => by
    simp only [reach]
    split
    · exact reach_sub id h
    · split
      · exact reach_sub id (by simp [h])
      · exact reach_sub id (by simp [h])
theorem reach_agree : ∀ {n : Nat} {acc l : List Nat}, (∀ id, id ∈ reach S n acc l → S'.obj id = S.obj id) → reach S' n acc l = reach S n acc l
  | 0, _, _, _ => by simp [reach]
  | n + 1, acc, [], _ => by simp [reach]
  | n + 1, acc, a :: r, ho => by
    simp only [reach] at ho ⊢
    split at ho
    · rename_i h1
      exact reach_agree ho
    · rename_i h1
      have ha : S'.obj a = S.obj a := by
        refine ho a ?_
        split
        · exact reach_sub a (by simp)
        · exact reach_sub a (by simp)
      rw [ha]
      split at ho
      · exact reach_agree ho
      · exact reach_agree ho
theorem objsOf_agree : ∀ {ids : List Nat}, (∀ id, id ∈ ids → S'.obj id = S.obj id) → objsOf S' ids = objsOf S ids
  | [], _ => rfl
  | a :: r, ho => by simp only [objsOf, ho a (by simp), objsOf_agree (ids := r) (fun id hi => ho id (by simp [hi]))]
theorem anyEntry_agree {m : Nat} {H : List (Nat × Obj)} : ∀ {ids : List Nat} {k : Nat}, (∀ id, id ∈ ids → S'.obj id = S.obj id) → anyEntry m S' H k ids = anyEntry m S H k ids
  | [], _, _ => rfl
  | a :: r, k, ho => by simp only [anyEntry, entry, ho a (by simp), anyEntry_agree (ids := r) (fun id hi => ho id (by simp [hi]))]
theorem evCall_agree {nid : Nat} {f : AV} {args : List AV} (h : (evCall G S nid f args).sat (· = e)) (ho : ∀ id, id ∈ e.rd → S'.obj id = S.obj id) : (evCall G S' nid f args).sat (· = e) := by
  unfold evCall at h ⊢
  split at h
  case h_2 => cases h
  rename_i f1 first caps
  split at h
  · cases h
  rename_i as vis hhand
  simp only at h
  split at h
  case h_2 => cases h
  rename_i os hos hdisj hnd hsub
  split at h
  case h_2 => cases h
  rename_i cs hin hcs
  obtain ⟨r, hr, h⟩ := h
  simp only at h
  split at h
  case h_2 => cases h
  rename_i hk
  cases h
  simp only at ho ⊢
  rw [handOver_agree hhand (fun i hi => ho i (by simp [hi]))]
  simp only
  have hre : reach S' 64 [] (refsL as) = reach S 64 [] (refsL as) := reach_agree (fun id hi => ho id (by simp [hi]))
  rw [hre, objsOf_agree (fun id hi => ho id (by simp [hi])), hos, hdisj, hnd, hsub]
  simp only
  rw [hin, hcs]
  simp only
  refine ⟨r, hr, ?_⟩
  simp only
  rw [hk]
  simp only
  rw [anyEntry_agree (fun id hi => ho id (by simp [hi])), frz_agree (fun id hi => ho id (by simp [hi]))]
  rfl

theorem parts_agree {l : List (Nat × Operand)} (h : ∀ p, p ∈ l → S'.ev p.2 = S.ev p.2) : (l.map fun p => (p.1, S'.ev p.2)) = l.map fun p => (p.1, S.ev p.2) :=
  List.map_congr_left (fun p hp => by rw [h p hp])
theorem evs_agree {l : List Operand} (h : ∀ x, x ∈ l → S'.ev x = S.ev x) : l.map S'.ev = l.map S.ev := List.map_congr_left h
theorem ev_agree {x : Operand} (h : ∀ t, x = .tmp t → S'.get t = S.get t) : S'.ev x = S.ev x := by
  cases x <;> first | rfl | exact h _ rfl
end
theorem ofConst_bool {v : Value} {b : Bool} (h : ofConst v = .bool b) : v = .bool b := by
  unfold ofConst at h
  split at h
  · cases h
  · cases h
  · unfold ofLeaf at h
    split at h <;> first | (cases h; done) | (cases h; rfl)
theorem withTy_agree {G : Gl} {t : TypeId} {k k' : TI → Tree Eff} {e : Eff} (h : (withTy G t k).sat (· = e)) (hk : ∀ ti, G.ty t = some ti → (k ti).sat (· = e) → (k' ti).sat (· = e)) : (withTy G t k').sat (· = e) := by
  unfold withTy at h ⊢
  split at h
  · rename_i ti hti
    exact hk ti hti h
  · cases h
/-- The same elsewhere, but for what was known as decided. -/
theorem op_agree {S S' : AS} {G : Gl} {nid : Nat} {op : Op} {e : Eff} (hd : DecOK S) (hd' : DecOK S') (h : (evOp G S nid op).sat (· = e)) (ht : ∀ x, x ∈ op.operands → S'.ev x = S.ev x) (ho : ∀ id, id ∈ e.rd → S'.obj id = S.obj id) :
    ∃ e', (evOp G S' nid op).sat (· = e') ∧ e'.v = e.v ∧ e'.ws = e.ws := by
  cases op with
  | pick c x y =>
    simp only [evOp] at h ⊢
    obtain ⟨b, dec, h1, h2, h3⟩ := withBool_sat hd h
    cases h1
    have hc : S'.ev c = .bool b := by rw [ht c (by simp [Op.operands]), h2]
    have hx : S'.ev x = S.ev x := ht x (by simp [Op.operands])
    have hy : S'.ev y = S.ev y := ht y (by simp [Op.operands])
    unfold withBool
    split
    · rename_i b'
      have : b' = b := by simpa [AS.ev, ofConst, ofLeaf] using hc
      subst this
      exact ⟨_, rfl, by cases b' <;> simp [hx, hy], rfl⟩
    · rename_i t
      split
      · rename_i c' hc'
        have h4 : S'.get t = .bool c' := hd' _ (look_mem hc')
        have : c' = b := by
          have h5 : S'.get t = .bool b := hc
          rw [h4] at h5
          cases h5
          rfl
        subst this
        exact ⟨_, rfl, by cases c' <;> simp [hx, hy], rfl⟩
      · have h5 : S'.get t = .bool b := hc
        rw [h5]
        simp only
        cases b with
        | true => exact ⟨_, .inl ⟨rfl, rfl⟩, by simp [hx], rfl⟩
        | false => exact ⟨_, .inr ⟨rfl, rfl⟩, by simp [hy], rfl⟩
    · rename_i hn1 hn2
      exfalso
      cases c with
      | tmp t => exact hn2 t rfl
      | const v => exact hn1 b (by rw [ofConst_bool hc])
      | global g => simp [AS.ev] at hc
      | func f => simp [AS.ev] at hc
  | move x => simp only [evOp] at h ⊢; rw [ht x (by simp [Op.operands])]; exact ⟨e, h, rfl, rfl⟩
  | assign x => simp only [evOp] at h ⊢; rw [ht x (by simp [Op.operands])]; exact ⟨e, h, rfl, rfl⟩
  | alloc t => exact ⟨e, h, rfl, rfl⟩
  | box t x =>
    simp only [evOp] at h ⊢
    refine ⟨e, withTy_agree h (fun ti _ q => ?_), rfl, rfl⟩
    rw [ht x (by simp [Op.operands])]
    unfold evBox at q ⊢
    split at q
    · exact q
    · split at q
      · exact newObj_agree q ho
      · cases q
  | build t parts =>
    simp only [evOp] at h ⊢
    rw [parts_agree (fun p hp => ht p.2 (by simp only [Op.operands, List.mem_toArray, Array.mem_def]; simpa using ⟨p.1, by simpa using hp⟩))]
    exact ⟨e, h, rfl, rfl⟩
  | buildSlice t n parts =>
    simp only [evOp] at h ⊢
    rw [parts_agree (fun p hp => ht p.2 (by simp only [Op.operands, List.mem_toArray, Array.mem_def]; simpa using ⟨p.1, by simpa using hp⟩))]
    exact ⟨e, withTy_agree h (fun ti _ q => evBuildSlice_agree q ho), rfl, rfl⟩
  | load t x =>
    simp only [evOp] at h ⊢
    rw [ht x (by simp [Op.operands])]
    exact ⟨e, withTy_agree h (fun ti _ q => evLoad_agree q ho), rfl, rfl⟩
  | store t x y =>
    simp only [evOp] at h ⊢
    rw [ht x (by simp [Op.operands]), ht y (by simp [Op.operands])]
    refine ⟨e, withTy_agree h (fun ti _ q => ?_), rfl, rfl⟩
    split at q
    · rename_i hq
      try simp only [hq]
      exact evStoreArr_agree q ho
    · exact evStore_agree q ho
  | nilCheck x => simp only [evOp] at h ⊢; rw [ht x (by simp [Op.operands])]; exact ⟨e, h, rfl, rfl⟩
  | binOp op t x y t' => simp only [evOp] at h ⊢; rw [ht x (by simp [Op.operands]), ht y (by simp [Op.operands])]; exact ⟨e, withTy_agree h (fun ti _ q => bin2_agree q ho), rfl, rfl⟩
  | unOp op t x => simp only [evOp] at h ⊢; rw [ht x (by simp [Op.operands])]; exact ⟨e, h, rfl, rfl⟩
  | convert s d x => simp only [evOp] at h ⊢; rw [ht x (by simp [Op.operands])]; exact ⟨e, h, rfl, rfl⟩
  | makeFunc f first caps =>
    cases f <;> first | exact h.elim | skip
    simp only [evOp] at h ⊢
    rw [evs_agree (fun x hx => ht x (by simp [Op.operands]; exact .inl (by simpa using hx))), evs_agree (fun x hx => ht x (by simp [Op.operands]; exact .inr (by simpa using hx)))]
    exact ⟨e, h, rfl, rfl⟩
  | makeSlice t x y => simp only [evOp] at h ⊢; rw [ht x (by simp [Op.operands]), ht y (by simp [Op.operands])]; exact ⟨e, h, rfl, rfl⟩
  | slice t x lo hi mx =>
    cases mx with
    | some m => exact h.elim
    | none =>
      simp only [evOp] at h ⊢
      have hl : lo.map S'.ev = lo.map S.ev := by cases lo with | none => rfl | some y => simp [ht y (by simp [Op.operands])]
      have hh : hi.map S'.ev = hi.map S.ev := by cases hi with | none => rfl | some y => simp [ht y (by simp [Op.operands])]
      rw [ht x (by simp [Op.operands]), hl, hh]
      exact ⟨e, withTy_agree h (fun ti _ q => evSlice2_agree q ho), rfl, rfl⟩
  | fieldAddr t x f => simp only [evOp] at h ⊢; rw [ht x (by simp [Op.operands])]; exact ⟨e, h, rfl, rfl⟩
  | field t x f => simp only [evOp] at h ⊢; rw [ht x (by simp [Op.operands])]; exact ⟨e, h, rfl, rfl⟩
  | indexAddr t x y =>
    simp only [evOp] at h ⊢
    rw [ht x (by simp [Op.operands]), ht y (by simp [Op.operands])]
    exact ⟨e, withTy_agree h (fun ti _ q => evIndexAddr_agree q ho), rfl, rfl⟩
  | index t x y => simp only [evOp] at h ⊢; rw [ht x (by simp [Op.operands]), ht y (by simp [Op.operands])]; exact ⟨e, h, rfl, rfl⟩
  | extract x i => simp only [evOp] at h ⊢; rw [ht x (by simp [Op.operands])]; exact ⟨e, h, rfl, rfl⟩
  | call c =>
    obtain ⟨callee, args, ats⟩ := c
    have hargs : args.toList.map S'.ev = args.toList.map S.ev := evs_agree (fun x hx => ht x (by simp [Op.operands, Call.operands]; exact .inr (by simpa using hx)))
    cases callee with
    | invoke r m => exact h.elim
    | value f =>
      simp only [evOp] at h ⊢
      rw [hargs, ht f (by simp [Op.operands, Call.operands])]
      exact ⟨e, evCall_agree h ho, rfl, rfl⟩
    | builtin b =>
      simp only [evOp] at h ⊢
      rw [hargs]
      refine ⟨e, ?_, rfl, rfl⟩
      unfold evBuiltin at h ⊢
      split at h
      · split at h
        · refine withTy_agree h (fun ti _ q => ?_)
          split at q
          · rename_i n rd hl
            cases q
            rw [lenAV_agree hl ho]
            rfl
          · cases q
        · cases h
      · exact h
      · split at h
        · split at h
          · exact evAppend_agree h ho
          · exact h
        · cases h
      · split at h
        · exact evClear_agree h ho
        · cases h
      · split at h
        · split at h
          · exact evCopy_agree h ho
          · cases h
        · cases h
      · exact h
      · exact h
      · cases h
  | _ => exact h.elim

section
variable {C : Ctx} {S : AS} {E : Env} {a : Act} {w : World} {G : Gl}
theorem op_ok (hG : GOK C G) (hd : DecOK S) (h : RepE C S E a w) {nid : Nat} (hn : ∀ j, j < 4 → S.obj (nid + j) = none) {o : Oper} {e : Eff} (he : (evOp G S nid o.op).sat (· = e)) : OpWP C S a w o e := by
  have hn0 : S.obj nid = none := by simpa using hn 0 (by omega)
  cases ho : o.op with
  | move x => rw [ho] at he; cases he; exact move_ok h (.inl ho)
  | assign x => rw [ho] at he; cases he; exact move_ok h (.inr ho)
  | pick c x y =>
    rw [ho] at he
    simp only [evOp] at he
    obtain ⟨b, dec, h1, h2, h3⟩ := withBool_sat hd he
    cases h1
    have hc := h.ev c
    rw [h2] at hc
    simp only [RepV] at hc
    cases b with
    | true => exact pick_ok h ho (b := true) hc
    | false => exact pick_ok h ho (b := false) hc
  | alloc t => rw [ho] at he; obtain ⟨ti, h1, h2⟩ := withTy_sat he; exact alloc_ok hG.ty h hn0 (hG.ty _ _ h1) ho h2
  | box t x =>
    rw [ho] at he
    obtain ⟨ti, h1, h2⟩ := withTy_sat he
    exact evBox_ok hG.m h hn0 ho h2
  | build t parts => rw [ho] at he; obtain ⟨ti, h1, h2⟩ := withTy_sat he; exact build_ok hG.ty h (hG.ty _ _ h1) ho h2
  | buildSlice t n parts => rw [ho] at he; obtain ⟨ti, h1, h2⟩ := withTy_sat he; exact buildSlice_ok hG.m hG.ty h hn0 (hG.ty _ _ h1) ho h2
  | load t x => rw [ho] at he; obtain ⟨ti, h1, h2⟩ := withTy_sat he; exact load_ok h (hG.ty _ _ h1) ho h2
  | store t x y =>
    rw [ho] at he
    obtain ⟨ti, h1, h2⟩ := withTy_sat he
    split at h2
    · rename_i hq
      exact storeArr_ok hG.m h (hG.ty _ _ h1) ho h2
    · exact store_ok hG.m h (hG.ty _ _ h1) ho h2
  | nilCheck x => rw [ho] at he; exact nilCheck_ok h ho G nid he
  | binOp op t x y t' => rw [ho] at he; obtain ⟨ti, h1, h2⟩ := withTy_sat he; exact bin2_ok h (hG.ty _ _ h1) ho h2
  | unOp op t x => rw [ho] at he; exact un_ok h ho he
  | convert s d x =>
    rw [ho] at he
    obtain ⟨ts, h1, h2⟩ := withTy_sat he
    obtain ⟨td, h3, h4⟩ := withTy_sat h2
    exact conv_ok h (hG.ty _ _ h1) (hG.ty _ _ h3) ho h4
  | makeFunc f first caps =>
    rw [ho] at he
    cases f <;> first | exact he.elim | skip
    cases he
    exact makeFunc_ok h ho
  | makeSlice t x y => rw [ho] at he; obtain ⟨ti, h1, h2⟩ := withTy_sat he; exact makeSlice_ok hG.ty h hn0 (hG.ty _ _ h1) ho h2
  | slice t x lo hi mx =>
    rw [ho] at he
    cases mx with
    | some m => exact he.elim
    | none => obtain ⟨ti, h1, h2⟩ := withTy_sat he; exact slice2_ok hG.ty h (hG.ty _ _ h1) hn0 ho h2
  | fieldAddr t x f => rw [ho] at he; obtain ⟨ti, h1, h2⟩ := withTy_sat he; exact fieldAddr_ok hG.ty h (hG.ty _ _ h1) ho h2
  | field t x f => rw [ho] at he; obtain ⟨ti, h1, h2⟩ := withTy_sat he; exact field_ok hG.ty h (hG.ty _ _ h1) ho h2
  | indexAddr t x y => rw [ho] at he; obtain ⟨ti, h1, h2⟩ := withTy_sat he; exact indexAddr_ok hG.gl hG.ty h (hG.ty _ _ h1) ho h2
  | index t x y => rw [ho] at he; obtain ⟨ti, h1, h2⟩ := withTy_sat he; exact index_ok hG.ty h (hG.ty _ _ h1) ho h2
  | extract x i => rw [ho] at he; exact extract_ok (G := G) h ho nid he
  | call c =>
    obtain ⟨callee, args, ats⟩ := c
    rw [ho] at he
    cases callee with
    | invoke r m => exact he.elim
    | value f => exact call_ok hG.calls hG.m h hn ho he
    | builtin b =>
      simp only [evOp] at he
      unfold evBuiltin at he
      split at he
      · rename_i v hargs
        obtain ⟨x, hx, hx2⟩ : ∃ x, args = #[x] ∧ S.ev x = v := by
          match args, hargs with
          | ⟨[x]⟩, hargs => exact ⟨x, rfl, by simpa using hargs⟩
        subst hx
        split at he
        · rename_i t hats
          have hats : ats = #[t] := Array.ext' (by simpa using hats)
          subst hats
          obtain ⟨ti, h1, h2⟩ := withTy_sat he
          split at h2
          · rename_i n rd hl
            cases h2
            rw [← hx2] at hl
            exact len_ok h (hG.ty _ _ h1) ho hl
          · cases h2
        · cases he
      · rename_i v hargs
        obtain ⟨x, hx, hx2⟩ : ∃ x, args = #[x] ∧ S.ev x = v := by
          match args, hargs with
          | ⟨[x]⟩, hargs => exact ⟨x, rfl, by simpa using hargs⟩
        subst hx
        split at he
        · rename_i t hats
          have hats : ats = #[t] := Array.ext' (by simpa using hats)
          subst hats
          obtain ⟨ti, h1, h2⟩ := withTy_sat he
          split at h2
          · rename_i _ hs
            cases h2
            have hv := h.ev x
            rw [hx2] at hv
            simp only [RepV] at hv
            obtain ⟨el, hd, _⟩ := isSl_under (hG.ty _ _ h1) hs
            refine OpWP.pure h (x := .int .i64 0) ?_ (by simp [RepV])
            simp [execOp, ho, resolve, invoke, builtin, hv, Builtin.cap_, run_underlying hd, goInt]
          · cases h2
        · cases he
      · rename_i s x hargs
        obtain ⟨x1, x2, hx, hx1, hx2⟩ : ∃ x1 x2, args = #[x1, x2] ∧ S.ev x1 = s ∧ S.ev x2 = x := by
          match args, hargs with
          | ⟨[x1, x2]⟩, hargs => exact ⟨x1, x2, rfl, by simpa using hargs⟩
        subst hx
        split at he
        · rename_i t t' hats
          split at he
          · rename_i hb
            have hb := Nat.eq_of_beq_eq_true hb
            subst hb
            have hats : ats = #[t, t] := Array.ext' (by simpa using hats)
            subst hats
            rw [← hx1, ← hx2] at he
            exact append_ok hG.ty h hn0 ho he
          · have hats : ats = #[t, t'] := Array.ext' (by simpa using hats)
            subst hats
            rw [← hx1, ← hx2] at he
            exact appendZ_ok hG.ty h hn0 ho he
        · cases he
      · rename_i v hargs
        obtain ⟨x, hx, hx2⟩ : ∃ x, args = #[x] ∧ S.ev x = v := by
          match args, hargs with
          | ⟨[x]⟩, hargs => exact ⟨x, rfl, by simpa using hargs⟩
        subst hx
        split at he
        · rename_i t hats
          have hats : ats = #[t] := Array.ext' (by simpa using hats)
          subst hats
          rw [← hx2] at he
          exact clear_ok hG.ty h ho he
        · cases he
      · rename_i s x hargs
        obtain ⟨x1, x2, hx, hx1, hx2⟩ : ∃ x1 x2, args = #[x1, x2] ∧ S.ev x1 = s ∧ S.ev x2 = x := by
          match args, hargs with
          | ⟨[x1, x2]⟩, hargs => exact ⟨x1, x2, rfl, by simpa using hargs⟩
        subst hx
        split at he
        · rename_i t t' hats
          split at he
          · rename_i hb
            have hb := Nat.eq_of_beq_eq_true hb
            subst hb
            have hats : ats = #[t, t] := Array.ext' (by simpa using hats)
            subst hats
            rw [← hx1, ← hx2] at he
            exact copy_ok hG.ty h ho he
          · cases he
        · cases he
      · split at he
        · rename_i v hv
          cases he
          exact minmax_ok (mx := false) h ho hv
        · cases he
      · split at he
        · rename_i v hv
          cases he
          exact minmax_ok (mx := true) h ho hv
        · cases he
      · cases he
  | _ => rw [ho] at he; exact he.elim
end
end Go.Rx

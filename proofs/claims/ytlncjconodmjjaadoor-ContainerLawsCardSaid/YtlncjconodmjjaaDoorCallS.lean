/- Rx, part 13: what a function is said to do, and a call of it. -/
import Derived.Test.YtlncjconodmjjaaDoorOps7
namespace Go.Rx
set_option linter.unusedVariables false
set_option linter.unusedSimpArgs false

def stateOf (H : List (Nat × Obj)) : AS := ⟨[], H, 0, []⟩
structure FPre (gl : Nat → Option Tab) (w : World) (A0 O0 : Nat → Prop) (E0 : Env) (args : List AV) (H : List Obj) (vs : List Value) : Prop where
  a0 : ∀ b, A0 b → b < w.heap.size ∧ ¬ O0 b
  gl : ∀ g e xs, gl g = some ⟨e, xs⟩ → A0 g ∧ ∃ cells, RowsL (fun x c => PC A0 w e x c) xs cells ∧ At w ⟨g, 0, none⟩ cells
  objs : ∀ id o, (stateOf (zipI 0 H)).obj id = some o → RepO (Dom (stateOf (zipI 0 H))) E0 A0 w id o
  own : ∀ id o, (stateOf (zipI 0 H)).obj id = some o → Owns E0 id o → E0.β id < w.heap.size ∧ O0 (E0.β id)
  inj : ∀ i j o o', (stateOf (zipI 0 H)).obj i = some o → Owns E0 i o → (stateOf (zipI 0 H)).obj j = some o' → Owns E0 j o' → E0.β i = E0.β j → i = j
  args : RepL (Dom (stateOf (zipI 0 H))) E0 A0 w args vs
  en : ∀ (j : Nat) (en : Bool) (e : Sh) (et : TypeId) (xs : List e.T), H[j]? = some (.grow en e et xs) → en = true
def FCtx (P : Program) (gl : Nat → Option Tab) (w : World) (A0 O0 : Nat → Prop) (E0 : Env) (m N : Nat) : Ctx := ⟨P, w, A0, O0, m, E0, N, gl⟩
def FPost (C : Ctx) (res : AV) (H' : List (Nat × Obj)) (e : Ending) (w' : World) : Prop :=
  ∃ v E', e = .returned v ∧ RepH C (stateOf H') E' w' ∧ RepV (Dom (stateOf H')) E' (Al C (stateOf H') E' w') w' res v
def FSpec (P : Program) (gl : Nat → Option Tab) (f : FuncId) (args : List AV) (H : List Obj) (res : AV) (H' : List (Nat × Obj)) : Prop :=
  (∃ fn c, P.funcs[f]? = some fn ∧ fn.body = some c ∧ (fn.name == "runtime.NumGoroutine") = false) ∧
  ∀ w A0 O0 E0 vs, FPre gl w A0 O0 E0 args H vs → Calls P f vs.toArray w (FPost (FCtx P gl w A0 O0 E0 H.length 0) res H')

/-! ### Renaming -/
structure Map (D : Nat → Prop) (E : Env) (D' : Nat → Prop) (E' : Env) (f : Nat → Nat) (ids : List Nat) : Prop where
  ok : ∀ id, id ∈ ids → D id → D' (f id) ∧ E'.β (f id) = E.β id ∧ E'.σ (f id) = E.σ id ∧ E'.ln (f id) = E.ln id
mutual
theorem Map.repV {D D' : Nat → Prop} {E E' : Env} {f : Nat → Nat} {ids : List Nat} (h : Map D E D' E' f ids) {A : Nat → Prop} {w : World} : ∀ {v : AV} {x : Value}, (∀ i, i ∈ refs v → i ∈ ids) → RepV D E A w v x → RepV D' E' A w (ren f v) x
  | .unk, _, _, _ => by simp [ren, RepV]
  | .undef, _, _, q => by simpa [ren, RepV] using q
  | .anyB, _, _, q => by simpa [ren, RepV] using q
  | .zb _, _, _, q => by simpa [ren, RepV] using q
  | .int _ _, _, _, q => by simpa [ren, RepV] using q
  | .bool _, _, _, q => by simpa [ren, RepV] using q
  | .str _, _, _, q => by simpa [ren, RepV] using q
  | .nilsl, _, _, q => by simpa [ren, RepV] using q
  | .nilptr, _, _, q => by simpa [ren, RepV] using q
  | .glob _, _, _, q => by simpa [ren, RepV] using q
  | .psl _ _, _, _, q => by simp only [ren, RepV] at q ⊢; exact q
  | .ppt _ _, _, _, q => by simp only [ren, RepV] at q ⊢; exact q
  | .own id, _, r, q => by
    simp only [ren, RepV] at q ⊢
    obtain ⟨h1, _, h3, _⟩ := h.ok id (r id (by simp [refs])) q.1
    exact ⟨h1, by rw [h3]; exact q.2⟩
  | .optr id _, _, r, q => by
    simp only [ren, RepV] at q ⊢
    obtain ⟨h1, h2, _, _⟩ := h.ok id (r id (by simp [refs])) q.1
    exact ⟨h1, by rw [h2]; exact q.2⟩
  | .oel id _ _ _, _, r, q => by
    simp only [ren, RepV] at q ⊢
    obtain ⟨h1, h2, _, h4⟩ := h.ok id (r id (by simp [refs])) q.1
    exact ⟨h1, by rw [h4]; exact q.2.1, by rw [h2]; exact q.2.2⟩
  | .otl id _ _, _, r, q => by
    simp only [ren, RepV] at q ⊢
    obtain ⟨h1, h2, _, h4⟩ := h.ok id (r id (by simp [refs])) q.1
    exact ⟨h1, by rw [h4, h2]; exact q.2⟩
  | .pel _ _ _ _, _, _, q => by simp only [ren, RepV] at q ⊢; exact q
  | .pfl _ _ _, _, _, q => by simp only [ren, RepV] at q ⊢; exact q
  | .fn _ a b, _, r, q => by
    simp only [ren, RepV] at q ⊢
    obtain ⟨fs, cs, h1, h2, h3⟩ := q
    exact ⟨fs, cs, h1, h.repL (fun i hi => r i (by simp [refs, hi])) h2, h.repL (fun i hi => r i (by simp [refs, hi])) h3⟩
  | .agg l, _, r, q => by
    simp only [ren, RepV] at q ⊢
    obtain ⟨vs, h1, h2⟩ := q
    exact ⟨vs, h1, h.repL (fun i hi => r i (by simp [refs, hi])) h2⟩
  | .tup l, _, r, q => by
    simp only [ren, RepV] at q ⊢
    obtain ⟨vs, h1, h2⟩ := q
    exact ⟨vs, h1, h.repL (fun i hi => r i (by simp [refs, hi])) h2⟩
theorem Map.repL {D D' : Nat → Prop} {E E' : Env} {f : Nat → Nat} {ids : List Nat} (h : Map D E D' E' f ids) {A : Nat → Prop} {w : World} : ∀ {l : List AV} {vs : List Value}, (∀ i, i ∈ refsL l → i ∈ ids) → RepL D E A w l vs → RepL D' E' A w (renL f l) vs
  | [], _, _, q => by simpa [renL, RepL] using q
  | v :: l, _, r, q => by
    simp only [renL, RepL] at q ⊢
    obtain ⟨x, t, h1, h2, h3⟩ := q
    exact ⟨x, t, h1, h.repV (fun i hi => r i (by simp [refsL, hi])) h2, h.repL (fun i hi => r i (by simp [refsL, hi])) h3⟩
end
mutual
/-- What a value mentions is there. -/
theorem refs_dom {D : Nat → Prop} {E : Env} {A : Nat → Prop} {w : World} : ∀ {v : AV} {x : Value}, RepV D E A w v x → ∀ i, i ∈ refs v → D i
  | .own id, _, q, i, hi => by simp only [RepV] at q; simp [refs] at hi; rw [hi]; exact q.1
  | .optr id _, _, q, i, hi => by simp only [RepV] at q; simp [refs] at hi; rw [hi]; exact q.1
  | .oel id _ _ _, _, q, i, hi => by simp only [RepV] at q; simp [refs] at hi; rw [hi]; exact q.1
  | .otl id _ _, _, q, i, hi => by simp only [RepV] at q; simp [refs] at hi; rw [hi]; exact q.1
  | .fn _ a b, _, q, i, hi => by
    simp only [RepV] at q
    obtain ⟨fs, cs, h1, h2, h3⟩ := q
    simp only [refs, List.mem_append] at hi
    rcases hi with hi | hi
    · exact refsL_dom h2 i hi
    · exact refsL_dom h3 i hi
  | .agg l, _, q, i, hi => by
    simp only [RepV] at q
    obtain ⟨vs, h1, h2⟩ := q
    simp only [refs] at hi
    exact refsL_dom h2 i hi
  | .tup l, _, q, i, hi => by
    simp only [RepV] at q
    obtain ⟨vs, h1, h2⟩ := q
    simp only [refs] at hi
    exact refsL_dom h2 i hi
  | .unk, _, _, i, hi => by simp [refs] at hi
  | .undef, _, _, i, hi => by simp [refs] at hi
  | .anyB, _, _, i, hi => by simp [refs] at hi
  | .zb _, _, _, i, hi => by simp [refs] at hi
  | .int _ _, _, _, i, hi => by simp [refs] at hi
  | .bool _, _, _, i, hi => by simp [refs] at hi
  | .str _, _, _, i, hi => by simp [refs] at hi
  | .nilsl, _, _, i, hi => by simp [refs] at hi
  | .nilptr, _, _, i, hi => by simp [refs] at hi
  | .glob _, _, _, i, hi => by simp [refs] at hi
  | .psl _ _, _, _, i, hi => by simp [refs] at hi
  | .ppt _ _, _, _, i, hi => by simp [refs] at hi
  | .pel _ _ _ _, _, _, i, hi => by simp [refs] at hi
  | .pfl _ _ _, _, _, i, hi => by simp [refs] at hi
theorem refsL_dom {D : Nat → Prop} {E : Env} {A : Nat → Prop} {w : World} : ∀ {l : List AV} {vs : List Value}, RepL D E A w l vs → ∀ i, i ∈ refsL l → D i
  | [], _, _, i, hi => by simp [refsL] at hi
  | v :: l, _, q, i, hi => by
    simp only [RepL] at q
    obtain ⟨x, t, h1, h2, h3⟩ := q
    simp only [refsL, List.mem_append] at hi
    rcases hi with hi | hi
    · exact refs_dom h2 i hi
    · exact refsL_dom h3 i hi
end
theorem look_zip {α : Type} : ∀ (l : List α) (k n : Nat), look (zipI k l) n = if k ≤ n then l[n - k]? else none
  | [], k, n => by simp [zipI, look]
  | a :: l, k, n => by
    simp only [zipI, look_cons, look_zip l (k + 1) n]
    by_cases h1 : n = k
    · subst h1; simp
    · by_cases h2 : k ≤ n
      · rw [if_neg h1, if_pos (by omega), if_pos h2]
        rw [show n - k = (n - (k + 1)) + 1 by omega]
        simp
      · rw [if_neg h1, if_neg (by omega), if_neg h2]
theorem obj_zip (H : List Obj) (id : Nat) : (stateOf (zipI 0 H)).obj id = H[id]? := by
  show look (zipI 0 H) id = _
  rw [look_zip]
  simp
theorem nodupN_iff : ∀ {l : List Nat}, nodupN l = true → l.Nodup
  | [], _ => List.nodup_nil
  | a :: l, h => by
    unfold nodupN at h
    split at h
    · cases h
    · rename_i hh
      refine List.nodup_cons.2 ⟨fun q => ?_, nodupN_iff h⟩
      rw [hasId_iff.2 q] at hh
      cases hh
theorem subIds_iff : ∀ {l ids : List Nat}, subIds l ids = true → ∀ i, i ∈ l → i ∈ ids
  | [], _, _, i, hi => by cases hi
  | a :: l, ids, h, i, hi => by
    unfold subIds at h
    split at h
    · rename_i hh
      rcases List.mem_cons.1 hi with rfl | hi
      · exact hasId_iff.1 hh
      · exact subIds_iff h i hi
    · cases h
theorem disj_iff : ∀ {l ids : List Nat}, disj l ids = true → ∀ i, i ∈ l → i ∉ ids
  | [], _, _, i, hi => by cases hi
  | a :: l, ids, h, i, hi => by
    unfold disj at h
    split at h
    · cases h
    · rename_i hh
      rcases List.mem_cons.1 hi with rfl | hi
      · intro q
        rw [hasId_iff.2 q] at hh
        cases hh
      · exact disj_iff h i hi
theorem objsOf_get {S : AS} : ∀ {ids : List Nat} {os : List Obj}, objsOf S ids = some os → os.length = ids.length ∧ ∀ (j id : Nat), ids[j]? = some id → ∃ o, os[j]? = some o ∧ S.obj id = some o
  | [], _, h => by cases h; exact ⟨rfl, fun j id hj => by simp at hj⟩
  | a :: r, os, h => by
    unfold objsOf at h
    split at h
    · rename_i o l ho hl
      cases h
      obtain ⟨q1, q2⟩ := objsOf_get hl
      refine ⟨by simp [q1], fun j id hj => ?_⟩
      cases j with
      | zero => simp at hj; subst hj; exact ⟨o, rfl, ho⟩
      | succ j => simp at hj; simpa using q2 j id hj
    · cases h
theorem objsIn_get {ids : List Nat} : ∀ {os : List Obj}, objsIn ids os = true → ∀ o, o ∈ os → ∀ i, i ∈ o.refs → i ∈ ids
  | [], _, o, ho => by cases ho
  | a :: r, h, o, ho => by
    unfold objsIn at h
    split at h
    · rename_i hh
      rcases List.mem_cons.1 ho with rfl | ho
      · exact subIds_iff hh
      · exact objsIn_get h o ho
    · cases h
theorem sendObjs_get (f : Nat → Nat) : ∀ (os : List Obj) (j : Nat), (sendObjs f os)[j]? = (os[j]?).map (Obj.send f)
  | [], j => by simp [sendObjs]
  | o :: r, 0 => by simp [sendObjs]
  | o :: r, j + 1 => by simpa [sendObjs] using sendObjs_get f r j
theorem sendObjs_length (f : Nat → Nat) : ∀ (os : List Obj), (sendObjs f os).length = os.length
  | [] => rfl
  | o :: r => by simp [sendObjs, sendObjs_length f r]

section
variable {C : Ctx} {S : AS} {E : Env} {a : Act} {w : World} {G : Gl}
theorem up_ext {A A' : Nat → Prop} (hA : ∀ b, A b → A' b) {D : Nat → Prop} : Ext D E A w D E A' w := ⟨fun id hd => ⟨hd, rfl, rfl, rfl⟩, fun b hb => ⟨hA b hb, fun _ _ q => q⟩⟩
/-- A list handed over for good. -/
theorem own_pc (h : RepE C S E a w) {A' : Nat → Prop} (hA : ∀ b, Al C S E w b → A' b) {id : Nat} {e : Sh} {xs : List e.T} (ho : (∃ et, S.obj id = some (.grow false e et xs)) ∨ S.obj id = some (.froz e xs))
    (hv : ∀ o, S.obj id = some o → Owns E id o → (∀ e xs, o ≠ .arr e xs) → A' (E.β id)) : PC A' w (.sl e) xs [E.σ id] := by
  have hd : ∃ d, dataC C.m S.obj (.sl e) [.own id] = some d ∧ d.x = xs ∧ d.vis = [id] ∧ d.rest = [] := by
    rcases ho with ⟨et, ho⟩ | ho
    · refine ⟨⟨xs, [], [id]⟩, ?_, rfl, rfl, rfl⟩
      simp only [dataC, ho]
      cases hq : decEq e e with
      | isTrue q => rfl
      | isFalse q => exact absurd rfl q
    · refine ⟨⟨xs, [], [id]⟩, ?_, rfl, rfl, rfl⟩
      simp only [dataC, ho]
      cases hq : decEq e e with
      | isTrue q => rfl
      | isFalse q => exact absurd rfl q
  obtain ⟨d, hd, hx, hvis, hrest⟩ := hd
  have hdom : Dom S id := by unfold Dom; rcases ho with ⟨et, ho⟩ | ho <;> rw [ho] <;> simp
  obtain ⟨c, r, e1, h2, h3⟩ := data_sound h.h.objs hA (.sl e) [.own id] [E.σ id] d hd (by simp only [RepL, RepV]; exact ⟨_, [], rfl, ⟨hdom, rfl⟩, rfl⟩) (fun i o hi => by rw [hvis] at hi; simp at hi; subst hi; exact hv o)
  rw [hrest] at h2
  simp only [RepL] at h2
  subst h2
  rw [List.append_nil] at e1
  subst e1
  rw [hx] at h3
  exact h3
theorem handCells_sound (h : RepE C S E a w) {A' : Nat → Prop} (hA : ∀ b, Al C S E w b → A' b) : ∀ {l as : List AV} {vis : List Nat} {vs : List Value}, handOver.handCells S l = some (as, vis) → RepL (Dom S) E (Al C S E w) w l vs →
    (∀ id o, id ∈ vis → S.obj id = some o → Owns E id o → (∀ e xs, o ≠ .arr e xs) → A' (E.β id)) → RepL (Dom S) E A' w as vs ∧ ∀ id o, id ∈ vis → S.obj id = some o → Free C id o
  | [], as, vis, vs, hh, hl, hv => by
    cases hh
    simp only [RepL] at hl ⊢
    exact ⟨hl, fun id o hi => by cases hi⟩
  | v :: l, as, vis, vs, hh, hl, hv => by
    simp only [RepL] at hl
    obtain ⟨x, t, rfl, h1, h2⟩ := hl
    have gen : (match handOver.handCells S l with | some (l, vis) => some (v :: l, vis) | none => none) = some (as, vis) → RepL (Dom S) E A' w as (x :: t) ∧ ∀ id o, id ∈ vis → S.obj id = some o → Free C id o := by
      intro q
      split at q
      · rename_i l' vis' hl'
        cases q
        obtain ⟨r1, r2⟩ := handCells_sound h hA hl' h2 hv
        exact ⟨by simp only [RepL]; exact ⟨x, t, rfl, (up_ext hA).repV h1, r1⟩, r2⟩
      · cases q
    cases v <;> first | exact gen hh | skip
    rename_i id
    simp only [handOver.handCells] at hh
    split at hh
    · rename_i l' vis' hl'
      simp only [RepV] at h1
      obtain ⟨_, rfl⟩ := h1
      split at hh
      · rename_i e et xs ho
        cases hh
        obtain ⟨r1, r2⟩ := handCells_sound h hA hl' h2 (fun i o hi => hv i o (by simp [hi]))
        refine ⟨?_, ?_⟩
        · simp only [RepL, RepV]
          exact ⟨_, t, rfl, own_pc h hA (.inl ⟨_, ho⟩) (fun o => hv id o (by simp)), r1⟩
        · intro i o hi hio
          rcases List.mem_cons.1 hi with rfl | hi
          · rw [ho] at hio; cases hio; rfl
          · exact r2 i o hi hio
      · rename_i e xs ho
        cases hh
        obtain ⟨r1, r2⟩ := handCells_sound h hA hl' h2 (fun i o hi => hv i o (by simp [hi]))
        refine ⟨?_, ?_⟩
        · simp only [RepL, RepV]
          exact ⟨_, t, rfl, own_pc h hA (.inr ho) (fun o => hv id o (by simp)), r1⟩
        · intro i o hi hio
          rcases List.mem_cons.1 hi with rfl | hi
          · rw [ho] at hio; cases hio; trivial
          · exact r2 i o hi hio
      · cases hh
    · cases hh
theorem hand_sound (h : RepE C S E a w) {A' : Nat → Prop} (hA : ∀ b, Al C S E w b → A' b) : ∀ {m : List Bool} {l as : List AV} {vis : List Nat} {vs : List Value}, handOver S m l = some (as, vis) → RepL (Dom S) E (Al C S E w) w l vs →
    (∀ id o, id ∈ vis → S.obj id = some o → Owns E id o → (∀ e xs, o ≠ .arr e xs) → A' (E.β id)) → RepL (Dom S) E A' w as vs ∧ ∀ id o, id ∈ vis → S.obj id = some o → Free C id o
  | [], l, as, vis, vs, hh, hl, hv => by
    have e : handOver S [] l = some (l, []) := by cases l <;> rfl
    rw [e] at hh
    cases hh
    exact ⟨(up_ext hA).repL hl, fun id o hi => by cases hi⟩
  | b :: m, [], as, vis, vs, hh, hl, hv => by
    have e : handOver S (b :: m) [] = some ([], []) := by cases b <;> rfl
    rw [e] at hh
    cases hh
    exact ⟨(up_ext hA).repL hl, fun id o hi => by cases hi⟩
  | b :: m, v :: l, as, vis, vs, hh, hl, hv => by
    simp only [RepL] at hl
    obtain ⟨x, t, rfl, h1, h2⟩ := hl
    have gen : (match handOver S m l with | some (l, vis) => some (v :: l, vis) | none => none) = some (as, vis) → RepL (Dom S) E A' w as (x :: t) ∧ ∀ id o, id ∈ vis → S.obj id = some o → Free C id o := by
      intro q
      split at q
      · rename_i l' vis' hl'
        cases q
        obtain ⟨r1, r2⟩ := hand_sound h hA hl' h2 hv
        exact ⟨by simp only [RepL]; exact ⟨x, t, rfl, (up_ext hA).repV h1, r1⟩, r2⟩
      · cases q
    cases b with
    | false => exact gen (by cases v <;> exact hh)
    | true =>
      cases v <;> first | exact gen hh | skip
      · rename_i id
        simp only [handOver] at hh
        split at hh
        · rename_i l' vis' hl'
          simp only [RepV] at h1
          obtain ⟨_, rfl⟩ := h1
          split at hh
          · rename_i e et xs ho
            cases hh
            obtain ⟨r1, r2⟩ := hand_sound h hA hl' h2 (fun i o hi => hv i o (by simp [hi]))
            refine ⟨?_, ?_⟩
            · simp only [RepL, RepV]
              exact ⟨_, t, rfl, own_pc h hA (.inl ⟨_, ho⟩) (fun o => hv id o (by simp)), r1⟩
            · intro i o hi hio
              rcases List.mem_cons.1 hi with rfl | hi
              · rw [ho] at hio; cases hio; rfl
              · exact r2 i o hi hio
          · rename_i e xs ho
            cases hh
            obtain ⟨r1, r2⟩ := hand_sound h hA hl' h2 (fun i o hi => hv i o (by simp [hi]))
            refine ⟨?_, ?_⟩
            · simp only [RepL, RepV]
              exact ⟨_, t, rfl, own_pc h hA (.inr ho) (fun o => hv id o (by simp)), r1⟩
            · intro i o hi hio
              rcases List.mem_cons.1 hi with rfl | hi
              · rw [ho] at hio; cases hio; trivial
              · exact r2 i o hi hio
          · cases hh
        · cases hh
      · rename_i cs
        simp only [handOver] at hh
        split at hh
        · rename_i c v1 l' v2 hc hl'
          cases hh
          simp only [RepV] at h1
          obtain ⟨ws, rfl, h3⟩ := h1
          obtain ⟨r1, r2⟩ := handCells_sound h hA hc h3 (fun i o hi => hv i o (by simp [hi]))
          obtain ⟨r3, r4⟩ := hand_sound h hA hl' h2 (fun i o hi => hv i o (by simp [hi]))
          refine ⟨?_, ?_⟩
          · simp only [RepL, RepV]
            exact ⟨_, t, rfl, ⟨ws, rfl, r1⟩, r3⟩
          · intro i o hi hio
            rcases List.mem_append.1 hi with hi | hi
            · exact r2 i o hi hio
            · exact r4 i o hi hio
        · cases hh
end
end Go.Rx

/- Rx, part 23: a table of types, checked by one computation. -/
import Derived.Test.YtlncjconodmjjaaDoorFun
namespace Go.Rx
set_option linter.unusedVariables false
set_option linter.unusedSimpArgs false
def beqK : IntKind → IntKind → Bool := fun a b => match decEq a b with | isTrue _ => true | isFalse _ => false
theorem beqK_eq {a b : IntKind} (h : beqK a b = true) : a = b := by unfold beqK at h; split at h; exact (by assumption); cases h
def beqFs : List (Nat × TypeId) → List (Nat × TypeId) → Bool
  | [], [] => true
  | a :: r, b :: r' => match Nat.beq a.1 b.1, Nat.beq a.2 b.2 with | true, true => beqFs r r' | _, _ => false
  | _, _ => false
theorem beqFs_eq : ∀ {l r : List (Nat × TypeId)}, beqFs l r = true → l = r
  | [], [], _ => rfl
  | [], _ :: _, h => by cases h
  | _ :: _, [], h => by cases h
  | (a, b) :: r, (a', b') :: r', h => by
    simp only [beqFs] at h
    split at h
    · rename_i h1 h2
      have h1 : a = a' := by simpa using h1
      have h2 : b = b' := by simpa using h2
      rw [h1, h2, beqFs_eq h]
    · cases h
def beqTD : TD → TD → Bool
  | .int k, .int k' => beqK k k'
  | .bool, .bool => true
  | .str, .str => true
  | .sl e, .sl e' => Nat.beq e e'
  | .ptr e, .ptr e' => Nat.beq e e'
  | .st l, .st l' => beqFs l l'
  | .arr n e, .arr n' e' => Nat.beq n n' && Nat.beq e e'
  | .fn, .fn => true
  | .other, .other => true
  | _, _ => false
theorem beqTD_eq {a b : TD} (h : beqTD a b = true) : a = b := by
  cases a <;> cases b <;> simp [beqTD] at h <;> first
    | rfl
    | rw [beqK_eq h]
    | rw [beqFs_eq h]
    | (rw [h]; done)
    | (rw [h.1, h.2]; done)
/-- A shape's zero, taken off a list of cells. -/
def zeroB : Sh → List Value → Option (List Value)
  | .int k, .int k' n :: r => match beqK k k', decEq n 0 with | true, isTrue _ => some r | _, _ => none
  | .bool, .bool false :: r => some r
  | .str, .string ⟨⟨[]⟩⟩ :: r => some r
  | .unit, l => some l
  | .pair a b, l => match zeroB a l with | some r => zeroB b r | none => none
  | .st a, l => zeroB a l
  | .sl _, .slice none 0 0 :: r => some r
  | .ptr _, .pointer none :: r => some r
  | _, _ => none
theorem zeroB_ok : ∀ {s : Sh} {l r : List Value}, zeroB s l = some r → ∃ c, l = c ++ r ∧ ∀ A w, PC A w s s.dflt c := by
  intro s
  induction s with
  | int k =>
    intro l r h
    unfold zeroB at h
    split at h <;> first | (cases h; done) | skip
    all_goals (rename_i heq; try (cases heq))
    split at h
    · rename_i hn hk _
      cases h
      have hk := beqK_eq hk
      subst hk
      subst hn
      exact ⟨[_], rfl, fun A w => rfl⟩
    · cases h
  | bool =>
    intro l r h
    unfold zeroB at h
    split at h <;> first | (cases h; done) | skip
    all_goals (rename_i heq; try (cases heq))
    cases h
    exact ⟨[_], rfl, fun A w => rfl⟩
  | str =>
    intro l r h
    unfold zeroB at h
    split at h <;> first | (cases h; done) | skip
    all_goals (rename_i heq; try (cases heq))
    cases h
    exact ⟨[_], rfl, fun A w => rfl⟩
  | unit =>
    intro l r h
    have : zeroB .unit l = some l := by cases l <;> rfl
    rw [this] at h
    cases h
    exact ⟨[], rfl, fun A w => rfl⟩
  | pair a b iha ihb =>
    intro l r h
    have : zeroB (.pair a b) l = match zeroB a l with | some r => zeroB b r | none => none := by cases l <;> rfl
    rw [this] at h
    split at h
    · rename_i r1 h1
      obtain ⟨c1, rfl, p1⟩ := iha h1
      obtain ⟨c2, rfl, p2⟩ := ihb h
      exact ⟨c1 ++ c2, by simp, fun A w => ⟨c1, c2, rfl, p1 A w, p2 A w⟩⟩
    · cases h
  | st a ih =>
    intro l r h
    have : zeroB (.st a) l = zeroB a l := by cases l <;> rfl
    rw [this] at h
    exact ih h
  | sl e _ =>
    intro l r h
    unfold zeroB at h
    split at h <;> first | (cases h; done) | skip
    all_goals (rename_i heq; try (cases heq))
    cases h
    exact ⟨[_], rfl, fun A w => ⟨none, 0, rfl, Nat.le_refl _, fun q => absurd rfl q⟩⟩
  | ptr e _ =>
    intro l r h
    unfold zeroB at h
    split at h <;> first | (cases h; done) | skip
    all_goals (rename_i heq; try (cases heq))
    cases h
    exact ⟨[_], rfl, fun A w => rfl⟩
def zeroRowsB (e : Sh) : Nat → List Value → Option (List Value)
  | 0, l => some l
  | n + 1, l => match zeroB e l with | some r => zeroRowsB e n r | none => none
theorem zeroRowsB_ok {e : Sh} : ∀ {n : Nat} {l r : List Value}, zeroRowsB e n l = some r → ∃ c, l = c ++ r ∧ ∀ A w, RowsL (fun x c => PC A w e x c) (List.replicate n e.dflt) c
  | 0, l, r, h => by cases h; exact ⟨[], rfl, fun A w => rfl⟩
  | n + 1, l, r, h => by
    simp only [zeroRowsB] at h
    split at h
    · rename_i r1 h1
      obtain ⟨c1, rfl, p1⟩ := zeroB_ok h1
      obtain ⟨c2, rfl, p2⟩ := zeroRowsB_ok h
      exact ⟨c1 ++ c2, by simp, fun A w => ⟨c1, c2, rfl, p1 A w, p2 A w⟩⟩
    · cases h
def isFn : TD → Bool
  | .fn => true
  | _ => false
def zB (ty : TypeId → Option TI) (ti : TI) (zs : List Value) : Bool :=
  match ti.nds with
  | true => Nat.blt 0 ti.size
  | false => match ti.td with
  | .fn => true
  | .other => true
  | .arr n e => match ty e with
    | none => true
    | some te => Nat.beq (n * te.size) ti.size && (isFn te.td || (match zeroRowsB te.sh n zs with | some [] => true | _ => false))
  | _ => match zeroB ti.sh zs with | some [] => true | _ => false
theorem zB_ok {ty : TypeId → Option TI} {ti : TI} {zs : List Value} (h : zB ty ti zs = true) : ZeroOK ty ti zs := by
  unfold zB at h
  unfold ZeroOK
  cases hnd : ti.nds with
  | true => rw [hnd] at h; exact Nat.le_of_ble_eq_true h
  | false =>
  rw [hnd] at h
  simp only at h ⊢
  have flat : (match zeroB ti.sh zs with | some [] => true | _ => false) = true → ∀ A w, PC A w ti.sh ti.sh.dflt zs := by
    intro q A w
    split at q
    · rename_i hz
      obtain ⟨c, e1, p⟩ := zeroB_ok hz
      rw [List.append_nil] at e1
      subst e1
      exact p A w
    · cases q
  split
  · trivial
  · trivial
  · rename_i n e htd
    simp only [htd] at h
    intro te hte
    simp only [hte, Bool.and_eq_true, Bool.or_eq_true] at h
    refine ⟨by simpa using h.1, fun hfn A w => ?_⟩
    rcases h.2 with q | q
    · exfalso
      apply hfn
      unfold isFn at q
      split at q
      · assumption
      · cases q
    · split at q
      · rename_i hz
        obtain ⟨c, e1, p⟩ := zeroRowsB_ok hz
        rw [List.append_nil] at e1
        subst e1
        exact p A w
      · cases q
  · rename_i h1 h2 h3
    refine flat ?_
    split at h
    · rename_i q; exact absurd q h1
    · rename_i q; exact absurd q h2
    · rename_i n e q; exact absurd q (h3 n e)
    · exact h
def tiB (P : Program) (ty : TypeId → Option TI) (t : TypeId) (ti : TI) : Bool :=
  match P.underlying t, P.info? t with
  | some d, some i => beqTD (tdOf d) ti.td && Nat.beq i.size ti.size && Nat.beq i.bytes ti.bytes && (match i.zero with | some z => Nat.beq z.cells.size ti.size && zB ty ti z.cells.toList | none => false)
  | _, _ => false
theorem tiB_ok {P : Program} {ty : TypeId → Option TI} {t : TypeId} {ti : TI} (h : tiB P ty t ti = true)
    (heq : ti.eqs = true → P.eqGuardType P.depth t = false ∧ ∀ w (l r : List Value) c, EqInts l r c → l.length = ti.size → (Op.equal t (.agg l.toArray) (.agg r.toArray)).run P w = .ok c w) : TIOK P ty t ti := by
  unfold tiB at h
  split at h
  · rename_i d i hd hi
    simp only [Bool.and_eq_true] at h
    obtain ⟨⟨⟨h1, h2⟩, h3⟩, h4⟩ := h
    refine ⟨by rw [hd, ← beqTD_eq h1]; rfl, by rw [hi]; simp only [Option.map_some]; rw [show i.size = ti.size by simpa using h2, show i.bytes = ti.bytes by simpa using h3], ?_, heq⟩
    intro i' hi'
    rw [hi] at hi'
    cases hi'
    split at h4
    · rename_i z hz
      simp only [Bool.and_eq_true] at h4
      exact ⟨z, hz, by simpa using h4.1, zB_ok h4.2⟩
    · cases h4
  · cases h
/-- All rows of a table. -/
def tabB (P : Program) (ty : TypeId → Option TI) : List (TypeId × TI) → Bool
  | [] => true
  | p :: r => match tiB P ty p.1 p.2 with | true => tabB P ty r | false => false
theorem tabB_ok {P : Program} {ty : TypeId → Option TI} : ∀ {l : List (TypeId × TI)}, tabB P ty l = true → ∀ t ti, look l t = some ti → tiB P ty t ti = true
  | [], _, t, ti, h => by cases h
  | (k, v) :: r, hb, t, ti, h => by
    simp only [tabB] at hb
    split at hb
    · rename_i q
      rw [look_cons] at h
      split at h
      · rename_i e; cases h; rw [e]; exact q
      · exact tabB_ok hb t ti h
    · cases hb
theorem all_nil {α : Type} {Q : α → Prop} : ∀ p, p ∈ ([] : List α) → Q p := fun p h => by cases h
theorem all_cons {α : Type} {Q : α → Prop} {a : α} {l : List α} (h : Q a) (h' : ∀ p, p ∈ l → Q p) : ∀ p, p ∈ a :: l → Q p := fun p hp => by
  rcases List.mem_cons.1 hp with rfl | hp
  · exact h
  · exact h' p hp
theorem lt_all0 {Q : Nat → Prop} : ∀ i, i < 0 → Q i := fun i h => absurd h (Nat.not_lt_zero i)
theorem lt_allS {Q : Nat → Prop} {n : Nat} (h : ∀ i, i < n → Q i) (h' : Q n) : ∀ i, i < n + 1 → Q i := fun i hi => by
  rcases Nat.lt_or_ge i n with q | q
  · exact h i q
  · have : i = n := by omega
    rw [this]; exact h'
theorem loops_all {c : Code} {n : Nat} {Q : Code → Prop} (h : Nat.beq (loops c).length n = true) (hq : ∀ i, i < n → Q ((loops c).getD i .skip)) : ∀ b, b ∈ loops c → Q b := by
  intro b hb
  obtain ⟨i, hi⟩ := List.getElem?_of_mem hb
  have hn : (loops c).length = n := by simpa using h
  have := hq i (by rw [← hn]; exact (List.getElem?_eq_some_iff.1 hi).1)
  rwa [List.getD_eq_getElem?_getD, hi] at this
theorem gok {P : Program} {gl : Nat → Option Tab} {C : Ctx} {G : Gl} {m n : Nat} (hP : C.P = P) (hgl : C.gl = gl) (hm : C.m = m) (hN : C.N = n) (h1 : G.m = m) (h2 : G.n = n) (h3 : G.gl = gl) (h4 : TyOK P G) (h5 : CallsOK P gl G) : GOK C G := by
  subst hP hgl hm hN
  exact ⟨h1, h2, h3, h4, h5⟩
theorem clone_ok {P : Program} {gl : Nat → Option Tab} {G : Gl} {f : FuncId} {fn : Func} {c : Code} {e : Sh} (hmix : P.follows .mixedOrders = true) (hf : P.funcs[f]? = some fn) (hb : fn.body = some c) (hnm : (fn.name == "runtime.NumGoroutine") = false)
    {F : List e.T → Option (List e.T)} (ok : BodyOK P gl G fn c ⟨[], [(0, .d (.sl e))]⟩ ⟨[], [(0, .d (.sl e))]⟩)
    (hs : c = .seq (ambR0 c) (.seq (.seq (ambR1 c) (.cond (.tmp (ambT c)) (ambA c) .skip)) (ambB c))) (l0 : loops (ambR0 c) = []) (l1 : loops (ambR1 c) = []) (lA : loops (ambA c) = []) (lB : loops (ambB c) = [])
    (hnil : (ev G (ambR0 c) (head ⟨[], [(0, .d (.sl e))]⟩ (ofTup [.sl e] ([] : List e.T)))).den (ambMid G (ambT c) (ambR1 c) (ambA c) (ambB c) (T := e.T) (funEnd G fn.results.toList 0 ⟨[], [(0, .d (.sl e))]⟩)) = some [])
    (hcons : ∀ x l, F (x :: l) = (ev G c (head ⟨[], [(0, .d (.sl e))]⟩ (ofTup [.sl e] (x :: l : List e.T)))).den (funEnd G fn.results.toList 0 ⟨[], [(0, .d (.sl e))]⟩)) (h0 : F [] = some []) :
    FnOK P gl f ⟨⟨[], [(0, .d (.sl e))]⟩, ⟨[], [(0, .d (.sl e))]⟩, F⟩ := by
  refine fun_wp (ps := ⟨[], [(0, .d (.sl e))]⟩) (rs := ⟨[], [(0, .d (.sl e))]⟩) (F := F) hf hb hnm ok ?_
  intro (x : List e.T) (y : List e.T) hy C h1 h2 h3 h4 hG E a w hB hR
  have hm : C.P.follows .mixedOrders = true := by rw [h1]; exact hmix
  cases x with
  | nil =>
    have : y = [] := by
      have hy : F [] = some y := hy
      rw [h0] at hy
      cases hy
      rfl
    subst this
    rw [hs]
    exact wp_amb hG hm l0 l1 lA lB hnil (fun p hp => by cases hp) hB hR
  | cons x l =>
    have hy : F (x :: l) = some y := hy
    rw [hcons] at hy
    exact ev_sound hG hm c (ok.hloops C h1 h2 h3 h4) (den_sat hy) (fun p hp => by cases hp) hB hR
/-- The same, its list being the caller's to write. -/
theorem clone_own_ok {P : Program} {gl : Nat → Option Tab} {G : Gl} {f : FuncId} {fn : Func} {c : Code} {e : Sh} {et : TypeId} (hmix : P.follows .mixedOrders = true) (hf : P.funcs[f]? = some fn) (hb : fn.body = some c) (hnm : (fn.name == "runtime.NumGoroutine") = false)
    {F : List e.T → Option (List e.T)} (ok : BodyOK P gl G fn c ⟨[], [(0, .d (.sl e))]⟩ ⟨[(.tmp 0, .grow false e et)], [(0, .own 0)]⟩)
    (hs : c = .seq (ambR0 c) (.seq (.seq (ambR1 c) (.cond (.tmp (ambT c)) (ambA c) .skip)) (ambB c))) (l0 : loops (ambR0 c) = []) (l1 : loops (ambR1 c) = []) (lA : loops (ambA c) = []) (lB : loops (ambB c) = [])
    (hnil : (ev G (ambR0 c) (head ⟨[], [(0, .d (.sl e))]⟩ (ofTup [.sl e] ([] : List e.T)))).den (ambMid G (ambT c) (ambR1 c) (ambA c) (ambB c) (T := e.T) (funEnd G fn.results.toList 0 ⟨[(.tmp 0, .grow false e et)], [(0, .own 0)]⟩)) = some [])
    (hcons : ∀ x l, F (x :: l) = (ev G c (head ⟨[], [(0, .d (.sl e))]⟩ (ofTup [.sl e] (x :: l : List e.T)))).den (funEnd G fn.results.toList 0 ⟨[(.tmp 0, .grow false e et)], [(0, .own 0)]⟩)) (h0 : F [] = some []) :
    FnOK P gl f ⟨⟨[], [(0, .d (.sl e))]⟩, ⟨[(.tmp 0, .grow false e et)], [(0, .own 0)]⟩, F⟩ := by
  refine fun_wp (ps := ⟨[], [(0, .d (.sl e))]⟩) (rs := ⟨[(.tmp 0, .grow false e et)], [(0, .own 0)]⟩) (F := F) hf hb hnm ok ?_
  intro (x : List e.T) (y : List e.T) hy C h1 h2 h3 h4 hG E a w hB hR
  have hm : C.P.follows .mixedOrders = true := by rw [h1]; exact hmix
  cases x with
  | nil =>
    have : y = [] := by
      have hy : F [] = some y := hy
      rw [h0] at hy
      cases hy
      rfl
    subst this
    rw [hs]
    exact wp_amb hG hm l0 l1 lA lB hnil (fun p hp => by cases hp) hB hR
  | cons x l =>
    have hy : F (x :: l) = some y := hy
    rw [hcons] at hy
    exact ev_sound hG hm c (ok.hloops C h1 h2 h3 h4) (den_sat hy) (fun p hp => by cases hp) hB hR
end Go.Rx

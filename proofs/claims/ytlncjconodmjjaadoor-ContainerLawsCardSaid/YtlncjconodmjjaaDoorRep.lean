/- Rx, part 3: what it is that an abstract state tells of the machine's, and how that is kept when memory changes. -/
import Derived.Test.YtlncjconodmjjaaDoorDesc
import Derived.Calls
import Derived.Orders
import Derived.Laws.AppendOwn
import Derived.Laws.MakeOwn
import Derived.OwnWalk
import Derived.RowKit3
namespace Go.Rx
set_option linter.unusedVariables false

def RowsL {T : Type} (R : T → List Value → Prop) : List T → List Value → Prop
  | [], cs => cs = []
  | x :: xs, cs => ∃ c r, cs = c ++ r ∧ R x c ∧ RowsL R xs r
def At (w : World) (a : Addr) (cs : List Value) : Prop := ∀ j v, cs[j]? = some v → w.cell? ⟨a.block, a.off + j, none⟩ = some v

/-- Cells that hold a datum, in memory that stays. -/
def PC (A : Nat → Prop) (w : World) : (s : Sh) → s.T → List Value → Prop
  | .int k, n, cs => cs = [.int k n]
  | .bool, b, cs => cs = [.bool b]
  | .str, s, cs => cs = [.string s]
  | .unit, _, cs => cs = []
  | .pair a b, x, cs => ∃ c1 c2, cs = c1 ++ c2 ∧ PC A w a x.1 c1 ∧ PC A w b x.2 c2
  | .st a, x, cs => PC A w a x cs
  | .sl e, xs, cs => ∃ ad cap, cs = [.slice ad (List.length xs) cap] ∧ List.length xs ≤ cap ∧
      (xs ≠ [] → ∃ a : Addr, ad = some a ∧ a.spot = none ∧ A a.block ∧ ∃ cells, RowsL (fun x c => PC A w e x c) xs cells ∧ At w a cells)
  | .ptr e, x, cs => match x with
    | none => cs = [.pointer none]
    | some x => ∃ (a : Addr) (c : List Value), cs = [.pointer (some a)] ∧ a.spot = none ∧ A a.block ∧ PC A w e x c ∧ At w a c

theorem RowsL.imp {T : Type} {R R' : T → List Value → Prop} (h : ∀ x c, R x c → R' x c) : ∀ {xs : List T} {cs : List Value}, RowsL R xs cs → RowsL R' xs cs
  | [], _, hr => hr
  | _ :: _, _, ⟨c, r, e, h1, h2⟩ => ⟨c, r, e, h _ _ h1, RowsL.imp h h2⟩
theorem RowsL.append {T : Type} {R : T → List Value → Prop} : ∀ {xs ys : List T} {cs ds : List Value}, RowsL R xs cs → RowsL R ys ds → RowsL R (xs ++ ys) (cs ++ ds)
  | [], _, _, _, hx, hy => by cases hx; exact hy
  | _ :: _, _, _, _, ⟨c, r, e, h1, h2⟩, hy => ⟨c, r ++ _, by rw [e, List.append_assoc], h1, RowsL.append h2 hy⟩
theorem RowsL.length {T : Type} {R : T → List Value → Prop} {n : Nat} (hn : ∀ x c, R x c → c.length = n) : ∀ {xs : List T} {cs : List Value}, RowsL R xs cs → cs.length = xs.length * n
  | [], _, h => by cases h; simp
  | _ :: xs, _, ⟨c, r, e, h1, h2⟩ => by rw [e, List.length_append, hn _ _ h1, RowsL.length hn h2, List.length_cons, Nat.succ_mul, Nat.add_comm]
/-- The cells of the i-th one. -/
theorem RowsL.get {T : Type} {R : T → List Value → Prop} {n : Nat} (hn : ∀ x c, R x c → c.length = n) : ∀ {xs : List T} {cs : List Value} (i : Nat) (x : T), RowsL R xs cs → xs[i]? = some x →
    ∃ c, R x c ∧ ∀ j v, c[j]? = some v → cs[i * n + j]? = some v
  | [], _, i, x, _, hx => by simp at hx
  | y :: xs, _, i, x, ⟨c, r, e, h1, h2⟩, hx => by
    cases i with
    | zero =>
      simp at hx
      subst hx
      refine ⟨c, h1, fun j v hv => ?_⟩
      have hj : j < c.length := (List.getElem?_eq_some_iff.1 hv).1
      rw [e, Nat.zero_mul, Nat.zero_add, List.getElem?_append_left hj]
      exact hv
    | succ i =>
      simp at hx
      obtain ⟨c', h3, h4⟩ := RowsL.get hn i x h2 hx
      refine ⟨c', h3, fun j v hv => ?_⟩
      have := h4 j v hv
      rw [e, List.getElem?_append_right (by rw [hn _ _ h1, Nat.succ_mul]; omega), hn _ _ h1, show (i + 1) * n + j - n = i * n + j by rw [Nat.succ_mul]; omega]
      exact this
theorem RowsL.set {T : Type} {R : T → List Value → Prop} {n : Nat} (hn : ∀ x c, R x c → c.length = n) : ∀ {xs : List T} {cs : List Value} (i : Nat) (x : T) (c : List Value), RowsL R xs cs → i < xs.length → R x c →
    RowsL R (xs.set i x) (cs.take (i * n) ++ c ++ cs.drop (i * n + n))
  | [], _, i, x, _, _, hx, _ => by simp at hx
  | y :: xs, _, i, x, c', ⟨c, r, e, h1, h2⟩, hx, hc => by
    cases i with
    | zero =>
      refine ⟨c', r, ?_, hc, h2⟩
      have hl := hn _ _ h1
      rw [e, Nat.zero_mul, Nat.zero_add, List.take_zero, List.nil_append, ← hl, List.drop_left]
    | succ i =>
      have hl := hn _ _ h1
      have := RowsL.set hn i x c' h2 (by simpa using hx) hc
      refine ⟨c, _, ?_, h1, this⟩
      have e1 : (i + 1) * n = c.length + i * n := by rw [Nat.succ_mul, hl]; omega
      rw [e, e1, List.take_append, show c.length + i * n + n = c.length + (i * n + n) by omega, List.drop_append]
      simp [List.take_of_length_le (l := c) (Nat.le_add_right c.length (i * n)), List.drop_eq_nil_of_le (as := c) (Nat.le_add_right c.length (i * n + n))]
theorem PC.length {A : Nat → Prop} {w : World} : ∀ {s : Sh} {x : s.T} {cs : List Value}, PC A w s x cs → cs.length = s.size
  | .int _, _, _, h => by rw [h]; rfl
  | .bool, _, _, h => by rw [h]; rfl
  | .str, _, _, h => by rw [h]; rfl
  | .unit, _, _, h => by rw [h]; rfl
  | .pair a b, _, _, ⟨_, _, e, h1, h2⟩ => by rw [e, List.length_append, PC.length h1, PC.length h2]; rfl
  | .st a, _, _, h => PC.length (s := a) h
  | .sl _, _, _, ⟨_, _, e, _⟩ => by rw [e]; rfl
  | .ptr _, x, _, h => by
    cases x with
    | none => rw [show _ = _ from h]; rfl
    | some x => obtain ⟨_, _, e, _⟩ := h; rw [e]; rfl

theorem At.mono {w w' : World} {a : Addr} {cs : List Value} (h : ∀ o v, w.cell? ⟨a.block, o, none⟩ = some v → w'.cell? ⟨a.block, o, none⟩ = some v) (hc : At w a cs) : At w' a cs :=
  fun j v hv => h _ _ (hc j v hv)
theorem PC.mono {A A' : Nat → Prop} {w w' : World} (hA : ∀ b, A b → A' b) (hw : ∀ b, A b → ∀ o v, w.cell? ⟨b, o, none⟩ = some v → w'.cell? ⟨b, o, none⟩ = some v) :
    ∀ {s : Sh} {x : s.T} {cs : List Value}, PC A w s x cs → PC A' w' s x cs
  | .int _, _, _, h => h
  | .bool, _, _, h => h
  | .str, _, _, h => h
  | .unit, _, _, h => h
  | .pair a b, _, _, ⟨c1, c2, e, h1, h2⟩ => ⟨c1, c2, e, PC.mono hA hw h1, PC.mono hA hw h2⟩
  | .st a, _, _, h => PC.mono (s := a) hA hw h
  | .sl e, _, _, ⟨ad, cap, e1, h1, h2⟩ => ⟨ad, cap, e1, h1, fun hx => by
      obtain ⟨a, e2, h3, h4, cells, h5, h6⟩ := h2 hx
      exact ⟨a, e2, h3, hA _ h4, cells, h5.imp (fun x c hc => PC.mono (s := e) hA hw hc), h6.mono (hw _ h4)⟩⟩
  | .ptr e, x, _, h => by
    cases x with
    | none => exact h
    | some x =>
      obtain ⟨a, c, e1, h1, h2, h3, h4⟩ := h
      exact ⟨a, c, e1, h1, hA _ h2, PC.mono (s := e) hA hw h3, h4.mono (hw _ h2)⟩

/-! ### Values -/
structure Env where
  β : Nat → Nat
  sl : Nat → Option Addr × Nat × Nat
  ln : Nat → Nat
/-- The slice that a growing list is. -/
def Env.σ (E : Env) (id : Nat) : Value := .slice (E.sl id).1 (E.sl id).2.1 (E.sl id).2.2
mutual
def RepV (D : Nat → Prop) (E : Env) (A : Nat → Prop) (w : World) : AV → Value → Prop
  | .unk, _ => True
  | .undef, v => v = undef
  | .anyB, v => ∃ b, v = .bool b
  | .zb n, v => v = .agg (List.toArray (List.replicate n (.bool false)))
  | .int k n, v => v = .int k n
  | .bool b, v => v = .bool b
  | .str s, v => v = .string s
  | .nilsl, v => v = .slice none 0 0
  | .nilptr, v => v = .pointer none
  | .glob g, v => v = .pointer (some ⟨g, 0, none⟩)
  | .psl e xs, v => PC A w (.sl e) xs [v]
  | .ppt e x, v => PC A w (.ptr e) x [v]
  | .own id, v => D id ∧ v = E.σ id
  | .optr id off, v => D id ∧ v = .pointer (some ⟨E.β id, off, none⟩)
  | .oel id sz i off, v => D id ∧ i < E.ln id ∧ v = .pointer (some ⟨E.β id, i * sz + off, none⟩)
  | .otl id sz lo, v => D id ∧ ∃ ad c, v = .slice ad (E.ln id - lo) c ∧ (lo < E.ln id → ad = some ⟨E.β id, lo * sz, none⟩)
  | .pel e xs i off, v => ∃ (a : Addr) (cells : List Value), A a.block ∧ RowsL (fun x c => PC A w e x c) xs cells ∧ At w a cells ∧ i < xs.length ∧
      v = .pointer (some ⟨a.block, a.off + (i * e.size + off), none⟩)
  | .pfl e x off, v => ∃ (a : Addr) (c : List Value), A a.block ∧ PC A w e x c ∧ At w a c ∧ v = .pointer (some ⟨a.block, a.off + off, none⟩)
  | .fn f first caps, v => ∃ fs cs, v = .func (.func f) (List.toArray fs) (List.toArray cs) ∧ RepL D E A w first fs ∧ RepL D E A w caps cs
  | .agg l, v => ∃ vs, v = .agg (List.toArray vs) ∧ RepL D E A w l vs
  | .tup l, v => ∃ vs, v = .tuple (List.toArray vs) ∧ RepL D E A w l vs
def RepL (D : Nat → Prop) (E : Env) (A : Nat → Prop) (w : World) : List AV → List Value → Prop
  | [], l => l = []
  | v :: r, l => ∃ x t, l = x :: t ∧ RepV D E A w v x ∧ RepL D E A w r t
end
def RepO (D : Nat → Prop) (E : Env) (A : Nat → Prop) (w : World) (id : Nat) : Obj → Prop
  | .gone => True
  | .grow _ e et xs => E.ln id = xs.length ∧ ((E.σ id = .slice none 0 0 ∧ xs = []) ∨
      ∃ cap cur cells, E.σ id = .slice (some ⟨E.β id, 0, none⟩) xs.length cap ∧ w.heap[E.β id]? = some (.cells cur et (0, 0)) ∧ xs.length ≤ cap ∧ cap ≤ maxLen ∧ cur.size = cap * e.size ∧
        RowsL (fun x c => PC A w e x c) xs cells ∧ cur.toList.take (xs.length * e.size) = cells)
  | .froz e xs => E.ln id = xs.length ∧ PC A w (.sl e) xs [E.σ id] ∧ (xs ≠ [] → ∃ cap, E.σ id = .slice (some ⟨E.β id, 0, none⟩) xs.length cap)
  | .cells cs => ∃ vs et, w.heap[E.β id]? = some (.cells (List.toArray vs) et (0, 0)) ∧ RepL D E A w cs vs
  | .arr e xs => E.ln id = xs.length ∧ ∃ cells et, w.heap[E.β id]? = some (.cells (List.toArray cells) et (0, 0)) ∧ RowsL (fun x c => PC A w e x c) xs cells
def Owns (E : Env) (id : Nat) : Obj → Prop
  | .grow _ _ _ _ => E.σ id ≠ .slice none 0 0
  | .cells _ => True
  | .arr _ _ => True
  | _ => False

structure Ctx where
  P : Program
  w0 : World
  A0 : Nat → Prop
  /-- blocks that came in to be written -/
  O0 : Nat → Prop
  m : Nat
  E0 : Env
  N : Nat
  gl : Nat → Option Tab
/-- Memory that stays: what was there and may be read, and what has come and is nobody's. -/
def Al (C : Ctx) (S : AS) (E : Env) (w : World) (b : Nat) : Prop :=
  C.A0 b ∨ (C.w0.heap.size ≤ b ∧ b < w.heap.size ∧ ∀ id o, S.obj id = some o → Owns E id o → E.β id ≠ b)
/-- May an object lie in memory that came in? -/
def Entry (C : Ctx) (id : Nat) : Obj → Prop
  | .grow en _ _ _ => en = true
  | _ => id < C.m
def Dom (S : AS) (id : Nat) : Prop := S.obj id ≠ none
/-- The rest of the world stands: no more than new blocks, none of them frozen. -/
structure Later (w w' : World) : Prop where
  sz : w.heap.size ≤ w'.heap.size
  os : w'.os = w.os
  out : w'.output = w.output
  fz : ∀ a, w'.frozen? a = w.frozen? a
theorem Later.refl (w : World) : Later w w := ⟨Nat.le_refl _, rfl, rfl, fun _ => rfl⟩
theorem Later.trans {w w' w'' : World} (h : Later w w') (h' : Later w' w'') : Later w w'' := ⟨Nat.le_trans h.sz h'.sz, h'.os.trans h.os, h'.out.trans h.out, fun a => (h'.fz a).trans (h.fz a)⟩
theorem later_alloc (w : World) (c : Array Value) (t : TypeId) : Later w (w.alloc (.cells c t)) := ⟨by show _ ≤ (w.heap.push _).size; simp, rfl, rfl, fun a => RowKit.frozen?_alloc_cells w c t a⟩
theorem later_drew (w : World) : Later w w.drew := ⟨Nat.le_refl _, rfl, rfl, fun _ => rfl⟩
theorem later_setRow (w : World) (g : Nat) (cs : Array Value) : Later w (w.setRow g cs) := by
  refine ⟨by simp [World.setRow], rfl, rfl, fun a => ?_⟩
  unfold World.frozen? World.setRow
  simp only [Array.getElem?_modify]
  by_cases q : g = a.block
  · rw [if_pos q]
    cases hq : w.heap[a.block]? with
    | none => rfl
    | some o => cases o <;> rfl
  · rw [if_neg q]
structure RepH (C : Ctx) (S : AS) (E : Env) (w : World) : Prop where
  a0 : ∀ b, C.A0 b → b < C.w0.heap.size ∧ ¬ C.O0 b
  gl : ∀ g e xs, C.gl g = some ⟨e, xs⟩ → C.A0 g ∧ ∃ cells, RowsL (fun x c => PC C.A0 C.w0 e x c) xs cells ∧ At C.w0 ⟨g, 0, none⟩ cells
  lat : Later C.w0 w
  keep : ∀ b, b < C.w0.heap.size → ¬ C.O0 b → w.heap[b]? = C.w0.heap[b]?
  pin : ∀ i, i < C.m → S.obj i ≠ none ∧ E.β i = C.E0.β i ∧ E.σ i = C.E0.σ i ∧ E.ln i = C.E0.ln i
  fresh : ∀ id o, S.obj id = some o → Owns E id o → E.β id < w.heap.size ∧ (C.w0.heap.size ≤ E.β id ∨ C.O0 (E.β id) ∧ Entry C id o)
  inj : ∀ i j o o', S.obj i = some o → Owns E i o → S.obj j = some o' → Owns E j o' → E.β i = E.β j → i = j
  objs : ∀ id o, S.obj id = some o → RepO (Dom S) E (Al C S E w) w id o
theorem RepH.size {C : Ctx} {S : AS} {E : Env} {w : World} (h : RepH C S E w) : C.w0.heap.size ≤ w.heap.size := h.lat.sz
structure RepE (C : Ctx) (S : AS) (E : Env) (a : Act) (w : World) : Prop where
  n : a.tmps.size = C.N
  d : a.defers = []
  h : RepH C S E w
  t : ∀ t, RepV (Dom S) E (Al C S E w) w (S.get t) (a.tmps.getD t undef)
def Rep (C : Ctx) (S : AS) (a : Act) (w : World) : Prop := ∃ E, RepE C S E a w

/-! ### What is kept -/
structure Ext (D : Nat → Prop) (E : Env) (A : Nat → Prop) (w : World) (D' : Nat → Prop) (E' : Env) (A' : Nat → Prop) (w' : World) : Prop where
  d : ∀ id, D id → D' id ∧ E'.β id = E.β id ∧ E'.σ id = E.σ id ∧ E'.ln id = E.ln id
  a : ∀ b, A b → A' b ∧ ∀ o v, w.cell? ⟨b, o, none⟩ = some v → w'.cell? ⟨b, o, none⟩ = some v
theorem Ext.pc {D D' : Nat → Prop} {E E' : Env} {A A' : Nat → Prop} {w w' : World} (h : Ext D E A w D' E' A' w') {s : Sh} {x : s.T} {cs : List Value} (hp : PC A w s x cs) : PC A' w' s x cs :=
  hp.mono (fun b hb => (h.a b hb).1) (fun b hb => (h.a b hb).2)
mutual
theorem Ext.repV {D D' : Nat → Prop} {E E' : Env} {A A' : Nat → Prop} {w w' : World} (h : Ext D E A w D' E' A' w') : ∀ {v : AV} {x : Value}, RepV D E A w v x → RepV D' E' A' w' v x
  | .unk, _, _ => by simp [RepV]
  | .undef, _, q => by simpa [RepV] using q
  | .anyB, _, q => by simpa [RepV] using q
  | .zb _, _, q => by simpa [RepV] using q
  | .int _ _, _, q => by simpa [RepV] using q
  | .bool _, _, q => by simpa [RepV] using q
  | .str _, _, q => by simpa [RepV] using q
  | .nilsl, _, q => by simpa [RepV] using q
  | .nilptr, _, q => by simpa [RepV] using q
  | .glob _, _, q => by simpa [RepV] using q
  | .psl _ _, _, q => by simp only [RepV] at q ⊢; exact h.pc q
  | .ppt _ _, _, q => by simp only [RepV] at q ⊢; exact h.pc q
  | .own id, _, q => by simp only [RepV] at q ⊢; exact ⟨(h.d _ q.1).1, by rw [(h.d _ q.1).2.2.1]; exact q.2⟩
  | .optr id _, _, q => by simp only [RepV] at q ⊢; exact ⟨(h.d _ q.1).1, by rw [(h.d _ q.1).2.1]; exact q.2⟩
  | .oel id _ _ _, _, q => by simp only [RepV] at q ⊢; exact ⟨(h.d _ q.1).1, by rw [(h.d _ q.1).2.2.2]; exact q.2.1, by rw [(h.d _ q.1).2.1]; exact q.2.2⟩
  | .otl id _ _, _, q => by simp only [RepV] at q ⊢; exact ⟨(h.d _ q.1).1, by rw [(h.d _ q.1).2.2.2, (h.d _ q.1).2.1]; exact q.2⟩
  | .pel _ _ _ _, _, q => by
    simp only [RepV] at q ⊢
    obtain ⟨a, cells, h1, h2, h3, h4⟩ := q
    exact ⟨a, cells, (h.a _ h1).1, h2.imp (fun _ _ => h.pc), h3.mono (h.a _ h1).2, h4⟩
  | .pfl _ _ _, _, q => by
    simp only [RepV] at q ⊢
    obtain ⟨a, c, h1, h2, h3, h4⟩ := q
    exact ⟨a, c, (h.a _ h1).1, h.pc h2, h3.mono (h.a _ h1).2, h4⟩
  | .fn _ first caps, _, q => by
    simp only [RepV] at q ⊢
    obtain ⟨fs, cs, h1, h2, h3⟩ := q
    exact ⟨fs, cs, h1, h.repL h2, h.repL h3⟩
  | .agg l, _, q => by
    simp only [RepV] at q ⊢
    obtain ⟨vs, h1, h2⟩ := q
    exact ⟨vs, h1, h.repL h2⟩
  | .tup l, _, q => by
    simp only [RepV] at q ⊢
    obtain ⟨vs, h1, h2⟩ := q
    exact ⟨vs, h1, h.repL h2⟩
theorem Ext.repL {D D' : Nat → Prop} {E E' : Env} {A A' : Nat → Prop} {w w' : World} (h : Ext D E A w D' E' A' w') : ∀ {l : List AV} {vs : List Value}, RepL D E A w l vs → RepL D' E' A' w' l vs
  | [], _, q => by simpa [RepL] using q
  | v :: r, _, q => by
    simp only [RepL] at q ⊢
    obtain ⟨x, t, h1, h2, h3⟩ := q
    exact ⟨x, t, h1, h.repV h2, h.repL h3⟩
end
theorem Ext.repO {D D' : Nat → Prop} {E E' : Env} {A A' : Nat → Prop} {w w' : World} (h : Ext D E A w D' E' A' w') {id : Nat} (hd : D id) {o : Obj} (hb : Owns E id o → w'.heap[E.β id]? = w.heap[E.β id]?) (q : RepO D E A w id o) : RepO D' E' A' w' id o := by
  obtain ⟨h0, h1, h2, h3⟩ := h.d id hd
  cases o with
  | gone => trivial
  | grow en e et xs =>
    obtain ⟨q1, q2⟩ := q
    refine ⟨by rw [h3]; exact q1, ?_⟩
    rcases q2 with ⟨q2, q3⟩ | ⟨cap, cur, cells, q2, q3, q4, q5, q6, q7, q8⟩
    · exact .inl ⟨by rw [h2]; exact q2, q3⟩
    · refine .inr ⟨cap, cur, cells, by rw [h1, h2]; exact q2, ?_, q4, q5, q6, q7.imp (fun _ _ => h.pc), q8⟩
      rw [h1, hb (by simp only [Owns]; rw [q2]; simp)]
      exact q3
  | froz e xs =>
    obtain ⟨q1, q2, q3⟩ := q
    exact ⟨by rw [h3]; exact q1, by rw [h2]; exact h.pc q2, by rw [h1, h2]; exact q3⟩
  | cells cs =>
    obtain ⟨vs, et, q1, q2⟩ := q
    exact ⟨vs, et, by rw [h1, hb trivial]; exact q1, h.repL q2⟩
  | arr e xs =>
    obtain ⟨q1, cells, et, q2, q3⟩ := q
    exact ⟨by rw [h3]; exact q1, cells, et, by rw [h1, hb trivial]; exact q2, q3.imp (fun _ _ => h.pc)⟩
theorem Owns.env {E E' : Env} {id : Nat} (h : E'.σ id = E.σ id) {o : Obj} : Owns E' id o ↔ Owns E id o := by
  cases o <;> simp [Owns, h]
theorem cell_of_heap {w w' : World} {b : Nat} (h : w'.heap[b]? = w.heap[b]?) (o : Nat) (v : Value) (hc : w.cell? ⟨b, o, none⟩ = some v) : w'.cell? ⟨b, o, none⟩ = some v := by
  simp only [World.cell?] at hc ⊢
  rw [h]
  exact hc
end Go.Rx

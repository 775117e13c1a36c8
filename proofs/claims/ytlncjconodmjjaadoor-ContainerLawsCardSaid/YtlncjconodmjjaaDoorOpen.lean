/- Rx, part 26: what comes in, as plain data: slices of ints, of structs, of slices. -/
import Derived.Test.YtlncjconodmjjaaDoorLaw
import Derived.ProofKit
import Derived.Deep.Slices
import Derived.OpenShut
namespace Go.Rx
set_option linter.unusedVariables false
mutual
inductive ShOK (P : Program) : Sh → TypeId → Prop
  | int {k : IntKind} {t : TypeId} (h : P.underlying t = some (.int k)) : ShOK P (.int k) t
  | sl {e : Sh} {t u : TypeId} (h : P.underlying t = some (.slice u)) (hn : P.cellsOf u = e.size) (h0 : 0 < e.size) (he : ShOK P e u) : ShOK P (.sl e) t
  | st {s : Sh} {t : TypeId} {fs : Array Field} (h : P.underlying t = some (.struct fs)) (hn : P.cellsOf t = s.size) (hf : FsOK P s fs.toList 0) : ShOK P (.st s) t
inductive FsOK (P : Program) : Sh → List Field → Nat → Prop
  | one {s : Sh} {f : Field} {off : Nat} (ho : f.offset = off) (hn : P.cellsOf f.type = s.size) (h : ShOK P s f.type) : FsOK P s [f] off
  | more {a b : Sh} {f : Field} {r : List Field} {off : Nat} (ho : f.offset = off) (hn : P.cellsOf f.type = a.size) (h : ShOK P a f.type) (hr : FsOK P b r (off + a.size)) : FsOK P (.pair a b) (f :: r) off
end
/-- What a number, a list .. that came in is known to be. -/
def Wf : (s : Sh) → s.T → Prop
  | .int k, n => (Lit.int k n).wf = true
  | .bool, _ => True
  | .str, _ => True
  | .unit, _ => True
  | .pair a b, x => Wf a x.1 ∧ Wf b x.2
  | .st a, x => Wf a x
  | .sl e, xs => List.length xs ≤ maxLen ∧ ∀ x, x ∈ xs → Wf e x
  | .ptr _, _ => True
section
variable {H : Type} {enc : TypeId × Value → H} {P : Program} {w : World} {spare : Nat → Bool}
theorem cells_app {a : Addr} {c d : List Value} {n : Nat} (hc : At w a c) (hn : c.length = n) (hd : ∀ i, i < d.length → w.cell? ⟨a.block, a.off + (n + i), none⟩ = d[i]?) : At w a (c ++ d) := by
  intro j v hv
  by_cases h : j < c.length
  · rw [List.getElem?_append_left h] at hv
    exact hc j v hv
  · rw [List.getElem?_append_right (by omega)] at hv
    have hl : j - c.length < d.length := (List.getElem?_eq_some_iff.1 hv).1
    have := hd _ hl
    rw [hv] at this
    rw [← this]
    congr 2
    omega
theorem add_cell {a : Addr} (h : a.spot = none) (n : Nat) : a.add n = ⟨a.block, a.off + n, none⟩ := by
  unfold Addr.add
  split
  · subst_vars
    cases a
    simp_all
  · rfl
theorem rows_of {A : Nat → Prop} {s : Sh} {a : Addr} {u : TypeId} {n : Nat} {D : Nat → DataW H} {Pl : Nat → List MemPlace} (ha : a.spot = none) (hA : A a.block)
    (ih : ∀ cs d ps, DataW.trod enc P w 0 spare true n u cs = some (d, ps) → ∃ x : s.T, PC A w s x cs ∧ Wf s x) :
    ∀ m, (∀ i, i < m → ∃ cs', w.cells? 0 (a.add (i * s.size)) s.size = some cs' ∧ DataW.trod enc P w 0 spare true n u cs' = some (D i, Pl i)) →
      ∃ (xs : List s.T) (cells : List Value), xs.length = m ∧ RowsL (fun x c => PC A w s x c) xs cells ∧ cells.length = m * s.size ∧ At w a cells ∧ ∀ x, x ∈ xs → Wf s x
  | 0, _ => ⟨[], [], rfl, rfl, by simp, fun j v h => by simp at h, fun x h => nomatch h⟩
  | m + 1, h => by
    obtain ⟨xs, cells, h1, h2, h3, h4, h5⟩ := rows_of ha hA ih m fun i hi => h i (by omega)
    obtain ⟨cs', h6, h7⟩ := h m (by omega)
    obtain ⟨x, h8, h9⟩ := ih _ _ _ h7
    obtain ⟨_, h10, h11⟩ := World.cells?_some h6
    refine ⟨xs ++ [x], cells ++ cs', by simp [h1], h2.append ⟨cs', [], by simp, h8, rfl⟩, by rw [List.length_append, h3, h10, Nat.succ_mul], ?_, ?_⟩
    · refine cells_app h4 h3 fun i hi => ?_
      rw [← h11 i (by omega), add_cell ha, add_cell rfl]
      congr 2
      simp
      omega
    · intro y hy
      rw [List.mem_append] at hy
      rcases hy with hy | hy
      · exact h5 y hy
      · simp at hy
        subst hy
        exact h9
theorem fields_of {A : Nat → Prop} {n : Nat} {cs : List Value} (ih : ∀ (s : Sh) (t : TypeId) (cs : List Value) (d : DataW H) (ps : List MemPlace), ShOK P s t → DataW.trod enc P w 0 spare true n t cs = some (d, ps) → ∃ x : s.T, PC A w s x cs ∧ Wf s x) :
    ∀ {fs : List Field} {s : Sh} {off : Nat}, FsOK P s fs off → off + s.size = cs.length → (∀ f, f ∈ fs → ∃ y, DataW.trod enc P w 0 spare true n f.type ((cs.drop f.offset).take (P.cellsOf f.type)) = some y) → ∃ x : s.T, PC A w s x (cs.drop off) ∧ Wf s x
  | _, _, _, .one (f := f) (s := s) ho hn h, hl, hf => by
    obtain ⟨⟨d, ps⟩, hy⟩ := hf f (by simp)
    rw [ho, hn] at hy
    obtain ⟨x, h1, h2⟩ := ih _ _ _ _ _ h hy
    rw [List.take_of_length_le (by simp; omega)] at h1
    exact ⟨x, h1, h2⟩
  | _, _, off, .more (f := f) (a := a) (b := b) ho hn h hr, hl, hf => by
    obtain ⟨⟨d, ps⟩, hy⟩ := hf f (by simp)
    rw [ho, hn] at hy
    obtain ⟨x, h1, h2⟩ := ih _ _ _ _ _ h hy
    have hl' : off + (a.size + b.size) = cs.length := hl
    obtain ⟨y, h3, h4⟩ := fields_of ih hr (by omega) fun f hm => hf f (by simp [hm])
    refine ⟨(x, y), ⟨_, _, ?_, h1, h3⟩, h2, h4⟩
    rw [← List.drop_drop, List.take_append_drop]
theorem open_pc {A : Nat → Prop} (hA : ∀ b, b < w.heap.size → A b) : ∀ (n : Nat) (s : Sh) (t : TypeId) (cs : List Value) (d : DataW H) (ps : List MemPlace), ShOK P s t → DataW.trod enc P w 0 spare true n t cs = some (d, ps) → ∃ x : s.T, PC A w s x cs ∧ Wf s x
  | 0, _, _, _, _, _, _, h => by simp [DataW.trod] at h
  | n + 1, _, t, cs, d, ps, .int (k := k) ht, h => by
    obtain ⟨m, rfl, hx, hw⟩ := DataW.trod_int ht h
    exact ⟨m, rfl, hw⟩
  | n + 1, _, t, cs, d, ps, .sl (u := u) (e := e) ht hn h0 he, h => by
    rcases DataW.trod_slice ht h with ⟨rfl, _⟩ | ⟨a, len, cap, elems, rest, n', hn', rfl, _, _, h1, h2, h3, h4, _, _⟩
    · exact ⟨[], ⟨none, 0, rfl, Nat.le_refl _, fun h => absurd rfl h⟩, Nat.zero_le _, fun x hx => nomatch hx⟩
    · obtain rfl : n' = n := by omega
      by_cases hz : len = 0
      · subst hz
        exact ⟨[], ⟨some a, cap, rfl, Nat.zero_le _, fun h => absurd rfl h⟩, Nat.zero_le _, fun x hx => nomatch hx⟩
      · rw [hn] at h4
        have key : ∀ i, i < len → ∃ cs', w.cells? 0 (a.add (i * e.size)) e.size = some cs' ∧ DataW.trod enc P w 0 spare true n' u cs' = some ((elems.getD i (.nil, [])).1, (elems.getD i (.nil, [])).2) := by
          intro i hi
          have := h4 i hi
          rw [List.getElem?_eq_getElem (by omega)] at this
          obtain ⟨cs', q1, q2⟩ := Option.bind_eq_some_iff.1 this
          refine ⟨cs', q1, ?_⟩
          rw [q2]
          simp [List.getD, List.getElem?_eq_getElem (show i < elems.length by omega)]
        obtain ⟨cs0, q1, _⟩ := key 0 (by omega)
        rw [Nat.zero_mul] at q1
        obtain ⟨_, q2, q3⟩ := World.cells?_some q1
        have q4 := q3 0 h0
        have hsp : a.spot = none := by
          rw [List.getElem?_eq_getElem (by omega)] at q4
          have q5 : w.cell? (a.add 0) = w.cell? a := by simp [Addr.add]
          have q5' : w.cell? ((a.add 0).add 0) = w.cell? a := by simp [Addr.add]
          simp only [World.cell?] at q4
          cases hs : a.spot with
          | none => rfl
          | some x =>
            have e1 : ((a.add 0).add 0) = a := by simp [Addr.add]
            rw [e1, hs] at q4
            split at q4
            · simp at q4
            · cases q4
        have hb : a.block < w.heap.size := by
          have := World.cells?_block q1 h0
          simpa [Addr.add] using this
        obtain ⟨xs, cells, r1, r2, r3, r4, r5⟩ := rows_of (A := A) (s := e) hsp (hA _ hb) (fun cs d ps h => open_pc hA n' e u cs d ps he h) len key
        refine ⟨xs, ⟨some a, cap, by rw [r1], by rw [r1]; exact h1, fun _ => ⟨a, rfl, hsp, hA _ hb, cells, r2, r4⟩⟩, ?_, r5⟩
        rw [r1]
        omega
  | n + 1, _, t, cs, d, ps, .st (s := s) (fs := fs) ht hn hf, h => by
    obtain ⟨xs, n', hn', hx, hl, hlen, hget⟩ := DataW.trod_struct ht h
    obtain rfl : n' = n := by omega
    obtain ⟨x, h1, h2⟩ := fields_of (A := A) (cs := cs) (fun s t cs d ps hs h => open_pc hA n' s t cs d ps hs h) hf (by rw [hl, hn]; omega) (fun f hm => by
      obtain ⟨i, hi⟩ := List.getElem?_of_mem hm
      have := hget i f (by simpa using hi)
      have hi' : i < xs.length := by
        have := (List.getElem?_eq_some_iff.1 hi).1
        simp at this
        omega
      rw [List.getElem?_eq_getElem hi'] at this
      exact ⟨_, this⟩)
    exact ⟨x, by simpa only [List.drop_zero, PC] using h1, h2⟩
/-- A slice that came in. -/
theorem open_sl {A : Nat → Prop} {D : Nat → Prop} {E : Env} (hA : ∀ b, b < w.heap.size → A b) {e : Sh} {t : TypeId} {v : Value} {d : DataW H} {ps : List MemPlace} (hs : ShOK P (.sl e) t)
    (hval : Value.okWide P w .any 0 t v) (h : DataW.Trod enc P w 0 spare true t v d ps) : ∃ xs : List e.T, RepV D E A w (.psl e xs) v ∧ Wf (.sl e) xs := by
  obtain ⟨n, hn⟩ := h
  obtain ⟨u, ht⟩ : ∃ u, P.underlying t = some (.slice u) := by cases hs; exact ⟨_, ‹_›⟩
  obtain ⟨a, len, cap, rfl⟩ := WideShapes.okWide_slice ht hval
  obtain ⟨x, h1, h2⟩ := open_pc (A := A) hA n _ _ _ _ _ hs hn
  exact ⟨x, by simpa only [RepV, Value.cells] using h1, h2⟩
theorem trodAll_grown {W W' : World} (hg : RowKit.Grown W W') : ∀ {ts : List TypeId} {vs : List Value} {ds : List (DataW H)} {p : List MemPlace}, DataW.TrodAll enc P W 0 spare true ts vs ds p → (∀ x, x ∈ p → x.block < W.heap.size) → DataW.TrodAll enc P W' 0 spare true ts vs ds p
  | [], [], [], _, h, _ => h
  | t :: ts, v :: vs, d :: ds, _, ⟨p, q, ⟨n, h1⟩, h2, rfl⟩, hs => by
    refine ⟨p, q, ⟨n, DataW.trod_carry n _ _ _ h1 fun x hx => ?_⟩, trodAll_grown hg h2 fun x hx => hs x (by simp [hx]), rfl⟩
    have := hs x (by simp only [List.mem_append]; exact Or.inl hx)
    cases x with
    | cell b off => exact hg.1.cell this (fun h => h)
    | map b => exact hg.1.block this (fun p hp => hp.elim)
/-- The arguments read as before, behind a call that only makes new blocks. -/
theorem args_again {W W' : World} (K : Kids P (· < P.types.size)) (hz : ∀ t e, t < P.types.size → P.underlying t = some (.slice e) → 0 < P.cellsOf e) (hg : RowKit.Grown W W') {ts : List TypeId} {vs : List Value} {ds : List (DataW H)} {p : List MemPlace}
    (hT : ∀ t, t ∈ ts → t < P.types.size) (h : DataW.TrodAll enc P W 0 (fun _ => true) true ts vs ds p) (sp : Nat → Bool) (hs : ∀ x, x ∈ p → sp x.block = true) : DataW.TrodAll enc P W' 0 sp true ts vs ds p :=
  DataW.TrodAll.respare K hz hT (trodAll_grown hg h h.lt) hs
/-- A table of ints, as a row lays it. -/
theorem tab_list {k : IntKind} {e : TypeId} {m : Nat} (he : P.underlying e = some (.int k)) (hc : P.cellsOf e = 1) : ∀ (tab : List Int) (cs : List Value) (xs : List (DataW H × List MemPlace)), cs.length = tab.length → xs.map (·.1) = tab.map (fun z => DataW.lit (.int k z)) →
    (∀ i, i < tab.length → ∃ (held : Bool), DataW.trod enc P w 0 spare held m e ((cs.drop i).take 1) = xs[i]?) → cs = tab.map (fun z => .int k z)
  | [], cs, xs, h1, _, _ => by simpa using h1
  | z :: t, [], xs, h1, _, _ => by simp at h1
  | z :: t, c :: cs, [], h1, h2, _ => by simp at h2
  | z :: t, c :: cs, x :: xs, h1, h2, h3 => by
    simp only [List.map_cons, List.cons.injEq] at h2
    obtain ⟨held, h0⟩ := h3 0 (by simp)
    simp only [List.drop_zero, List.take_succ_cons, List.take_zero, List.getElem?_cons_zero] at h0
    obtain ⟨n, e1, e2, _⟩ := DataW.trod_int he h0
    have en : n = z := by
      have := h2.1
      rw [e2] at this
      simpa using this
    subst en
    simp only [List.cons.injEq, and_true] at e1
    subst e1
    rw [List.map_cons, ← tab_list he hc t cs xs (by simpa using h1) h2.2 fun i hi => by
      obtain ⟨held, h⟩ := h3 (i + 1) (by simpa using hi)
      exact ⟨held, by simpa using h⟩]
theorem tab_rows {A : Nat → Prop} {w' : World} {k : IntKind} : ∀ tab : List Int, RowsL (fun (x : Int) c => PC A w' (.int k) x c) tab (tab.map (fun z => Value.int k z))
  | [] => rfl
  | z :: t => ⟨[.int k z], t.map (fun z => Value.int k z), rfl, rfl, tab_rows t⟩
/-- What a listed table is to the evaluator. -/
theorem tab_of_laid {A : Nat → Prop} {n : String} {g : Nat} {t e : TypeId} {k : IntKind} {tab : List Int} {ps : List MemPlace} {ds : List (DataW Unit)} (hg : P.globalNamed n = some g) (ht : (P.globals[g]?).map (·.type) = some t)
    (hu : P.underlying t = some (.array tab.length e)) (he : P.underlying e = some (.int k)) (hc : P.cellsOf e = 1) (hct : P.cellsOf t = tab.length) (hd : DataW.agg ds = .agg (tab.map fun z => DataW.lit (.int k z)))
    (h : DataW.LaidVars P w [(n, .agg ds)] ps) : ∃ cells, RowsL (fun (x : Int) c => PC A w (.int k) x c) tab cells ∧ At w ⟨g, 0, none⟩ cells := by
  obtain ⟨g0, t0, cs0, f0, p0, q0, hg0, ht0, hv0, hd0, _, _⟩ := h
  obtain rfl := Option.some.inj (hg.symm.trans hg0)
  obtain rfl := Option.some.inj (ht.symm.trans ht0)
  obtain ⟨xs, m1, rfl, hx1, hlen, hn3, hel⟩ := DataW.trod_array hu hd0
  simp only [Prod.mk.injEq] at hx1
  have hl := tab_list he hc tab cs0.toList xs (by rw [hlen, hct]) (by
    have := hx1.1.symm.trans hd
    simpa using this) fun i hi => ⟨false, by
      have := hel i hi
      rw [hc, Nat.mul_one] at this
      exact this⟩
  refine ⟨_, tab_rows tab, fun j v hj => ?_⟩
  have := World.var?_cell hg hv0 j
  rw [← hl] at hj
  rw [show (⟨(⟨g, 0, none⟩ : Addr).block, (⟨g, 0, none⟩ : Addr).off + j, none⟩ : Addr) = ⟨g, j, none⟩ by simp, this]
  simpa using hj
end
end Go.Rx

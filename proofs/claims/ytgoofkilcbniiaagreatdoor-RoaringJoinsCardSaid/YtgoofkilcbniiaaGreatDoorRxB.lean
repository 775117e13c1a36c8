/- RxB: texts of one kind, laid side by side. -/
import Derived.Test.YtgoofkilcbniiaaGreatDoorRxA
/-! Rx, part 6: each operation, as the machine carries it out, comes to what the evaluator says. -/
namespace Go.Rx
set_option linter.unusedVariables false
set_option linter.unusedSimpArgs false

def tdOf : TypeDesc → TD
  | .int k => .int k
  | .bool => .bool
  | .string => .str
  | .slice e => .sl e
  | .pointer e => .ptr e
  | .struct fs => .st (fs.toList.map fun f => (f.offset, f.type))
  | .array n e => .arr n e
  | .func _ _ _ => .fn
  | _ => .other
/-- Zero cells of a shape. -/
def ZC : Sh → List Value → Prop
  | .int k, cs => cs = [.int k 0]
  | .bool, cs => cs = [.bool false]
  | .str, cs => cs = [.string (ByteArray.mk #[])]
  | .unit, cs => cs = []
  | .pair a b, cs => ∃ c1 c2, cs = c1 ++ c2 ∧ ZC a c1 ∧ ZC b c2
  | .st a, cs => ZC a cs
  | .sl _, cs => cs = [.slice none 0 0]
  | .ptr _, cs => cs = [.pointer none]
theorem ZC.pc {A : Nat → Prop} {w : World} : ∀ {s : Sh} {cs : List Value}, ZC s cs → PC A w s s.dflt cs
  | .int _, _, h => h
  | .bool, _, h => h
  | .str, _, h => h
  | .unit, _, h => h
  | .pair _ _, _, ⟨c1, c2, e, h1, h2⟩ => ⟨c1, c2, e, ZC.pc h1, ZC.pc h2⟩
  | .st a, _, h => ZC.pc (s := a) h
  | .sl _, _, h => ⟨none, 0, h, Nat.le_refl _, fun q => absurd rfl q⟩
  | .ptr _, _, h => h
def ZeroOK (ty : TypeId → Option TI) (ti : TI) (zs : List Value) : Prop :=
  match ti.nds with
  | true => 0 < ti.size
  | false => match ti.td with
  | .fn => True
  | .other => True
  | .arr n e => ∀ te, ty e = some te → n * te.size = ti.size ∧ (te.td ≠ .fn → ∀ A w, RowsL (fun x c => PC A w te.sh x c) (List.replicate n te.sh.dflt) zs)
  | _ => ZC ti.sh zs
inductive EqInts : List Value → List Value → Bool → Prop
  | one (k : IntKind) (a b : Int) : EqInts [.int k a] [.int k b] (a == b)
  | cons (k : IntKind) (a b : Int) (l r : List Value) (c : Bool) : EqInts l r c → EqInts (.int k a :: l) (.int k b :: r) ((a == b) && c)
structure TIOK (P : Program) (ty : TypeId → Option TI) (t : TypeId) (ti : TI) : Prop where
  td : (P.underlying t).map tdOf = some ti.td
  inf : (P.info? t).map (fun i => (i.size, i.bytes)) = some (ti.size, ti.bytes)
  zero : ∀ i, P.info? t = some i → ∃ z, i.zero = some z ∧ z.cells.size = ti.size ∧ ZeroOK ty ti z.cells.toList
  eqs : ti.eqs = true → P.eqGuardType P.depth t = false ∧ ∀ w (l r : List Value) c, EqInts l r c → l.length = ti.size → (Op.equal t (.agg l.toArray) (.agg r.toArray)).run P w = .ok c w

theorem TIOK.desc {P : Program} {ty : TypeId → Option TI} {t : TypeId} {ti : TI} (h : TIOK P ty t ti) : ∃ d, P.underlying t = some d ∧ tdOf d = ti.td := by
  have := h.td
  cases hd : P.underlying t with
  | none => rw [hd] at this; cases this
  | some d => rw [hd] at this; exact ⟨d, rfl, by simpa using this⟩
theorem TIOK.info {P : Program} {ty : TypeId → Option TI} {t : TypeId} {ti : TI} (h : TIOK P ty t ti) : ∃ i, P.info? t = some i ∧ i.size = ti.size ∧ i.bytes = ti.bytes := by
  have := h.inf
  cases hd : P.info? t with
  | none => rw [hd] at this; cases this
  | some d => rw [hd] at this; simp at this; exact ⟨d, rfl, this.1, this.2⟩

section
variable {C : Ctx} {S : AS} {E : Env} {a : Act} {w : World}

def OpWP (C : Ctx) (S : AS) (a : Act) (w : World) (o : Oper) (e : Eff) : Prop :=
  ∀ (K : Act → World → Prop) (Q : Exit → Act → World → Prop), (∀ x w' E', RepE C (S.setObjs e.ws) E' a w' → RepV (Dom (S.setObjs e.ws)) E' (Al C (S.setObjs e.ws) E' w') w' e.v x → K (a.put o.dst x) w') → o.wp C.P a w K Q
theorem OpWP.run {o : Oper} {e : Eff} {x : Value} {w' : World} {E' : Env} (hr : (execOp a.eval o).run C.P w = .ok (.value x) w') (h : RepE C (S.setObjs e.ws) E' a w')
    (hx : RepV (Dom (S.setObjs e.ws)) E' (Al C (S.setObjs e.ws) E' w') w' e.v x) : OpWP C S a w o e := by
  intro K Q hK
  unfold Oper.wp
  rw [hr]
  exact hK x w' E' h hx
theorem OpWP.pure (h : RepE C S E a w) {o : Oper} {v : AV} {rd : List Nat} {dec : List (Nat × Bool)} {x : Value} (hr : (execOp a.eval o).run C.P w = .ok (.value x) w)
    (hx : RepV (Dom S) E (Al C S E w) w v x) : OpWP C S a w o ⟨v, [], rd, dec⟩ := OpWP.run (e := ⟨v, [], rd, dec⟩) hr h hx

theorem leaf_ok {D : Nat → Prop} {E : Env} {A : Nat → Prop} {w : World} {v : Value} : RepV D E A w (ofLeaf v) v := by
  unfold ofLeaf
  split <;> simp [RepV, RepL]
theorem const_ok {D : Nat → Prop} {E : Env} {A : Nat → Prop} {w : World} {v : Value} : RepV D E A w (ofConst v) v := by
  unfold ofConst
  split
  · rename_i cs
    simp only [RepV]
    refine ⟨cs.toList, by simp, ?_⟩
    generalize cs.toList = l
    induction l with
    | nil => simp [RepL]
    | cons x l ih => simp only [List.map_cons, RepL]; exact ⟨x, l, rfl, leaf_ok, ih⟩
  · simp [RepV, RepL]
  · exact leaf_ok
theorem RepE.ev (h : RepE C S E a w) (x : Operand) : RepV (Dom S) E (Al C S E w) w (S.ev x) (a.eval x) := by
  cases x with
  | tmp t => exact h.t t
  | const v => exact const_ok
  | global g => simp [AS.ev, Act.eval, RepV]
  | func f => simp [AS.ev, Act.eval, RepV, RepL]
theorem RepE.evs (h : RepE C S E a w) : ∀ (l : List Operand), RepL (Dom S) E (Al C S E w) w (l.map S.ev) (l.map a.eval)
  | [] => by simp [RepL]
  | x :: l => by simp only [List.map_cons, RepL]; exact ⟨_, _, rfl, h.ev x, h.evs l⟩

theorem enc_ok {D : Nat → Prop} {E : Env} {A : Nat → Prop} {w : World} : ∀ {e : Sh} {x : e.T} {c : List Value}, PC A w e x c → RepL D E A w (enc e x) c
  | .int _, _, _, h => by simp only [enc, RepL, RepV]; exact ⟨_, [], h, rfl, rfl⟩
  | .bool, _, _, h => by simp only [enc, RepL, RepV]; exact ⟨_, [], h, rfl, rfl⟩
  | .str, _, _, h => by simp only [enc, RepL, RepV]; exact ⟨_, [], h, rfl, rfl⟩
  | .unit, _, _, h => by simp only [enc, RepL]; exact h
  | .pair a b, _, _, ⟨c1, c2, e, h1, h2⟩ => by simp only [enc]; exact repL_append.2 ⟨c1, c2, e, enc_ok h1, enc_ok h2⟩
  | .st a, _, _, h => by simp only [enc]; exact enc_ok (e := a) h
  | .sl e, _, _, h => by
    obtain ⟨ad, cap, e1, h1⟩ := id h
    subst e1
    simp only [enc, RepL, RepV]
    exact ⟨_, [], rfl, h, rfl⟩
  | .ptr e, x, _, h => by
    cases x with
    | none =>
      have e1 : _ = _ := h
      subst e1
      simp only [enc, RepL, RepV]
      exact ⟨_, [], rfl, h, rfl⟩
    | some x =>
      obtain ⟨ad, c, e1, h1⟩ := id h
      subst e1
      simp only [enc, RepL, RepV]
      exact ⟨_, [], rfl, h, rfl⟩

theorem cell_one {D : Nat → Prop} {E : Env} {A : Nat → Prop} {w : World} {v : AV} {x : Value} (h : RepV D E A w v x) (hv : v.cellB = true) : x.oneCell' = true ∧ x.cells = #[x] := by
  cases v <;> simp only [RepV] at h <;> first
    | (cases hv; done)
    | (subst h; exact ⟨rfl, rfl⟩)
    | skip
  case anyB => obtain ⟨_, e⟩ := h; subst e; exact ⟨rfl, rfl⟩
  case psl => obtain ⟨_, _, e, _⟩ := h; cases e; exact ⟨rfl, rfl⟩
  case ppt e x =>
    cases x with
    | none => have e1 : _ = _ := h; cases e1; exact ⟨rfl, rfl⟩
    | some x => obtain ⟨_, _, e, _⟩ := h; cases e; exact ⟨rfl, rfl⟩
  case own id => obtain ⟨_, rfl⟩ := h; exact ⟨rfl, rfl⟩
  case optr => obtain ⟨_, rfl⟩ := h; exact ⟨rfl, rfl⟩
  case oel => obtain ⟨_, _, rfl⟩ := h; exact ⟨rfl, rfl⟩
  case pel => obtain ⟨_, _, _, _, _, _, rfl⟩ := h; exact ⟨rfl, rfl⟩
  case pfl => obtain ⟨_, _, _, _, _, rfl⟩ := h; exact ⟨rfl, rfl⟩
  case fn => obtain ⟨_, _, rfl, _⟩ := h; exact ⟨rfl, rfl⟩
theorem cells_one {D : Nat → Prop} {E : Env} {A : Nat → Prop} {w : World} : ∀ {l : List AV} {vs : List Value}, RepL D E A w l vs → cellsB l = true → ∀ x ∈ vs, x.oneCell' = true
  | [], _, h, _ => by simp only [RepL] at h; subst h; simp
  | v :: l, _, h, hv => by
    simp only [RepL] at h
    obtain ⟨x, t, rfl, h1, h2⟩ := h
    have hc : v.cellB = true ∧ cellsB l = true := by
      simp only [cellsB] at hv
      split at hv
      · exact ⟨by assumption, hv⟩
      · cases hv
    intro y hy
    rcases List.mem_cons.1 hy with rfl | hy
    · exact (cell_one h1 hc.1).1
    · exact cells_one h2 hc.2 y hy
/-- A value's cells. -/
theorem cellsAV_ok {D : Nat → Prop} {E : Env} {A : Nat → Prop} {w : World} {v : AV} {x : Value} (h : RepV D E A w v x) (hv : cellsB (cellsAV v) = true) : RepL D E A w (cellsAV v) x.cells.toList := by
  by_cases hc : v.cellB = true
  · have h1 := (cell_one h hc).2
    have h2 : cellsAV v = [v] := by cases v <;> first | rfl | cases hc
    rw [h1, h2]
    simp only [RepL]
    exact ⟨x, [], rfl, h, rfl⟩
  · cases v <;> first | (exact absurd rfl hc) | skip
    · simp [cellsAV, cellsB, AV.cellB] at hv
    · simp [cellsAV, cellsB, AV.cellB] at hv
    · simp [cellsAV, cellsB, AV.cellB] at hv
    · simp [cellsAV, cellsB, AV.cellB] at hv
    · simp only [RepV] at h
      obtain ⟨vs, rfl, h1⟩ := h
      simpa [cellsAV, Value.cells] using h1
    · simp [cellsAV, cellsB, AV.cellB] at hv
theorem cells_pc {A : Nat → Prop} {w : World} : ∀ {e : Sh} {x : e.T} {c : List Value}, PC A w e x c → ∀ v ∈ c, v.oneCell' = true
  | .int _, _, _, h => by rw [show _ = _ from h]; simp [Value.oneCell']
  | .bool, _, _, h => by rw [show _ = _ from h]; simp [Value.oneCell']
  | .str, _, _, h => by rw [show _ = _ from h]; simp [Value.oneCell']
  | .unit, _, _, h => by rw [show _ = _ from h]; simp
  | .pair a b, _, _, ⟨c1, c2, e, h1, h2⟩ => by
    intro v hv
    rw [e] at hv
    rcases List.mem_append.1 hv with hv | hv
    · exact cells_pc h1 v hv
    · exact cells_pc h2 v hv
  | .st a, _, _, h => cells_pc (e := a) h
  | .sl e, _, _, ⟨_, _, e1, _⟩ => by rw [e1]; simp [Value.oneCell']
  | .ptr e, x, _, h => by
    cases x with
    | none => rw [show _ = _ from h]; simp [Value.oneCell']
    | some x => obtain ⟨_, _, e1, _⟩ := h; rw [e1]; simp [Value.oneCell']

/-! ### Loads -/
theorem isAgg_ok {P : Program} {ty : TypeId → Option TI} {t : TypeId} {ti : TI} (ht : TIOK P ty t ti) (w : World) : (isAgg t).run P w = .ok ti.td.isAgg w := by
  obtain ⟨d, hd, he⟩ := ht.desc
  simp only [isAgg, Sem.run_bind, run_underlying hd, Result.andThen_ok]
  rw [← he]
  cases d <;> rfl
theorem sizeOf_ok {P : Program} {ty : TypeId → Option TI} {t : TypeId} {ti : TI} (ht : TIOK P ty t ti) (w : World) : (sizeOf t).run P w = .ok ti.size w := by
  obtain ⟨i, hi, h1, _⟩ := ht.info
  simp [sizeOf, typeInfo, hi, h1]
theorem load_cells {D : Nat → Prop} {E : Env} {A : Nat → Prop} {P : Program} {ty : TypeId → Option TI} {t : TypeId} {ti : TI} (ht : TIOK P ty t ti) {b o off : Nat} {cs : List AV} {vs : List Value} {v : AV}
    (hp : pickCells ti.td.isAgg ti.size off cs = some v) (hc : RepL D E A w cs vs) (ha : ∀ j u, vs[j]? = some u → w.cell? ⟨b, o + j, none⟩ = some u) :
    ∃ x, (loadVar t ⟨b, o + off, none⟩).run P w = .ok x w ∧ RepV D E A w v x := by
  unfold pickCells at hp
  simp only [loadVar, Sem.run_bind, isAgg_ok ht, Result.andThen_ok]
  cases hagg : ti.td.isAgg with
  | true =>
    rw [hagg] at hp
    simp only at hp
    split at hp
    · rename_i hle
      cases hp
      have hle := Nat.le_of_ble_eq_true hle
      have hl := repL_length hc
      have hrun := run_loadCells_list (P := P) w ⟨b, o + off, none⟩ ((vs.drop off).take ti.size) (by
        intro j u hu
        rw [List.getElem?_take] at hu
        split at hu
        · rw [List.getElem?_drop] at hu
          rw [Addr.add_lit, Nat.add_assoc]
          exact ha _ _ hu
        · cases hu)
      have hlen : ((vs.drop off).take ti.size).length = ti.size := by simp; omega
      rw [hlen] at hrun
      refine ⟨.agg ((vs.drop off).take ti.size).toArray, by simp [sizeOf_ok ht, hrun], ?_⟩
      simp only [RepV]
      exact ⟨_, rfl, (repL_take ti.size (repL_take off hc).2).1⟩
    · cases hp
  | false =>
    rw [hagg] at hp
    simp only at hp
    obtain ⟨x, hx, hr⟩ := repL_get hc hp
    refine ⟨x, by simp [ha off x hx], hr⟩
/-- The element's own datum. -/
theorem getD_some {T : Type} {xs : List T} {i : Nat} {d : T} (h : i < xs.length) : xs[i]? = some (xs.getD i d) := by
  simp [List.getD, List.getElem?_eq_getElem h]
theorem row_at {A : Nat → Prop} {b o : Nat} {e : Sh} {xs : List e.T} {cells : List Value} (hr : RowsL (fun x c => PC A w e x c) xs cells) (ha : ∀ j u, cells[j]? = some u → w.cell? ⟨b, o + j, none⟩ = some u) {i : Nat} (hi : i < xs.length) :
    ∃ c, PC A w e (xs.getD i e.dflt) c ∧ ∀ j u, c[j]? = some u → w.cell? ⟨b, o + i * e.size + j, none⟩ = some u := by
  obtain ⟨c, h1, h2⟩ := RowsL.get (fun x c (h : PC A w e x c) => h.length) i _ hr (getD_some hi)
  exact ⟨c, h1, fun j u hu => by rw [Nat.add_assoc]; exact ha _ _ (h2 j u hu)⟩
/-- The cells of an object that is a row of data. -/
theorem row_of {id : Nat} {e : Sh} {xs : List e.T} (h : RepE C S E a w) (ho : (∃ en et, S.obj id = some (.grow en e et xs)) ∨ S.obj id = some (.arr e xs) ∨ S.obj id = some (.froz e xs)) :
    E.ln id = xs.length ∧ (xs ≠ [] → ∃ cells, RowsL (fun x c => PC (Al C S E w) w e x c) xs cells ∧ ∀ j u, cells[j]? = some u → w.cell? ⟨E.β id, 0 + j, none⟩ = some u) := by
  rcases ho with ⟨en, et, ho⟩ | ho | ho
  · obtain ⟨h1, h2⟩ := h.h.objs id _ ho
    refine ⟨h1, fun hx => ?_⟩
    rcases h2 with ⟨_, h3⟩ | ⟨cap, cur, cells, h3, h4, h5, h6, h7, h8, h9⟩
    · exact absurd h3 hx
    · refine ⟨cells, h8, fun j u hu => ?_⟩
      rw [← h9, List.getElem?_take] at hu
      split at hu
      · simp only [World.cell?, h4, Nat.zero_add]; simpa using hu
      · cases hu
  · obtain ⟨h1, cells, et, h2, h3⟩ := h.h.objs id _ ho
    exact ⟨h1, fun _ => ⟨cells, h3, fun j u hu => by simp only [World.cell?, h2, Nat.zero_add]; simpa using hu⟩⟩
  · obtain ⟨h1, h2, h3⟩ := h.h.objs id _ ho
    refine ⟨h1, fun hx => ?_⟩
    obtain ⟨ad, cap, e1, _, h4⟩ := h2
    obtain ⟨cap', e2⟩ := h3 hx
    obtain ⟨ad', e3, _, _, cells, h5, h6⟩ := h4 hx
    rw [e2] at e1
    cases e1
    cases e3
    exact ⟨cells, h5, h6⟩
theorem load_ok {G : Gl} {ti : TI} {t : TypeId} {x : Operand} {e : Eff} (h : RepE C S E a w) (ht : TIOK C.P G.ty t ti) {o : Oper} (ho : o.op = .load t x)
    (he : (evLoad S ti (S.ev x)).sat (· = e)) : OpWP C S a w o e := by
  have hx := h.ev x
  have fin : ∀ {b off : Nat} {v : AV} {rd : List Nat} {cs : List AV} {vs : List Value} {o' : Nat}, a.eval x = .pointer (some ⟨b, o' + off, none⟩) → pickCells ti.td.isAgg ti.size off cs = some v → RepL (Dom S) E (Al C S E w) w cs vs →
      (∀ j u, vs[j]? = some u → w.cell? ⟨b, o' + j, none⟩ = some u) → OpWP C S a w o ⟨v, [], rd, []⟩ := by
    intro b off v rd cs vs o' hv hp hc ha
    obtain ⟨y, hr, hy⟩ := load_cells (P := C.P) ht hp hc ha
    refine OpWP.pure h (x := y) ?_ hy
    simp [execOp, ho, Instr.loadAt, hv, Instr.sureAddr, hr]
  have row : ∀ {id i off : Nat} {e1 : Sh} {xs : List e1.T} {v : AV}, ((∃ en et, S.obj id = some (.grow en e1 et xs)) ∨ S.obj id = some (.arr e1 xs) ∨ S.obj id = some (.froz e1 xs)) → ∀ {sz : Nat}, i < E.ln id → a.eval x = .pointer (some ⟨E.β id, i * sz + off, none⟩) →
      sz = e1.size → pickCells ti.td.isAgg ti.size off (enc e1 (xs.getD i e1.dflt)) = some v → OpWP C S a w o ⟨v, [], [id], []⟩ := by
    intro id i off e1 xs v hob sz hi hv hsz hp
    obtain ⟨h1, h2⟩ := row_of h hob
    have hi' : i < xs.length := by omega
    obtain ⟨cells, h3, h4⟩ := h2 (by intro q; rw [q] at hi'; simp at hi')
    obtain ⟨c, h5, h6⟩ := row_at h3 h4 hi'
    refine fin (o' := 0 + i * e1.size) ?_ hp (enc_ok h5) h6
    rw [hv, hsz]
    simp
  unfold evLoad at he
  split at he
  · rename_i id off heq
    rw [heq] at hx
    simp only [RepV] at hx
    split at he
    · rename_i cs hob
      split at he
      · rename_i v hp
        cases he
        obtain ⟨vs, et, h1, h2⟩ := h.h.objs id _ hob
        refine fin (b := E.β id) (o' := 0) (by rw [hx.2]; simp) hp h2 (fun j u hu => ?_)
        simp only [World.cell?, h1, Nat.zero_add]
        simpa using hu
      · cases he
    · cases he
  · rename_i id sz i off heq
    rw [heq] at hx
    simp only [RepV] at hx
    split at he
    all_goals first | (cases he; done) | skip
    · rename_i hob
      split at he
      · rename_i v hb hp
        cases he
        exact row (.inl ⟨_, _, hob⟩) hx.2.1 hx.2.2 (Nat.eq_of_beq_eq_true hb) hp
      · cases he
    · rename_i hob
      split at he
      · rename_i v hb hp
        cases he
        exact row (.inr (.inl hob)) hx.2.1 hx.2.2 (Nat.eq_of_beq_eq_true hb) hp
      · cases he
    · rename_i hob
      split at he
      · rename_i v hb hp
        cases he
        exact row (.inr (.inr hob)) hx.2.1 hx.2.2 (Nat.eq_of_beq_eq_true hb) hp
      · cases he
  · rename_i e1 xs i off heq
    rw [heq] at hx
    simp only [RepV] at hx
    split at he
    · rename_i v hp
      cases he
      obtain ⟨ad, cells, h1, h2, h3, h4, h5⟩ := hx
      obtain ⟨c, h6, h7⟩ := row_at (b := ad.block) (o := ad.off) h2 h3 h4
      exact fin (o' := ad.off + i * e1.size) (by rw [h5, Nat.add_assoc]) hp (enc_ok h6) h7
    · cases he
  · rename_i e1 y off heq
    rw [heq] at hx
    simp only [RepV] at hx
    split at he
    · rename_i v hp
      cases he
      obtain ⟨ad, c, h1, h2, h3, h4⟩ := hx
      exact fin (o' := ad.off) h4 hp (enc_ok h2) h3
    · cases he
  · cases he

/-! ### Stores -/
theorem OpWP.unit {o : Oper} {e : Eff} {w' : World} {E' : Env} (hr : (execOp a.eval o).run C.P w = .ok .skip w') (h : RepE C (S.setObjs e.ws) E' a w') (hv : e.v = .unk) : OpWP C S a w o e := by
  intro K Q hK
  unfold Oper.wp
  rw [hr]
  exact hK undef w' E' h (by rw [hv]; simp [RepV])
theorem storeVar_ok {P : Program} {ty : TypeId → Option TI} {t : TypeId} {ti : TI} (ht : TIOK P ty t ti) {g off : Nat} {cur : Array Value} {et : TypeId} {v : Value} (hg : w.heap[g]? = some (.cells cur et (0, 0)))
    (hs : v.cells.size = ti.size) (hf : off + ti.size ≤ cur.size) (h1 : ∀ x ∈ v.cells.toList, x.oneCell' = true) :
    (storeVar t ⟨g, off, none⟩ v).run P w = .ok () (w.setRow g (cur.toList.take off ++ v.cells.toList ++ cur.toList.drop (off + ti.size)).toArray) := by
  have hst := run_storeCells_at P g off et v.cells.toList 0 cur w hg (by simp; omega) h1
  simp only [Nat.add_zero, Array.length_toList, hs] at hst
  simp only [storeVar, Sem.run_bind, sizeOf_ok ht, Result.andThen_ok, Sem.run_ite, hs]
  simp only [ne_eq, not_true_eq_false, if_false]
  exact hst
theorem repL_splice {D : Nat → Prop} {E : Env} {A : Nat → Prop} {l r : List AV} {vs us : List Value} (off : Nat) (h : RepL D E A w l vs) (h2 : RepL D E A w r us) :
    RepL D E A w (splice l off r) (vs.take off ++ us ++ vs.drop (off + us.length)) := by
  unfold splice
  rw [repL_length h2]
  exact repL_append.2 ⟨_, _, rfl, repL_append.2 ⟨_, _, rfl, (repL_take off h).1, h2⟩, (repL_take _ h).2⟩
theorem dataAll_ok {m : Nat} {h : Nat → Option Obj} {e : Sh} {l : List AV} {d : DC e} (q : dataAll m h e l = some d) : dataC m h e l = some d ∧ d.rest = [] := by
  unfold dataAll at q
  split at q
  · rename_i hd
    cases q
    exact ⟨hd, rfl⟩
  · cases q
theorem Free.of {m : Nat} {id : Nat} {o : Obj} (hm : m = C.m) (h : FreeM m id o) : Free C id o := by
  subst hm
  cases o <;> exact h
/-- Cells taken for data: what they hold is given up. -/
theorem RepE.data (h : RepE C S E a w) {m : Nat} (hm : m = C.m) {e : Sh} {l : List AV} {vs : List Value} {d : DC e} (hd : dataAll m S.obj e l = some d) (hl : RepL (Dom S) E (Al C S E w) w l vs) :
    RepE C (S.setObjs (frz S.obj d.vis)) E a w ∧ Ext (Dom S) E (Al C S E w) w (Dom (S.setObjs (frz S.obj d.vis))) E (Al C (S.setObjs (frz S.obj d.vis)) E w) w ∧
      PC (Al C (S.setObjs (frz S.obj d.vis)) E w) w e d.x vs := by
  obtain ⟨hd, hr⟩ := dataAll_ok hd
  obtain ⟨h1, h2, h3⟩ := h.release d.vis (fun id o hi ho => Free.of hm (data_free e l d hd id o hi ho))
  refine ⟨h1, h2, ?_⟩
  obtain ⟨c, r, rfl, h4, h5⟩ := data_sound h.h.objs (fun b hb => (h2.a b hb).1) e l vs d hd hl h3
  rw [hr] at h4
  simp only [RepL] at h4
  subst h4
  rw [List.append_nil]
  exact h5
theorem hasId_iff {l : List Nat} {n : Nat} : hasId l n = true ↔ n ∈ l := by
  induction l with
  | nil => simp [hasId]
  | cons a l ih =>
    unfold hasId
    cases hb : Nat.beq a n with
    | true => simp [(Nat.eq_of_beq_eq_true hb).symm]
    | false =>
      have : n ≠ a := fun e => by rw [e, Nat.beq_refl] at hb; cases hb
      simp [ih, this]
theorem cut3 {α : Type} (l : List α) (p n : Nat) (h : p + n ≤ l.length) : ∃ A B D, l = A ++ B ++ D ∧ A.length = p ∧ B.length = n := by
  refine ⟨l.take p, (l.drop p).take n, (l.drop p).drop n, ?_, ?_, ?_⟩
  · rw [List.append_assoc, List.take_append_drop, List.take_append_drop]
  · simp; omega
  · simp; omega
theorem splice_cells {α : Type} (cur cells c v : List α) (L p n off : Nat) (hc : cur.take L = cells) (hL : L ≤ cur.length) (hp : p + n ≤ L) (hcn : c.length = n) (hcc : ∀ j, j < n → cells[p + j]? = c[j]?) (hv : off + v.length ≤ n) :
    (cur.take (p + off) ++ v ++ cur.drop (p + off + v.length)).take L = cells.take p ++ (c.take off ++ v ++ c.drop (off + v.length)) ++ cells.drop (p + n) := by
  have hcl : cells.length = L := by rw [← hc, List.length_take]; omega
  obtain ⟨A, B, D, e1, e2, e3⟩ := cut3 cells p n (by omega)
  have hB : B = c := by
    apply List.ext_getElem?
    intro j
    by_cases hj : j < n
    · rw [← hcc j hj, e1, List.append_assoc, List.getElem?_append_right (by omega), List.getElem?_append_left (by omega)]
      congr 1
      omega
    · rw [List.getElem?_eq_none (by omega), List.getElem?_eq_none (by omega)]
  subst hB
  obtain ⟨c1, c2, c3, f1, f2, f3⟩ := cut3 B off v.length (by omega)
  obtain ⟨T, hT⟩ : ∃ T, cur = cells ++ T := ⟨cur.drop L, by rw [← hc, List.take_append_drop]⟩
  have e4 : cur = (A ++ c1) ++ (c2 ++ (c3 ++ D ++ T)) := by rw [hT, e1, f1]; simp
  have l1 : (A ++ c1).length = p + off := by simp; omega
  have t1 : cur.take (p + off) = A ++ c1 := by rw [e4, ← l1, List.take_left]
  have t2 : cur.drop (p + off + v.length) = c3 ++ D ++ T := by rw [e4, ← List.drop_drop, ← l1, List.drop_left, ← f3, List.drop_left]
  have t3 : cells.take p = A := by rw [e1, ← e2, List.append_assoc, List.take_left]
  have t4 : cells.drop (p + n) = D := by rw [e1, ← List.drop_drop, ← e2, List.append_assoc, List.drop_left, ← e3, List.drop_left]
  have t5 : B.take off = c1 := by rw [f1, ← f2, List.append_assoc, List.take_left]
  have t6 : B.drop (off + v.length) = c3 := by rw [f1, ← List.drop_drop, ← f2, List.append_assoc, List.drop_left, ← f3, List.drop_left]
  rw [t1, t2, t3, t4, t5, t6]
  have l2 : (A ++ (c1 ++ v ++ c3) ++ D).length = L := by
    rw [← hcl, e1, f1]
    simp
    omega
  rw [show A ++ c1 ++ v ++ (c3 ++ D ++ T) = (A ++ (c1 ++ v ++ c3) ++ D) ++ T by simp, ← l2, List.take_left]
theorem store_row {G : Gl} {ti : TI} {t : TypeId} {x y : Operand} (hm : G.m = C.m) (h : RepE C S E a w) (ht : TIOK C.P G.ty t ti) {o : Oper} (ho : o.op = .store t x y)
    (hlen : (a.eval y).cells.size = ti.size) (hone : ∀ x ∈ (a.eval y).cells.toList, x.oneCell' = true) {vs : List AV} (hcs : RepL (Dom S) E (Al C S E w) w vs (a.eval y).cells.toList)
    {id i off : Nat} {e1 : Sh} {xs : List e1.T} {o1 : Obj} (o2 : List e1.T → Obj) {d : DC e1} {cur : Array Value} {et : TypeId} {cells : List Value}
    (hob : S.obj id = some o1) (hown : Owns E id o1) (hent : ∀ xs, Entry C id o1 → Entry C id (o2 xs)) (hi : i < xs.length) (hv : a.eval x = .pointer (some ⟨E.β id, i * e1.size + off, none⟩))
    (hoff : off + vs.length ≤ e1.size) (hheap : w.heap[E.β id]? = some (.cells cur et (0, 0))) (hrows : RowsL (fun x c => PC (Al C S E w) w e1 x c) xs cells)
    (htake : cur.toList.take (xs.length * e1.size) = cells) (hle : xs.length * e1.size ≤ cur.size)
    (hd : dataAll G.m S.obj e1 (splice (enc e1 (xs.getD i e1.dflt)) off vs) = some d) (hvis : id ∉ d.vis)
    (hmk : ∀ (D' A' : Nat → Prop) (w' : World) (cells' : List Value) (cur' : Array Value), cur'.size = cur.size → w'.heap[E.β id]? = some (.cells cur' et (0, 0)) → RowsL (fun x c => PC A' w' e1 x c) (xs.set i d.x) cells' →
      cur'.toList.take (xs.length * e1.size) = cells' → RepO D' E A' w' id (o2 (xs.set i d.x))) :
    OpWP C S a w o ⟨.unk, (id, o2 (xs.set i d.x)) :: frz S.obj d.vis, id :: d.vis, []⟩ := by
  obtain ⟨c, h5, h6⟩ := RowsL.get (fun x c (h : PC (Al C S E w) w e1 x c) => h.length) i _ hrows (getD_some (d := e1.dflt) hi)
  have hcl := h5.length
  have hnew := repL_splice off (enc_ok (D := Dom S) (E := E) h5) hcs
  obtain ⟨r1, r2, r3⟩ := h.data hm hd hnew
  have hvl : vs.length = ti.size := by rw [← repL_length hcs, ← hlen]; simp
  have h7 : (i + 1) * e1.size ≤ xs.length * e1.size := Nat.mul_le_mul_right _ hi
  rw [Nat.succ_mul] at h7
  have hst := storeVar_ok ht (off := i * e1.size + off) (v := a.eval y) hheap hlen (by omega) hone
  obtain ⟨cur', hcur'⟩ : ∃ c, c = (cur.toList.take (i * e1.size + off) ++ (a.eval y).cells.toList ++ cur.toList.drop (i * e1.size + off + ti.size)).toArray := ⟨_, rfl⟩
  rw [← hcur'] at hst
  have hyl : (a.eval y).cells.toList.length = ti.size := by simpa using hlen
  have hcsz : cur'.size = cur.size := by
    rw [hcur']
    simp
    omega
  have hob1 : (S.setObjs (frz S.obj d.vis)).obj id = some o1 := by rw [obj_frz, if_neg hvis]; exact hob
  have hw := r1.write (o' := o2 (xs.set i d.x)) (w' := w.setRow (E.β id) cur') hob1 hown (hent _) (later_setRow _ _ _) (by simp) (fun k hk => setRow_other w _ _ _ hk) (by
    intro D' A' ext
    have hrows' := RowsL.set (fun x c (h : PC (Al C (S.setObjs (frz S.obj d.vis)) E w) w e1 x c) => h.length) i d.x _ (hrows.imp (fun _ _ => r2.pc)) hi r3
    refine hmk D' A' _ _ cur' hcsz (setRow_heap w _ _ _ _ _ hheap) (hrows'.imp (fun _ _ => ext.pc)) ?_
    have := splice_cells cur.toList cells c (a.eval y).cells.toList (xs.length * e1.size) (i * e1.size) e1.size off htake (by simpa using hle) (by omega) hcl (fun j hj => by
      have q : c[j]? = some (c[j]'(by omega)) := List.getElem?_eq_getElem _
      rw [q]
      exact h6 j _ q) (by omega)
    rw [hyl] at this ⊢
    rw [hcur']
    simpa using this)
  refine OpWP.unit (w' := w.setRow (E.β id) cur') (E' := E) ?_ hw.1 rfl
  simp [execOp, ho, Instr.storeAt, hv, Instr.sureAddr, hst]
theorem store_ok {G : Gl} {ti : TI} {t : TypeId} {x y : Operand} {e : Eff} (hm : G.m = C.m) (h : RepE C S E a w) (ht : TIOK C.P G.ty t ti) {o : Oper} (ho : o.op = .store t x y)
    (he : (evStore G.m S ti (S.ev x) (S.ev y)).sat (· = e)) : OpWP C S a w o e := by
  have hx := h.ev x
  have hy := h.ev y
  unfold evStore at he
  split at he
  case h_2 => cases he
  rename_i hsz hcb
  have hsz := Nat.eq_of_beq_eq_true hsz
  have hcs := cellsAV_ok hy hcb
  have hlen : (a.eval y).cells.size = ti.size := by rw [← hsz, ← repL_length hcs]; simp
  have hone := cells_one hcs hcb
  split at he
  · rename_i id off heq
    rw [heq] at hx
    simp only [RepV] at hx
    split at he
    · rename_i cs hob
      split at he
      · rename_i hle
        cases he
        have hle := Nat.le_of_ble_eq_true hle
        obtain ⟨vs, et, h1, h2⟩ := h.h.objs id _ hob
        have hl := repL_length h2
        have hst := storeVar_ok ht (v := a.eval y) (off := off) h1 hlen (by simp; omega) hone
        have hyl : (a.eval y).cells.toList.length = ti.size := by simpa using hlen
        have hw := h.write (o' := .cells (splice cs off (cellsAV (S.ev y)))) (w' := w.setRow (E.β id) _) hob trivial (fun q => q) (later_setRow _ _ _) (by simp) (fun k hk => setRow_other w _ _ _ hk) (by
          intro D' A' ext
          refine ⟨vs.take off ++ (a.eval y).cells.toList ++ vs.drop (off + ti.size), et, setRow_heap w _ _ _ _ _ h1, ?_⟩
          have := repL_splice off (ext.repL h2) (ext.repL hcs)
          rw [hyl] at this
          exact this)
        refine OpWP.unit (w' := _) (E' := E) ?_ hw.1 rfl
        simp [execOp, ho, Instr.storeAt, hx.2, Instr.sureAddr, hst]
      · cases he
    · cases he
  · rename_i id sz i off heq
    rw [heq] at hx
    simp only [RepV] at hx
    split at he
    · rename_i en e1 et xs hob
      split at he
      · rename_i d hb hle hd
        split at he
        · rename_i hvis
          cases he
          have hb := Nat.eq_of_beq_eq_true hb
          subst hb
          have hle := Nat.le_of_ble_eq_true hle
          obtain ⟨q1, q2⟩ := h.h.objs id _ hob
          have hi : i < xs.length := by omega
          rcases q2 with ⟨_, q3⟩ | ⟨cap, cur, cells, q3, q4, q5, q6, q7, q8, q9⟩
          · rw [q3] at hi; simp at hi
          · refine store_row hm h ht ho hlen hone hcs (fun xs => .grow en e1 et xs) hob (by simp only [Owns]; rw [q3]; simp) (fun xs q => q) hi hx.2.2 hle q4 q8 q9 (by rw [q7]; exact Nat.mul_le_mul_right _ q5) hd
              (fun q => by rw [hasId_iff.2 q] at hvis; cases hvis) ?_
            intro D' A' w' cells' cur' r1 r2 r3 r4
            refine ⟨by simpa using q1, .inr ⟨cap, cur', cells', by simpa using q3, r2, by simpa using q5, q6, by rw [r1]; exact q7, r3, by simpa using r4⟩⟩
        · cases he
      · cases he
    · rename_i e1 xs hob
      split at he
      · rename_i d hb hle hd
        split at he
        · rename_i hvis
          cases he
          have hb := Nat.eq_of_beq_eq_true hb
          subst hb
          have hle := Nat.le_of_ble_eq_true hle
          obtain ⟨q1, cells, et, q2, q3⟩ := h.h.objs id _ hob
          have hi : i < xs.length := by omega
          have hl := q3.length (fun x c h => h.length)
          refine store_row hm h ht ho hlen hone hcs (fun xs => .arr e1 xs) hob trivial (fun xs q => q) hi hx.2.2 hle q2 q3 (by simp [← hl]) (by simp [hl]) hd
            (fun q => by rw [hasId_iff.2 q] at hvis; cases hvis) ?_
          intro D' A' w' cells' cur' r1 r2 r3 r4
          have hl' := r3.length (fun x c h => h.length)
          refine ⟨by simpa using q1, cells', et, ?_, r3⟩
          have : cur' = cells'.toArray := by
            rw [← r4, ← hl]
            have : cur'.size = cells.length := by simpa using r1
            rw [← this]
            apply Array.ext'
            show cur'.toList = List.take cur'.size cur'.toList
            rw [List.take_of_length_le (by simp)]
          rw [← this]
          exact r2
        · cases he
      · cases he
    · cases he
  · cases he
end
end Go.Rx
/-! Rx, part 7: the operations that only compute. -/
namespace Go.Rx
set_option linter.unusedVariables false
set_option linter.unusedSimpArgs false
section
variable {C : Ctx} {S : AS} {E : Env} {a : Act} {w : World}

theorem move_ok {x : Operand} (h : RepE C S E a w) {o : Oper} (ho : o.op = .move x ∨ o.op = .assign x) {rd : List Nat} {dec : List (Nat × Bool)} : OpWP C S a w o ⟨S.ev x, [], rd, dec⟩ := by
  refine OpWP.pure h (x := a.eval x) ?_ (h.ev x)
  rcases ho with ho | ho <;> simp [execOp, ho]
theorem pick_ok {c x y : Operand} (h : RepE C S E a w) {o : Oper} (ho : o.op = .pick c x y) {b : Bool} (hb : a.eval c = .bool b) {rd : List Nat} {dec : List (Nat × Bool)} :
    OpWP C S a w o ⟨match b with | true => S.ev x | false => S.ev y, [], rd, dec⟩ := by
  cases b with
  | true => exact OpWP.pure h (x := a.eval x) (by simp [execOp, ho, asBool, hb]) (h.ev x)
  | false => exact OpWP.pure h (x := a.eval y) (by simp [execOp, ho, asBool, hb]) (h.ev y)
theorem nilCheck_ok {x : Operand} {e : Eff} (h : RepE C S E a w) {o : Oper} (ho : o.op = .nilCheck x) (G : Gl) (nid : Nat) (he : (evOp G S nid (.nilCheck x)).sat (· = e)) : OpWP C S a w o e := by
  have hx := h.ev x
  simp only [evOp] at he
  split at he <;> rename_i heq <;> (try (cases he; done)) <;> rw [heq] at hx
  all_goals first
    | (cases he
       refine OpWP.pure h (x := a.eval x) ?_ hx
       simp only [RepV] at hx
       first
         | (obtain ⟨_, q⟩ := hx; simp [execOp, ho, q]; done)
         | (obtain ⟨_, _, q⟩ := hx; simp [execOp, ho, q]; done)
         | (obtain ⟨_, _, _, _, _, _, q⟩ := hx; simp [execOp, ho, q]; done)
         | (obtain ⟨_, _, _, _, _, q⟩ := hx; simp [execOp, ho, q]; done)
         | (obtain ⟨_, _, q, _⟩ := hx; simp [execOp, ho, q]; done))
    | skip
  rename_i e1 y
  obtain ⟨r, hr, he⟩ := he
  cases he
  subst hr
  simp only [RepV] at hx
  obtain ⟨ad, c, q1, q2, q3, q4, q5⟩ := hx
  have q1 : a.eval x = .pointer (some ad) := by simpa using q1
  refine OpWP.pure h (x := a.eval x) (by simp [execOp, ho, q1]) ?_
  simp only [RepV]
  refine ⟨ad, c, q3, q4, q5, ?_⟩
  rw [q1]
  obtain ⟨b, off, spot⟩ := ad
  simp only at q2
  subst q2
  rfl
theorem eqCells_ok {D : Nat → Prop} {A : Nat → Prop} : ∀ {l r : List AV} {c : Bool} {vs us : List Value}, eqCells l r = some c → RepL D E A w l vs → RepL D E A w r us → EqInts vs us c
  | [], _, _, _, _, h, _, _ => by simp [eqCells] at h
  | .int k x :: l, [], _, _, _, h, _, _ => by cases l <;> simp [eqCells] at h
  | .int k x :: l, v :: r, c, vs, us, h, h1, h2 => by
    cases v <;> first | (cases l <;> simp [eqCells] at h; done) | skip
    rename_i k' y
    simp only [RepL, RepV] at h1 h2
    obtain ⟨_, t, rfl, rfl, h3⟩ := h1
    obtain ⟨_, u, rfl, rfl, h4⟩ := h2
    cases l with
    | nil =>
      cases r with
      | nil =>
        simp only [RepL] at h3 h4
        subst h3 h4
        simp only [eqCells] at h
        split at h
        · rename_i q _
          subst q
          cases h
          exact EqInts.one _ _ _
        · cases h
      | cons v' r' =>
        simp only [eqCells] at h
        split at h
        · rename_i q1 q2
          exact absurd q2 (by simp)
        · cases h
    | cons v' l' =>
      have h' : (match decEq k k', eqCells (v' :: l') r with | isTrue _, some c => some (decide (x = y) && c) | _, _ => none) = some c := by
        cases r <;> exact h
      split at h'
      · rename_i q c' _ hc
        subst q
        cases h'
        exact EqInts.cons _ _ _ _ _ _ (eqCells_ok hc h3 h4)
      · cases h'
  | .unk :: _, _, _, _, _, h, _, _ => by simp [eqCells] at h
  | .undef :: _, _, _, _, _, h, _, _ => by simp [eqCells] at h
  | .anyB :: _, _, _, _, _, h, _, _ => by simp [eqCells] at h
  | .zb _ :: _, _, _, _, _, h, _, _ => by simp [eqCells] at h
  | .bool _ :: _, _, _, _, _, h, _, _ => by simp [eqCells] at h
  | .str _ :: _, _, _, _, _, h, _, _ => by simp [eqCells] at h
  | .nilsl :: _, _, _, _, _, h, _, _ => by simp [eqCells] at h
  | .nilptr :: _, _, _, _, _, h, _, _ => by simp [eqCells] at h
  | .glob _ :: _, _, _, _, _, h, _, _ => by simp [eqCells] at h
  | .psl _ _ :: _, _, _, _, _, h, _, _ => by simp [eqCells] at h
  | .ppt _ _ :: _, _, _, _, _, h, _, _ => by simp [eqCells] at h
  | .own _ :: _, _, _, _, _, h, _, _ => by simp [eqCells] at h
  | .optr _ _ :: _, _, _, _, _, h, _, _ => by simp [eqCells] at h
  | .oel _ _ _ _ :: _, _, _, _, _, h, _, _ => by simp [eqCells] at h
  | .otl _ _ _ :: _, _, _, _, _, h, _, _ => by simp [eqCells] at h
  | .pel _ _ _ _ :: _, _, _, _, _, h, _, _ => by simp [eqCells] at h
  | .pfl _ _ _ :: _, _, _, _, _, h, _, _ => by simp [eqCells] at h
  | .fn _ _ _ :: _, _, _, _, _, h, _, _ => by simp [eqCells] at h
  | .agg _ :: _, _, _, _, _, h, _, _ => by simp [eqCells] at h
  | .tup _ :: _, _, _, _, _, h, _, _ => by simp [eqCells] at h
theorem run_eq_bool {P : Program} {t : TypeId} (hd : P.underlying t = some .bool) (p q : Bool) (w : World) : (Op.equal t (.bool p) (.bool q)).run P w = .ok (p == q) w := by
  have : ∀ n, (Op.equalIn (n + 1) t (.bool p) (.bool q)).run P w = .ok (p == q) w := fun n => by simp [Op.equalIn, run_underlying hd]
  exact this 9999
theorem run_eq_nil {P : Program} {t el : TypeId} (hd : P.underlying t = some (.pointer el)) (p : Option Addr) (w : World) : (Op.equal t (.pointer p) (.pointer none)).run P w = .ok p.isNone w := by
  have : ∀ n, (Op.equalIn (n + 1) t (.pointer p) (.pointer none)).run P w = .ok p.isNone w := fun n => by cases p <;> simp [Op.equalIn, run_underlying hd]
  exact this 9999
theorem run_eq_nilsl {P : Program} {t el : TypeId} (hd : P.underlying t = some (.slice el)) (p : Option Addr) (l c l' c' : Nat) (w : World) : (Op.equal t (.slice p l c) (.slice none l' c')).run P w = .ok p.isNone w := by
  have : ∀ n, (Op.equalIn (n + 1) t (.slice p l c) (.slice none l' c')).run P w = .ok p.isNone w := fun n => by cases p <;> simp [Op.equalIn, run_underlying hd]
  exact this 9999
set_option maxHeartbeats 1000000 in
theorem bin_ok {G : Gl} {op : BinOp} {t t' : TypeId} {ti : TI} {x y : Operand} {e : Eff} (h : RepE C S E a w) (ht : TIOK C.P G.ty t ti) {o : Oper} (ho : o.op = .binOp op t x y t')
    (he : (evBin op ti (S.ev x) (S.ev y)).sat (· = e)) : OpWP C S a w o e := by
  have hx := h.ev x
  have hy := h.ev y
  obtain ⟨d, hd, htd⟩ := ht.desc
  unfold evBin at he
  split at he
  · rename_i k p k' q hex hey
    rw [hex] at hx
    rw [hey] at hy
    simp only [RepV] at hx hy
    split at he
    · obtain ⟨hb, he⟩ := he
      cases he
      have hb : ¬ q < 0 := by simpa using hb
      exact OpWP.pure h (x := .int k (shlI k p q)) (by simp [execOp, ho, hx, hy, eqGuard, binOp, Op.shift, hb, shlI]) (by simp [RepV])
    · obtain ⟨hb, he⟩ := he
      cases he
      have hb : ¬ q < 0 := by simpa using hb
      exact OpWP.pure h (x := .int k (shrI k p q)) (by simp [execOp, ho, hx, hy, eqGuard, binOp, Op.shift, hb, shrI]) (by simp [RepV])
    · split at he
      · cases he
      · rename_i hk _
        subst hk
        split at he
        all_goals first | (cases he; done) | skip
        · cases he; exact OpWP.pure h (x := .int k (k.wrap (p + q))) (by simp [execOp, ho, hx, hy, eqGuard, binOp, Op.intArith]) (by simp [RepV])
        · cases he; exact OpWP.pure h (x := .int k (k.wrap (p - q))) (by simp [execOp, ho, hx, hy, eqGuard, binOp, Op.intArith]) (by simp [RepV])
        · cases he; exact OpWP.pure h (x := .int k (k.wrap (p * q))) (by simp [execOp, ho, hx, hy, eqGuard, binOp, Op.intArith]) (by simp [RepV])
        · obtain ⟨hb, he⟩ := he
          cases he
          have hb : ¬ q = 0 := by simpa using hb
          exact OpWP.pure h (x := .int k (k.wrap (p.tdiv q))) (by simp [execOp, ho, hx, hy, eqGuard, binOp, Op.intDiv, hb]) (by simp [RepV])
        · obtain ⟨hb, he⟩ := he
          cases he
          have hb : ¬ q = 0 := by simpa using hb
          exact OpWP.pure h (x := .int k (p.tmod q)) (by simp [execOp, ho, hx, hy, eqGuard, binOp, Op.intDiv, hb]) (by simp [RepV])
        · cases he; exact OpWP.pure h (x := .int k (bitsI .and k p q)) (by simp [execOp, ho, hx, hy, eqGuard, binOp, Op.intBits, bitsI_eq, bitsD]) (by simp [RepV])
        · cases he; exact OpWP.pure h (x := .int k (bitsI .or k p q)) (by simp [execOp, ho, hx, hy, eqGuard, binOp, Op.intBits, bitsI_eq, bitsD]) (by simp [RepV])
        · cases he; exact OpWP.pure h (x := .int k (bitsI .xor k p q)) (by simp [execOp, ho, hx, hy, eqGuard, binOp, Op.intBits, bitsI_eq, bitsD]) (by simp [RepV])
        · cases he; exact OpWP.pure h (x := .int k (bitsI .andNot k p q)) (by simp [execOp, ho, hx, hy, eqGuard, binOp, Op.intBits, bitsI_eq, bitsD]) (by simp [RepV])
        · cases he; exact OpWP.pure h (x := .bool (decide (p = q))) (by simp [execOp, ho, hx, hy, eqGuard, binOp, Op.intCmp]; rfl) (by simp [RepV])
        · cases he; exact OpWP.pure h (x := .bool (!decide (p = q))) (by simp [execOp, ho, hx, hy, eqGuard, binOp, Op.intCmp]; rfl) (by simp [RepV])
        · cases he; exact OpWP.pure h (x := .bool (decide (p < q))) (by simp [execOp, ho, hx, hy, eqGuard, binOp, Op.intCmp]) (by simp [RepV])
        · cases he; exact OpWP.pure h (x := .bool (decide (p ≤ q))) (by simp [execOp, ho, hx, hy, eqGuard, binOp, Op.intCmp]) (by simp [RepV])
        · cases he; exact OpWP.pure h (x := .bool (decide (q < p))) (by simp [execOp, ho, hx, hy, eqGuard, binOp, Op.intCmp]) (by simp [RepV])
        · cases he; exact OpWP.pure h (x := .bool (decide (q ≤ p))) (by simp [execOp, ho, hx, hy, eqGuard, binOp, Op.intCmp]) (by simp [RepV])
  · rename_i p q hex hey
    rw [hex] at hx
    rw [hey] at hy
    simp only [RepV] at hx hy
    split at he
    · rename_i hti
      cases he
      have : d = .bool := by rw [hti] at htd; cases d <;> simp [tdOf] at htd ⊢
      subst this
      exact OpWP.pure h (x := .bool (p == q)) (by simp [execOp, ho, hx, hy, eqGuard, binOp, run_eq_bool hd]) (by simp [RepV])
    · rename_i hti
      cases he
      have : d = .bool := by rw [hti] at htd; cases d <;> simp [tdOf] at htd ⊢
      subst this
      exact OpWP.pure h (x := .bool (!(p == q))) (by simp [execOp, ho, hx, hy, eqGuard, binOp, run_eq_bool hd]) (by simp [RepV])
    · cases he
  · rename_i p q hex hey
    rw [hex] at hx
    rw [hey] at hy
    simp only [RepV] at hx hy
    split at he
    · cases he; exact OpWP.pure h (x := .bool (p.toList == q.toList)) (by simp [execOp, ho, hx, hy, eqGuard, binOp, Op.stringOp]) (by simp [RepV])
    · cases he; exact OpWP.pure h (x := .bool (!(p.toList == q.toList))) (by simp [execOp, ho, hx, hy, eqGuard, binOp, Op.stringOp]) (by simp [RepV])
    · cases he
  · rename_i e1 q hex hey
    rw [hex] at hx
    rw [hey] at hy
    simp only [RepV] at hx hy
    have hpt : ∀ {el}, ti.td = .ptr el → ∃ el, d = .pointer el := by
      intro el hti
      rw [hti] at htd
      cases d <;> simp [tdOf] at htd ⊢
    cases q with
    | none =>
      have hx : a.eval x = .pointer none := by have q : [a.eval x] = [_] := hx; simpa using q
      split at he
      · rename_i hti; obtain ⟨el, rfl⟩ := hpt hti
        cases he
        exact OpWP.pure h (x := .bool true) (by simp [execOp, ho, hx, hy, eqGuard, binOp, run_eq_nil hd]) (by simp [RepV])
      · rename_i hti; obtain ⟨el, rfl⟩ := hpt hti
        cases he
        exact OpWP.pure h (x := .bool false) (by simp [execOp, ho, hx, hy, eqGuard, binOp, run_eq_nil hd]) (by simp [RepV])
      · cases he
    | some z =>
      obtain ⟨ad, c, hx, _⟩ := hx
      have hx : a.eval x = .pointer (some ad) := by simpa using hx
      split at he
      · rename_i hti; obtain ⟨el, rfl⟩ := hpt hti
        cases he
        exact OpWP.pure h (x := .bool false) (by simp [execOp, ho, hx, hy, eqGuard, binOp, run_eq_nil hd]) (by simp [RepV])
      · rename_i hti; obtain ⟨el, rfl⟩ := hpt hti
        cases he
        exact OpWP.pure h (x := .bool true) (by simp [execOp, ho, hx, hy, eqGuard, binOp, run_eq_nil hd]) (by simp [RepV])
      · cases he
  · rename_i e1 xs hex hey
    rw [hex] at hx
    rw [hey] at hy
    simp only [RepV] at hx hy
    obtain ⟨ad, cap, hx, _, hne⟩ := hx
    have hx : a.eval x = .slice ad xs.length cap := by simpa using hx
    split at he
    · rename_i el hti
      have : ∃ el, d = .slice el := by rw [hti] at htd; cases d <;> simp [tdOf] at htd ⊢
      obtain ⟨el, rfl⟩ := this
      have hrun : (execOp a.eval o).run C.P w = .ok (.value (.bool ad.isNone)) w := by simp [execOp, ho, hx, hy, eqGuard, binOp, run_eq_nilsl hd]
      rcases he with ⟨hb, he⟩ | ⟨hb, he⟩
      · cases he
        exact OpWP.pure h hrun (by simp [RepV])
      · cases he
        obtain ⟨a1, rfl, _⟩ := hne (by intro q; rw [q] at hb; simp at hb)
        exact OpWP.pure h hrun (by simp [RepV])
    · cases he
  · rename_i id off hex hey
    rw [hex] at hx
    rw [hey] at hy
    simp only [RepV] at hx hy
    have hpt : ∀ {el}, ti.td = .ptr el → ∃ el, d = .pointer el := by
      intro el hti
      rw [hti] at htd
      cases d <;> simp [tdOf] at htd ⊢
    split at he
    · rename_i hti; obtain ⟨el, rfl⟩ := hpt hti
      cases he
      exact OpWP.pure h (x := .bool false) (by simp [execOp, ho, hx.2, hy, eqGuard, binOp, run_eq_nil hd]) (by simp [RepV])
    · rename_i hti; obtain ⟨el, rfl⟩ := hpt hti
      cases he
      exact OpWP.pure h (x := .bool true) (by simp [execOp, ho, hx.2, hy, eqGuard, binOp, run_eq_nil hd]) (by simp [RepV])
    · cases he
  · rename_i p q hex hey
    rw [hex] at hx
    rw [hey] at hy
    simp only [RepV] at hx hy
    obtain ⟨vs, hx, hx2⟩ := hx
    obtain ⟨us, hy, hy2⟩ := hy
    split at he
    · rename_i c heq hl hc
      cases he
      obtain ⟨g1, g2⟩ := ht.eqs heq
      have := g2 w vs us c (eqCells_ok hc hx2 hy2) (by rw [repL_length hx2]; exact Nat.eq_of_beq_eq_true hl)
      exact OpWP.pure h (x := .bool c) (by simp [execOp, ho, hx, hy, eqGuard, binOp, g1, this]) (by simp [RepV])
    · rename_i c heq hl hc
      cases he
      obtain ⟨g1, g2⟩ := ht.eqs heq
      have := g2 w vs us c (eqCells_ok hc hx2 hy2) (by rw [repL_length hx2]; exact Nat.eq_of_beq_eq_true hl)
      exact OpWP.pure h (x := .bool (!c)) (by simp [execOp, ho, hx, hy, eqGuard, binOp, g1, this]) (by simp [RepV])
    · cases he
  · cases he
theorem bin2_ok {G : Gl} {op : BinOp} {t t' : TypeId} {ti : TI} {x y : Operand} {e : Eff} (h : RepE C S E a w) (ht : TIOK C.P G.ty t ti) {o : Oper} (ho : o.op = .binOp op t x y t')
    (he : (evBin2 S op ti (S.ev x) (S.ev y)).sat (· = e)) : OpWP C S a w o e := by
  unfold evBin2 at he
  split at he
  case h_2 => exact bin_ok h ht ho he
  rename_i id hex hey
  have hx := h.ev x
  have hy := h.ev y
  rw [hex] at hx
  rw [hey] at hy
  simp only [RepV] at hx hy
  obtain ⟨d, hd, htd⟩ := ht.desc
  have hsl : isSl ti.td = true → ∃ el, d = .slice el := by
    intro hs
    cases d <;> simp [tdOf] at htd <;> rw [← htd] at hs <;> simp [isSl] at hs ⊢
  unfold evNilOwn at he
  split at he
  · rename_i en e1 et xs hs hob
    obtain ⟨el, rfl⟩ := hsl hs
    have hrun : ∀ {ad : Option Addr} {l c : Nat}, a.eval x = .slice ad l c → (execOp a.eval o).run C.P w = .ok (.value (.bool ad.isNone)) w := fun hv => by simp [execOp, ho, hv, hy, eqGuard, binOp, run_eq_nilsl hd]
    obtain ⟨q1, q2⟩ := h.h.objs id _ hob
    rcases he with ⟨hb, he⟩ | ⟨hb, he⟩
    · cases he
      rcases q2 with ⟨q2, q3⟩ | ⟨cap, cur, cells, q2, _⟩
      · exact OpWP.pure h (hrun (by rw [hx.2]; exact q2)) (by simp [RepV])
      · exact OpWP.pure h (hrun (by rw [hx.2]; exact q2)) (by simp [RepV])
    · cases he
      rcases q2 with ⟨q2, q3⟩ | ⟨cap, cur, cells, q2, _⟩
      · rw [q3] at hb; simp at hb
      · exact OpWP.pure h (hrun (by rw [hx.2]; exact q2)) (by simp [RepV])
  · rename_i e1 xs hs hob
    obtain ⟨el, rfl⟩ := hsl hs
    have hrun : ∀ {ad : Option Addr} {l c : Nat}, a.eval x = .slice ad l c → (execOp a.eval o).run C.P w = .ok (.value (.bool ad.isNone)) w := fun hv => by simp [execOp, ho, hv, hy, eqGuard, binOp, run_eq_nilsl hd]
    obtain ⟨q1, q2, q3⟩ := h.h.objs id _ hob
    obtain ⟨ad, cap, q2, _⟩ := q2
    have q2 : E.σ id = .slice ad xs.length cap := by simpa using q2
    rcases he with ⟨hb, he⟩ | ⟨hb, he⟩
    · cases he
      exact OpWP.pure h (hrun (by rw [hx.2]; exact q2)) (by simp [RepV])
    · cases he
      obtain ⟨cap', q3⟩ := q3 (by intro q; rw [q] at hb; simp at hb)
      exact OpWP.pure h (hrun (by rw [hx.2]; exact q3)) (by simp [RepV])
  · cases he

theorem un_ok {op : UnOp} {t : TypeId} {x : Operand} {e : Eff} (h : RepE C S E a w) {o : Oper} (ho : o.op = .unOp op t x) (he : (evUn op (S.ev x)).sat (· = e)) : OpWP C S a w o e := by
  have hx := h.ev x
  unfold evUn at he
  split at he
  · rename_i b heq
    rw [heq] at hx
    simp only [RepV] at hx
    cases he
    exact OpWP.pure h (x := .bool (!b)) (by simp [execOp, ho, hx, Op.unary]) (by simp [RepV])
  · rename_i k n heq
    rw [heq] at hx
    simp only [RepV] at hx
    cases he
    exact OpWP.pure h (x := .int k (k.wrap (0 - n))) (by simp [execOp, ho, hx, Op.unary, Op.intArith]) (by simp [RepV])
  · rename_i k n heq
    rw [heq] at hx
    simp only [RepV] at hx
    cases he
    refine OpWP.pure h (x := .int k (bitsI .xor k (cond k.signed (-1) k.max) n)) ?_ (by simp [RepV])
    cases hs : k.signed <;> simp [execOp, ho, hx, Op.unary, Op.intBits, bitsI_eq, bitsD, hs]
  · cases he
theorem conv_ok {G : Gl} {s d : TypeId} {ts td : TI} {x : Operand} {e : Eff} (h : RepE C S E a w) (h1 : TIOK C.P G.ty s ts) (h2 : TIOK C.P G.ty d td) {o : Oper} (ho : o.op = .convert s d x)
    (he : (evConv ts td (S.ev x)).sat (· = e)) : OpWP C S a w o e := by
  have hx := h.ev x
  obtain ⟨d1, hd1, ht1⟩ := h1.desc
  obtain ⟨d2, hd2, ht2⟩ := h2.desc
  unfold evConv at he
  split at he
  · rename_i k n heq
    rw [heq] at hx
    simp only [RepV] at hx
    split at he
    · rename_i k' hk
      cases he
      have : d2 = .int k' := by rw [hk] at ht2; cases d2 <;> simp [tdOf] at ht2 ⊢; exact ht2
      subst this
      exact OpWP.pure h (x := .int k' (k'.wrap n)) (by simp [execOp, ho, hx, convert, run_underlying hd1, run_underlying hd2, Conv.intToInt]) (by simp [RepV])
    · cases he
  · cases he
end
end Go.Rx
/-! Rx, part 8: addresses, parts, slices of slices. -/
namespace Go.Rx
set_option linter.unusedVariables false
set_option linter.unusedSimpArgs false
section
variable {C : Ctx} {S : AS} {E : Env} {a : Act} {w : World} {G : Gl}
/-- All that the evaluator is told of the program is so. -/
def TyOK (P : Program) (G : Gl) : Prop := ∀ t ti, G.ty t = some ti → TIOK P G.ty t ti

theorem st_field {P : Program} {t : TypeId} {ti : TI} (ht : TIOK P G.ty t ti) {f : Nat} {p : Nat × TypeId} (hf : fieldOf ti f = some p) : ∃ fs fld, P.underlying t = some (.struct fs) ∧ fs[f]? = some fld ∧ fld.offset = p.1 ∧ fld.type = p.2 := by
  obtain ⟨d, hd, htd⟩ := ht.desc
  unfold fieldOf at hf
  split at hf
  · rename_i fs hfs
    rw [hfs] at htd
    cases d <;> simp [tdOf] at htd
    rename_i flds
    subst htd
    rw [List.getElem?_map] at hf
    cases hx : flds.toList[f]? with
    | none => rw [hx] at hf; cases hf
    | some fld =>
      rw [hx] at hf
      cases hf
      exact ⟨flds, fld, hd, by simpa using hx, rfl, rfl⟩
  · cases hf
theorem fieldAddr_ok {t : TypeId} {ti : TI} {x : Operand} {f : Nat} {e : Eff} (hty : TyOK C.P G) (h : RepE C S E a w) (ht : TIOK C.P G.ty t ti) {o : Oper} (ho : o.op = .fieldAddr t x f)
    (he : (evFieldAddr G ti f (S.ev x)).sat (· = e)) : OpWP C S a w o e := by
  have hx := h.ev x
  unfold evFieldAddr at he
  split at he
  · cases he
  rename_i p hp
  obtain ⟨fs, fld, hd, hfs, hoff, hfty⟩ := st_field ht hp
  have run : ∀ {b off : Nat}, (match G.ty p.2 with | some tf => Nat.blt 0 tf.size | none => false) = true → a.eval x = .pointer (some ⟨b, off, none⟩) →
      (execOp a.eval o).run C.P w = .ok (.value (.pointer (some ⟨b, off + p.1, none⟩))) w := by
    intro b off hsz hv
    cases hg : G.ty p.2 with
    | none => rw [hg] at hsz; cases hsz
    | some tf =>
      rw [hg] at hsz
      have h1 := sizeOf_ok (hty _ _ hg) w
      have h2 : ¬ tf.size = 0 := by
        have : 0 < tf.size := Nat.le_of_ble_eq_true hsz
        omega
      simp [execOp, ho, Instr.fieldAt, run_underlying hd, hfs, hv, Instr.sureAddr, fieldPlace, hfty, h1, h2, hoff, Addr.add_lit]
  split at he <;> (try (cases he; done)) <;> rename_i hsz heq <;> rw [heq] at hx <;> simp only [RepV] at hx <;> cases he
  · refine OpWP.pure h (run hsz hx.2) ?_
    simp only [RepV]
    exact ⟨hx.1, trivial⟩
  · refine OpWP.pure h (run hsz hx.2.2) ?_
    simp only [RepV]
    exact ⟨hx.1, hx.2.1, by rw [Nat.add_assoc]⟩
  · obtain ⟨ad, cells, h1, h2, h3, h4, h5⟩ := hx
    refine OpWP.pure h (run hsz h5) ?_
    simp only [RepV]
    exact ⟨ad, cells, h1, h2, h3, h4, by simp only [Nat.add_assoc]⟩
  · obtain ⟨ad, c, h1, h2, h3, h4⟩ := hx
    refine OpWP.pure h (run hsz h4) ?_
    simp only [RepV]
    exact ⟨ad, c, h1, h2, h3, by simp only [Nat.add_assoc]⟩
theorem part_ok {D : Nat → Prop} {A : Nat → Prop} {P : Program} {t : TypeId} {ti : TI} (ht : TIOK P G.ty t ti) {off : Nat} {cs : List AV} {vs : List Value} {v : AV}
    (hp : pickCells ti.td.isAgg ti.size off cs = some v) (hc : RepL D E A w cs vs) : ∃ x, (part t vs.toArray off).run P w = .ok x w ∧ RepV D E A w v x := by
  unfold pickCells at hp
  simp only [part, Sem.run_bind, isAgg_ok ht, Result.andThen_ok]
  cases hagg : ti.td.isAgg with
  | true =>
    rw [hagg] at hp
    simp only at hp
    split at hp
    · rename_i hle
      cases hp
      have hle := Nat.le_of_ble_eq_true hle
      have hl := repL_length hc
      refine ⟨.agg ((vs.drop off).take ti.size).toArray, ?_, ?_⟩
      · simp [sizeOf_ok ht]
      · simp only [RepV]
        exact ⟨_, rfl, (repL_take ti.size (repL_take off hc).2).1⟩
    · cases hp
  | false =>
    rw [hagg] at hp
    simp only at hp
    obtain ⟨x, hx, hr⟩ := repL_get hc hp
    exact ⟨x, by simp [hx], hr⟩
theorem field_ok {t : TypeId} {ti : TI} {x : Operand} {f : Nat} {e : Eff} (hty : TyOK C.P G) (h : RepE C S E a w) (ht : TIOK C.P G.ty t ti) {o : Oper} (ho : o.op = .field t x f)
    (he : (evField G ti f (S.ev x)).sat (· = e)) : OpWP C S a w o e := by
  have hx := h.ev x
  unfold evField at he
  split at he
  · rename_i cs heq
    rw [heq] at hx
    simp only [RepV] at hx
    obtain ⟨vs, hx, hx2⟩ := hx
    split at he
    · cases he
    · rename_i p hp
      obtain ⟨fs, fld, hd, hfs, hoff, hfty⟩ := st_field ht hp
      split at he
      · cases he
      · rename_i tf hg
        split at he
        · rename_i v hv
          cases he
          obtain ⟨y, hy, hy2⟩ := part_ok (hty _ _ hg) hv hx2
          refine OpWP.pure h (x := y) ?_ hy2
          simp [execOp, ho, Instr.field, run_underlying hd, hfs, hx, asAgg, hfty, hoff, hy]
        · cases he
  · cases he
theorem pickOne_sat {i : Int} {e : Eff} : ∀ {cs : List AV} {j : Nat}, (pickOne i j cs).sat (· = e) → ∃ k v, i = ((j + k : Nat) : Int) ∧ cs[k]? = some v ∧ e = .pure v
  | [], _, h => h.elim
  | v :: r, j, h => by
    unfold pickOne at h
    rcases h with ⟨h1, h2⟩ | ⟨h1, h2⟩
    · exact ⟨0, v, by simpa using h1, rfl, h2.symm⟩
    · obtain ⟨k, v', h3, h4, h5⟩ := pickOne_sat h2
      exact ⟨k + 1, v', by rw [h3]; congr 1; omega, by simpa using h4, h5⟩
theorem index_ok {t : TypeId} {ti : TI} {x y : Operand} {e : Eff} (hty : TyOK C.P G) (h : RepE C S E a w) (ht : TIOK C.P G.ty t ti) {o : Oper} (ho : o.op = .index t x y)
    (he : (evIndex G ti (S.ev x) (S.ev y)).sat (· = e)) : OpWP C S a w o e := by
  have hx := h.ev x
  have hy := h.ev y
  obtain ⟨d, hd, htd⟩ := ht.desc
  unfold evIndex at he
  split at he
  · rename_i cs k i hex hey
    rw [hex] at hx
    rw [hey] at hy
    simp only [RepV] at hx hy
    obtain ⟨vs, hx, hx2⟩ := hx
    split at he
    · rename_i n el htt
      split at he
      · rename_i te hn hg
        split at he
        · rename_i hsz hag
          have hn := Nat.eq_of_beq_eq_true hn
          have hsz := Nat.eq_of_beq_eq_true hsz
          obtain ⟨j, v, h1, h2, h3⟩ := pickOne_sat he
          subst h3
          rw [htt] at htd
          cases d <;> simp [tdOf] at htd
          obtain ⟨rfl, rfl⟩ := htd
          have hj : j < cs.length := (List.getElem?_eq_some_iff.1 h2).1
          obtain ⟨z, hz, hz2⟩ := part_ok (hty _ _ hg) (off := j * te.size) (v := v) (by rw [hag, hsz]; simpa [pickCells] using h2) hx2
          refine OpWP.pure h (x := z) ?_ hz2
          have hi : (0 : Int) ≤ i ∧ i < (cs.length : Int) := by omega
          have hi2 : i.toNat = j := by omega
          simp [execOp, ho, Instr.index, hx, hy, asIntOf, run_underlying hd, hn, hi, hi2, sizeOf_ok (hty _ _ hg), hz]
        · cases he
      · cases he
    · cases he
  · rename_i s k i hex hey
    rw [hex] at hx
    rw [hey] at hy
    simp only [RepV] at hx hy
    split at he
    · rename_i htt
      obtain ⟨h0, h1, he⟩ := he
      cases he
      have h0 : 0 ≤ i := by simpa using h0
      have h1 : i.toNat < s.size := Nat.le_of_ble_eq_true h1
      rw [htt] at htd
      cases d <;> simp [tdOf] at htd
      have hb : s[i.toNat]? = some s[i.toNat] := getElem?_pos s i.toNat h1
      refine OpWP.pure h (x := .int .u8 (strAt s i.toNat)) ?_ (by simp [RepV])
      simp [execOp, ho, Instr.index, hx, hy, asIntOf, run_underlying hd, h0, hb, strAt]
    · cases he
  · cases he
theorem extract_ok {x : Operand} {i : Nat} {e : Eff} (h : RepE C S E a w) {o : Oper} (ho : o.op = .extract x i) (nid : Nat) (he : (evOp G S nid (.extract x i)).sat (· = e)) : OpWP C S a w o e := by
  have hx := h.ev x
  simp only [evOp] at he
  split at he
  · rename_i vs heq
    rw [heq] at hx
    simp only [RepV] at hx
    obtain ⟨l, hx, hx2⟩ := hx
    split at he
    · rename_i v hv
      cases he
      obtain ⟨y, hy, hy2⟩ := repL_get hx2 hv
      refine OpWP.pure h (x := y) ?_ hy2
      simp [execOp, ho, Instr.extract, hx, hy]
    · cases he
  · cases he
theorem elem_size {t : TypeId} {ti : TI} (hty : TyOK C.P G) (ht : TIOK C.P G.ty t ti) {n : Nat} (he : elemOK G ti n = true) :
    (∃ el, C.P.underlying t = some (.slice el) ∧ ti.td = .sl el ∧ ∀ w, (sizeOf el).run C.P w = .ok n w) ∨ (∃ k el, C.P.underlying t = some (.array k el) ∧ ti.td = .arr k el ∧ ∀ w, (sizeOf el).run C.P w = .ok n w) := by
  obtain ⟨d, hd, htd⟩ := ht.desc
  unfold elemOK at he
  split at he
  · rename_i el htt
    rw [htt] at htd
    cases d <;> simp [tdOf] at htd
    subst htd
    split at he
    · rename_i te hg
      have := Nat.eq_of_beq_eq_true he
      subst this
      exact .inl ⟨_, hd, htt, fun w => sizeOf_ok (hty _ _ hg) w⟩
    · cases he
  · rename_i k el htt
    rw [htt] at htd
    cases d <;> simp [tdOf] at htd
    obtain ⟨rfl, rfl⟩ := htd
    split at he
    · rename_i te hg
      have := Nat.eq_of_beq_eq_true he
      subst this
      exact .inr ⟨_, _, hd, htt, fun w => sizeOf_ok (hty _ _ hg) w⟩
    · cases he
  · cases he
theorem elem_slice {t : TypeId} {ti : TI} (hty : TyOK C.P G) (ht : TIOK C.P G.ty t ti) {n : Nat} (hs : isSl ti.td = true) (he : elemOK G ti n = true) :
    ∃ el, C.P.underlying t = some (.slice el) ∧ ∀ w, (sizeOf el).run C.P w = .ok n w := by
  rcases elem_size hty ht he with ⟨el, h1, _, h2⟩ | ⟨k, el, _, h1, _⟩
  · exact ⟨el, h1, h2⟩
  · rw [h1] at hs; cases hs
theorem sl_nonempty {A : Nat → Prop} {e : Sh} {xs : List e.T} {v : Value} (h : PC A w (.sl e) xs [v]) {i : Int} (h0 : 0 ≤ i) (h1 : i < (xs.length : Int)) :
    ∃ a cap cells, v = .slice (some a) xs.length cap ∧ a.spot = none ∧ A a.block ∧ RowsL (fun x c => PC A w e x c) xs cells ∧ At w a cells := by
  obtain ⟨ad, cap, e1, _, h2⟩ := h
  obtain ⟨a, e2, h3, h4, cells, h5, h6⟩ := h2 (by intro q; rw [q] at h1; simp at h1; omega)
  subst e2
  exact ⟨a, cap, cells, by simpa using e1, h3, h4, h5, h6⟩
theorem indexAddr_ok {t : TypeId} {ti : TI} {x y : Operand} {e : Eff} (hgl : G.gl = C.gl) (hty : TyOK C.P G) (h : RepE C S E a w) (ht : TIOK C.P G.ty t ti) {o : Oper} (ho : o.op = .indexAddr t x y)
    (he : (evIndexAddr G S ti (S.ev x) (S.ev y)).sat (· = e)) : OpWP C S a w o e := by
  have hx := h.ev x
  have hy := h.ev y
  have run : ∀ {k : IntKind} {i : Int} {n : Nat} {b off : Nat} {len cap : Nat}, isSl ti.td = true → elemOK G ti n = true → a.eval y = .int k i → a.eval x = .slice (some ⟨b, off, none⟩) len cap → 0 ≤ i → i < (len : Int) →
      (execOp a.eval o).run C.P w = .ok (.value (.pointer (some ⟨b, off + i.toNat * n, none⟩))) w := by
    intro k i n b off len cap hs hel hyv hxv h0 h1
    obtain ⟨el, hd, hsz⟩ := elem_slice hty ht hs hel
    simp [execOp, ho, Instr.indexAt, hxv, hyv, asIntOf, run_underlying hd, h0, h1, hsz, Addr.add_lit]
  unfold evIndexAddr at he
  split at he
  · rename_i e1 xs k i hex hey
    rw [hex] at hx
    rw [hey] at hy
    simp only [RepV] at hx hy
    split at he
    · rename_i hs hel
      obtain ⟨h0, h1, he⟩ := he
      cases he
      have h0 : 0 ≤ i := by simpa using h0
      have h1 : i < (xs.length : Int) := by simpa using h1
      obtain ⟨ad, cap, cells, hv, h3, h4, h5, h6⟩ := sl_nonempty hx h0 h1
      obtain ⟨b, off, spot⟩ := ad
      simp only at h3
      subst h3
      refine OpWP.pure h (run hs hel hy hv h0 h1) ?_
      simp only [RepV]
      exact ⟨⟨b, off, none⟩, cells, h4, h5, h6, by omega, rfl⟩
    · cases he
  · rename_i id k i hex hey
    rw [hex] at hx
    rw [hey] at hy
    simp only [RepV] at hx hy
    split at he
    · rename_i en e1 et xs hob
      split at he
      · rename_i hs hel
        obtain ⟨h0, h1, he⟩ := he
        cases he
        have h0 : 0 ≤ i := by simpa using h0
        have h1 : i < (xs.length : Int) := by simpa using h1
        obtain ⟨q1, q2⟩ := h.h.objs id _ hob
        rcases q2 with ⟨_, q3⟩ | ⟨cap, cur, cells, q3, _⟩
        · rw [q3] at h1; simp at h1; omega
        · refine OpWP.pure h (run hs hel hy (by rw [hx.2]; exact q3) h0 h1) ?_
          simp only [RepV]
          exact ⟨hx.1, by omega, by simp⟩
      · cases he
    · rename_i e1 xs hob
      split at he
      · rename_i hs hel
        obtain ⟨h0, h1, he⟩ := he
        cases he
        have h0 : 0 ≤ i := by simpa using h0
        have h1 : i < (xs.length : Int) := by simpa using h1
        obtain ⟨q1, q2, q3⟩ := h.h.objs id _ hob
        obtain ⟨cap, q3⟩ := q3 (by intro q; rw [q] at h1; simp at h1; omega)
        refine OpWP.pure h (run hs hel hy (by rw [hx.2]; exact q3) h0 h1) ?_
        simp only [RepV]
        exact ⟨hx.1, by omega, by simp⟩
      · cases he
    · cases he
  · rename_i id k i hex hey
    rw [hex] at hx
    rw [hey] at hy
    simp only [RepV] at hx hy
    split at he
    · rename_i e1 xs n el hob htt
      split at he
      · rename_i hn hel
        obtain ⟨h0, h1, h2, he⟩ := he
        cases he
        have h0 : 0 ≤ i := by simpa using h0
        have h1 : i < (n : Int) := by simpa using h1
        have h2 := Nat.le_of_ble_eq_true h2
        have hn : 1 < n := Nat.le_of_ble_eq_true hn
        obtain ⟨q1, _⟩ := h.h.objs id _ hob
        rcases elem_size hty ht hel with ⟨_, _, q, _⟩ | ⟨n', el', hd, q, hsz⟩
        · rw [q] at htt; cases htt
        · rw [q] at htt
          cases htt
          refine OpWP.pure h (x := .pointer (some ⟨E.β id, i.toNat * e1.size, none⟩)) ?_ ?_
          · simp [execOp, ho, Instr.indexAt, hx.2, hy, asIntOf, run_underlying hd, h0, h1, hsz, Addr.add_lit, Instr.sureAddr]
          · simp only [RepV]
            exact ⟨hx.1, by omega, by simp⟩
      · cases he
    · cases he
  · rename_i id sz lo k i hex hey
    rw [hex] at hx
    rw [hey] at hy
    simp only [RepV] at hx hy
    split at he
    · rename_i en e1 et xs hob
      split at he
      · rename_i hs hel hsz
        obtain ⟨h0, h1, he⟩ := he
        cases he
        have h0 : 0 ≤ i := by simpa using h0
        have h1 : lo + i.toNat < xs.length := Nat.le_of_ble_eq_true h1
        have hsz : sz = e1.size := Nat.eq_of_beq_eq_true hsz
        obtain ⟨q1, _⟩ := h.h.objs id _ hob
        obtain ⟨hx1, ad, c, hx2, hx3⟩ := hx
        have hx3 := hx3 (by rw [q1]; omega)
        subst hx3
        refine OpWP.pure h (run (off := lo * sz) hs hel hy hx2 h0 (by rw [q1]; omega)) ?_
        simp only [RepV]
        exact ⟨hx1, by omega, by rw [hsz, Nat.add_mul]; simp⟩
      · cases he
    · cases he
  · rename_i g k i hex hey
    rw [hex] at hx
    rw [hey] at hy
    simp only [RepV] at hx hy
    split at he
    · rename_i e1 xs n el hg htt
      split at he
      · rename_i hn hel
        obtain ⟨hl, h0, h1, he⟩ := he
        cases he
        have h0 : 0 ≤ i := by simpa using h0
        have h1 : i < (n : Int) := by simpa using h1
        have hn : 1 < n := Nat.le_of_ble_eq_true hn
        have hl := Nat.eq_of_beq_eq_true hl
        rw [hgl] at hg
        obtain ⟨g1, cells, g2, g3⟩ := h.h.gl g e1 xs hg
        rcases elem_size hty ht hel with ⟨_, _, q, _⟩ | ⟨n', el', hd, q, hsz⟩
        · rw [q] at htt; cases htt
        · rw [q] at htt
          cases htt
          refine OpWP.pure h (x := .pointer (some ⟨g, i.toNat * e1.size, none⟩)) ?_ ?_
          · simp [execOp, ho, Instr.indexAt, hx, hy, asIntOf, run_underlying hd, h0, h1, hsz, Addr.add_lit, Instr.sureAddr]
          · have hlt := (h.h.a0 g g1)
            have keep := h.h.keep g hlt.1 hlt.2
            have up : ∀ o v, C.w0.cell? ⟨g, o, none⟩ = some v → w.cell? ⟨g, o, none⟩ = some v := fun o v => cell_of_heap keep o v
            have upA : ∀ b, C.A0 b → ∀ o v, C.w0.cell? ⟨b, o, none⟩ = some v → w.cell? ⟨b, o, none⟩ = some v := fun b hb o v => cell_of_heap (h.h.keep b (h.h.a0 b hb).1 (h.h.a0 b hb).2) o v
            simp only [RepV]
            exact ⟨⟨g, 0, none⟩, cells, .inl g1, g2.imp (fun _ _ q => q.mono (fun b hb => .inl hb) upA), g3.mono up, by omega, by simp⟩
      · cases he
    · cases he
  · cases he
theorem RowsL.drop {T : Type} {R : T → List Value → Prop} {n : Nat} (hn : ∀ x c, R x c → c.length = n) : ∀ {xs : List T} {cs : List Value} (l : Nat), RowsL R xs cs → RowsL R (xs.drop l) (cs.drop (l * n))
  | [], _, l, h => by cases h; simp [RowsL]
  | x :: xs, _, 0, h => by simpa using h
  | x :: xs, cs, l + 1, ⟨c, r, e, h1, h2⟩ => by
    have := RowsL.drop hn l h2
    have e2 : cs.drop ((l + 1) * n) = r.drop (l * n) := by
      rw [e, Nat.succ_mul, Nat.add_comm (l * n) n, ← List.drop_drop, List.drop_append, hn _ _ h1]
      simp [List.drop_eq_nil_of_le (Nat.le_of_eq (hn _ _ h1))]
    rw [e2]
    simpa using this
theorem RowsL.take {T : Type} {R : T → List Value → Prop} {n : Nat} (hn : ∀ x c, R x c → c.length = n) : ∀ {xs : List T} {cs : List Value} (l : Nat), RowsL R xs cs → RowsL R (xs.take l) (cs.take (l * n))
  | [], _, l, h => by cases h; simp [RowsL]
  | x :: xs, _, 0, h => by simp [RowsL]
  | x :: xs, cs, l + 1, ⟨c, r, e, h1, h2⟩ => by
    have := RowsL.take hn l h2
    refine ⟨c, r.take (l * n), ?_, h1, this⟩
    rw [e, Nat.succ_mul, List.take_append, hn _ _ h1]
    rw [List.take_of_length_le (by rw [hn _ _ h1]; omega)]
    congr 2
    omega
theorem slice_ok {t : TypeId} {ti : TI} {x : Operand} {lo hi : Option Operand} {e : Eff} (hty : TyOK C.P G) (h : RepE C S E a w) (ht : TIOK C.P G.ty t ti) {o : Oper} (ho : o.op = .slice t x lo hi none)
    (he : (evSlice G S ti (S.ev x) (lo.map S.ev) (hi.map S.ev)).sat (· = e)) : OpWP C S a w o e := by
  have hx := h.ev x
  unfold evSlice at he
  split at he
  · cases he
  rename_i tb rd hsrc
  have hsl : PC (Al C S E w) w (.sl tb.e) tb.xs [a.eval x] := by
    unfold sliceSrc at hsrc
    split at hsrc
    · rename_i heq
      cases hsrc
      rw [heq] at hx
      simpa only [RepV] using hx
    · rename_i id heq
      split at hsrc
      · rename_i e1 xs hob
        cases hsrc
        rw [heq] at hx
        simp only [RepV] at hx
        rw [hx.2]
        exact (h.h.objs id _ hob).2.1
      · cases hsrc
    · cases hsrc
  split at he
  case h_2 => cases he
  rename_i hs hel
  obtain ⟨el, hd, hsz⟩ := elem_slice hty ht hs hel
  obtain ⟨ad, cap, hv, hcap, hrow⟩ := hsl
  have hv : a.eval x = .slice ad tb.xs.length cap := by simpa using hv
  -- the cut, in general
  have key : ∀ (l hh : Nat), l ≤ hh → hh ≤ tb.xs.length → PC (Al C S E w) w (.sl tb.e) ((tb.xs.take hh).drop l) [.slice (if cap = l then ad else ad.map (·.add (l * tb.e.size))) (hh - l) (cap - l)] := by
    intro l hh h1 h2
    refine ⟨if cap = l then ad else ad.map (·.add (l * tb.e.size)), cap - l, ?_, ?_, ?_⟩
    · rw [show List.length ((tb.xs.take hh).drop l) = hh - l by simp; omega]
    · rw [show List.length ((tb.xs.take hh).drop l) = hh - l by simp; omega]; omega
    · intro hne
      have hlt : l < hh := by
        apply Nat.lt_of_not_le
        intro q
        exact hne (List.drop_eq_nil_of_le (by simp; omega))
      obtain ⟨a1, e1, h3, h4, cells, h5, h6⟩ := hrow (by intro q; rw [q] at h2; simp at h2; omega)
      subst e1
      obtain ⟨b, off, spot⟩ := a1
      simp only at h3
      subst h3
      rw [if_neg (by omega)]
      refine ⟨⟨b, off + l * tb.e.size, none⟩, by simp [Addr.add_lit], rfl, h4, _, RowsL.drop (fun x c (h : PC (Al C S E w) w tb.e x c) => h.length) l (RowsL.take (fun x c h => h.length) hh h5), ?_⟩
      intro j v hj
      rw [List.getElem?_drop, List.getElem?_take] at hj
      split at hj
      · simp only [Nat.add_assoc]
        exact h6 _ _ hj
      · cases hj
  have fin : ∀ (l hh : Nat), l ≤ hh → hh ≤ tb.xs.length → (Instr.sliceBounds true tb.xs.length cap (lo.map a.eval) (hi.map a.eval) none).run C.P w = .ok (l, hh, cap) w → ∀ {v : AV}, RepV (Dom S) E (Al C S E w) w v (.slice (if cap = l then ad else ad.map (·.add (l * tb.e.size))) (hh - l) (cap - l)) → OpWP C S a w o ⟨v, [], rd, []⟩ := by
    intro l hh h1 h2 hb v hr
    refine OpWP.pure h (x := .slice (if cap = l then ad else ad.map (·.add (l * tb.e.size))) (hh - l) (cap - l)) ?_ hr
    simp [execOp, ho, Instr.sliceAt, run_underlying hd, Instr.slice, hv, hb, hsz]
  split at he
  · rename_i hlo hhi
    cases he
    have hlo : lo = none := by simpa using hlo
    have hhi : hi = none := by simpa using hhi
    subst hlo hhi
    refine fin 0 tb.xs.length (Nat.zero_le _) (Nat.le_refl _) (by simp [Instr.sliceBounds]) ?_
    simp only [RepV]
    have := key 0 tb.xs.length (Nat.zero_le _) (Nat.le_refl _)
    simpa using this
  · rename_i k l hlo hhi
    obtain ⟨h0, h1, he⟩ := he
    cases he
    have h0 : 0 ≤ l := by simpa using h0
    have h1 : l ≤ (tb.xs.length : Int) := by simpa using h1
    have hhi : hi = none := by simpa using hhi
    subst hhi
    cases lo with
    | none => cases hlo
    | some lx =>
      have hlo : S.ev lx = .int k l := by simpa using hlo
      have hl := h.ev lx
      rw [hlo] at hl
      simp only [RepV] at hl
      refine fin l.toNat tb.xs.length (by omega) (Nat.le_refl _) (by simp [Instr.sliceBounds, Instr.sliceBound, hl, asIntOf, h0, h1]) ?_
      simp only [RepV]
      have := key l.toNat tb.xs.length (by omega) (Nat.le_refl _)
      simpa using this
  · rename_i k hh hlo hhi
    obtain ⟨h0, h1, he⟩ := he
    cases he
    have h0 : 0 ≤ hh := by simpa using h0
    have h1 : hh ≤ (tb.xs.length : Int) := by simpa using h1
    have hlo : lo = none := by simpa using hlo
    subst hlo
    cases hi with
    | none => cases hhi
    | some hx' =>
      have hhi : S.ev hx' = .int k hh := by simpa using hhi
      have hl := h.ev hx'
      rw [hhi] at hl
      simp only [RepV] at hl
      refine fin 0 hh.toNat (Nat.zero_le _) (by omega) (by simp [Instr.sliceBounds, Instr.sliceBound, hl, asIntOf, h0, show hh ≤ (cap : Int) by omega]) ?_
      simp only [RepV]
      have := key 0 hh.toNat (Nat.zero_le _) (by omega)
      simpa using this
  · rename_i k l k' hh hlo hhi
    obtain ⟨h2, h3, h0, h1, he⟩ := he
    cases he
    have h0 : 0 ≤ l := by simpa using h0
    have h1 : l ≤ hh := by simpa using h1
    have h2 : 0 ≤ hh := by simpa using h2
    have h3 : hh ≤ (tb.xs.length : Int) := by simpa using h3
    cases lo with
    | none => cases hlo
    | some lx =>
      cases hi with
      | none => cases hhi
      | some hx' =>
        have hlo : S.ev lx = .int k l := by simpa using hlo
        have hhi : S.ev hx' = .int k' hh := by simpa using hhi
        have hl := h.ev lx
        have hl' := h.ev hx'
        rw [hlo] at hl
        rw [hhi] at hl'
        simp only [RepV] at hl hl'
        refine fin l.toNat hh.toNat (by omega) (by omega) (by simp [Instr.sliceBounds, Instr.sliceBound, hl, hl', asIntOf, h0, h2, show hh ≤ (cap : Int) by omega, show l ≤ max hh 0 by omega]) ?_
        simp only [RepV]
        exact key l.toNat hh.toNat (by omega) (by omega)
  · cases he
end
end Go.Rx
/-! Rx, part 9: new memory: variables, literals, make, append. -/
namespace Go.Rx
set_option linter.unusedVariables false
set_option linter.unusedSimpArgs false
theorem dataN_sound {m : Nat} {S : AS} {E : Env} {A A' : Nat → Prop} {w : World} (hR : ∀ id o, S.obj id = some o → RepO (Dom S) E A w id o) (hA : ∀ b, A b → A' b) (e : Sh) : ∀ (n : Nat) (l : List AV) (vs : List Value) (d : DC (.sl e)),
    dataN m S.obj e n l = some d → RepL (Dom S) E A w l vs →
    (∀ id o, id ∈ d.vis → S.obj id = some o → Owns E id o → (∀ e xs, o ≠ .arr e xs) → A' (E.β id)) →
    RowsL (fun x c => PC A' w e x c) d.x vs ∧ d.x.length = n
  | 0, l, vs, d, h, hl, hv => by
    cases l with
    | cons v r => cases h
    | nil =>
      cases h
      simp only [RepL] at hl
      subst hl
      exact ⟨rfl, rfl⟩
  | n + 1, l, vs, d, h, hl, hv => by
    simp only [dataN] at h
    split at h
    · rename_i d1 h1
      split at h
      · rename_i d2 h2
        cases h
        obtain ⟨c1, r1, rfl, hr1, p1⟩ := data_sound hR hA e l vs d1 h1 hl (fun id o hi => hv id o (by simp [hi]))
        obtain ⟨q1, q2⟩ := dataN_sound hR hA e n _ _ d2 h2 hr1 (fun id o hi => hv id o (by simp [hi]))
        exact ⟨⟨c1, r1, rfl, p1, q1⟩, by simp [q2]⟩
      · cases h
    · cases h
theorem dataN_free {m : Nat} {h : Nat → Option Obj} (e : Sh) : ∀ (n : Nat) (l : List AV) (d : DC (.sl e)), dataN m h e n l = some d → ∀ id o, id ∈ d.vis → h id = some o → FreeM m id o
  | 0, l, d, q => by
    cases l with
    | cons v r => cases q
    | nil => cases q; intro id o hi; cases hi
  | n + 1, l, d, q => by
    simp only [dataN] at q
    split at q
    · rename_i d1 h1
      split at q
      · rename_i d2 h2
        cases q
        intro id o hi ho
        rcases List.mem_append.1 hi with hi | hi
        · exact data_free e l d1 h1 id o hi ho
        · exact dataN_free e n _ d2 h2 id o hi ho
      · cases q
    · cases q
theorem dataN_agree {m : Nat} {h h' : Nat → Option Obj} (e : Sh) : ∀ (n : Nat) (l : List AV) (d : DC (.sl e)), dataN m h e n l = some d → (∀ id, id ∈ d.vis → h' id = h id) → dataN m h' e n l = some d
  | 0, l, d, q, _ => by
    cases l with
    | cons v r => cases q
    | nil => exact q
  | n + 1, l, d, q, hv => by
    simp only [dataN] at q ⊢
    split at q
    · rename_i d1 h1
      split at q
      · rename_i d2 h2
        cases q
        rw [data_agree e l d1 h1 (fun id hi => hv id (by simp [hi]))]
        simp only
        rw [dataN_agree e n _ d2 h2 (fun id hi => hv id (by simp [hi]))]
      · cases q
    · cases q
section
variable {C : Ctx} {S : AS} {E : Env} {a : Act} {w : World} {G : Gl}
theorem RepE.dataN (h : RepE C S E a w) {m : Nat} (hm : m = C.m) {e : Sh} {n : Nat} {l : List AV} {vs : List Value} {d : DC (.sl e)} (hd : dataN m S.obj e n l = some d) (hl : RepL (Dom S) E (Al C S E w) w l vs) :
    RepE C (S.setObjs (frz S.obj d.vis)) E a w ∧ Ext (Dom S) E (Al C S E w) w (Dom (S.setObjs (frz S.obj d.vis))) E (Al C (S.setObjs (frz S.obj d.vis)) E w) w ∧
      RowsL (fun x c => PC (Al C (S.setObjs (frz S.obj d.vis)) E w) w e x c) d.x vs ∧ d.x.length = n := by
  obtain ⟨h1, h2, h3⟩ := h.release d.vis (fun id o hi ho => Free.of hm (dataN_free e n l d hd id o hi ho))
  exact ⟨h1, h2, dataN_sound h.h.objs (fun b hb => (h2.a b hb).1) e n l vs d hd hl h3⟩

/-- What is laid new at an object's own number: a list. -/
theorem RepE.newRow (h : RepE C S E a w) {id : Nat} (hid : S.obj id = none) {e : Sh} {et : TypeId} {xs : List e.T} {cells : List Value} {cur : Array Value} {cap : Nat} (hr : RowsL (fun x c => PC (Al C S E w) w e x c) xs cells)
    (ht : cur.toList.take (xs.length * e.size) = cells) (hc : cur.size = cap * e.size) (hl : xs.length ≤ cap) (hm : cap ≤ maxLen) :
    ∃ E', RepE C (S.setObjs [(id, .grow false e et xs)]) E' a (w.alloc (.cells cur et)) ∧ Ext (Dom S) E (Al C S E w) w (Dom (S.setObjs [(id, .grow false e et xs)])) E' (Al C (S.setObjs [(id, .grow false e et xs)]) E' (w.alloc (.cells cur et))) (w.alloc (.cells cur et)) ∧
      E'.σ id = .slice (some ⟨w.heap.size, 0, none⟩) xs.length cap := by
  have := h.alloc hid (.grow false e et xs) (.cells cur et) ⟨_, _, rfl⟩ (some ⟨w.heap.size, 0, none⟩, xs.length, cap) xs.length (by
    intro D' A' ext _
    refine ⟨by simp, .inr ⟨cap, cur, cells, by simp, ?_, hl, hm, hc, hr.imp (fun _ _ => ext.pc), ht⟩⟩
    simp only [upd_β]
    exact heap_alloc_new w _)
  exact ⟨_, this.1, this.2, by simp⟩
theorem RepE.newArr (h : RepE C S E a w) {id : Nat} (hid : S.obj id = none) {e : Sh} {et : TypeId} {xs : List e.T} {cells : List Value} (hr : RowsL (fun x c => PC (Al C S E w) w e x c) xs cells) :
    ∃ E', RepE C (S.setObjs [(id, .arr e xs)]) E' a (w.alloc (.cells cells.toArray et)) ∧ E'.β id = w.heap.size ∧ Dom (S.setObjs [(id, .arr e xs)]) id := by
  have := h.alloc hid (.arr e xs) (.cells cells.toArray et) ⟨_, _, rfl⟩ (none, 0, 0) xs.length (by
    intro D' A' ext _
    refine ⟨by simp, cells, et, ?_, hr.imp (fun _ _ => ext.pc)⟩
    simp only [upd_β]
    exact heap_alloc_new w _)
  exact ⟨_, this.1, by simp, by unfold Dom; rw [obj_cons]; simp⟩
theorem RepE.newCells (h : RepE C S E a w) {id : Nat} (hid : S.obj id = none) {et : TypeId} {cs : List AV} {vs : List Value} (hr : RepL (Dom S) E (Al C S E w) w cs vs) :
    ∃ E', RepE C (S.setObjs [(id, .cells cs)]) E' a (w.alloc (.cells vs.toArray et)) ∧ E'.β id = w.heap.size ∧ Dom (S.setObjs [(id, .cells cs)]) id := by
  have := h.alloc hid (.cells cs) (.cells vs.toArray et) ⟨_, _, rfl⟩ (none, 0, 0) 0 (by
    intro D' A' ext _
    refine ⟨vs, et, ?_, ext.repL hr⟩
    simp only [upd_β]
    exact heap_alloc_new w _)
  exact ⟨_, this.1, by simp, by unfold Dom; rw [obj_cons]; simp⟩

theorem zero_run {P : Program} {t : TypeId} {ti : TI} (ht : TIOK P G.ty t ti) : ∃ i z, P.info? t = some i ∧ i.zero = some z ∧ z.cells.size = ti.size ∧ i.size = ti.size ∧ i.bytes = ti.bytes ∧ ZeroOK G.ty ti z.cells.toList := by
  obtain ⟨i, hi, h1, h2⟩ := ht.info
  obtain ⟨z, h3, h4, h5⟩ := ht.zero i hi
  exact ⟨i, z, hi, h3, h4, h1, h2, h5⟩
theorem zero_zc {ti : TI} {zs : List Value} (h : ZeroOK G.ty ti zs) (hd : ti.dat = true) : ZC ti.sh zs := by
  unfold TI.dat at hd
  split at hd
  · cases hd
  · rename_i hnd
    unfold ZeroOK at h
    rw [hnd] at h
    cases htd : ti.td <;> rw [htd] at h hd <;> first | exact h | cases hd
theorem zero_data {ti : TI} {zs : List Value} (h : ZeroOK G.ty ti zs) (hd : ti.dat = true) : ∀ A w, PC A w ti.sh ti.sh.dflt zs := fun _ _ => ZC.pc (zero_zc h hd)
/-- The row of an array's type. -/
theorem zero_arr {ti : TI} {zs : List Value} (h : ZeroOK G.ty ti zs) {n : Nat} {e : TypeId} (htt : ti.td = .arr n e) : ∀ te, G.ty e = some te → n * te.size = ti.size ∧ (te.td ≠ .fn → ∀ A w, RowsL (fun x c => PC A w te.sh x c) (List.replicate n te.sh.dflt) zs) := by
  unfold ZeroOK at h
  have : ti.nds = false := by unfold TI.nds; rw [htt]
  rw [this, htt] at h
  exact h
theorem dat_fn {ti : TI} (hd : ti.dat = true) : ti.td ≠ .fn := by
  intro q
  unfold TI.dat at hd
  split at hd
  · cases hd
  · rw [q] at hd; cases hd
theorem encZ_ok {D : Nat → Prop} {E : Env} {A : Nat → Prop} {w : World} : ∀ {s : Sh} {cs : List Value}, ZC s cs → RepL D E A w (encZ s) cs
  | .int _, _, h => by rw [show _ = _ from h]; simp [encZ, RepL, RepV]
  | .bool, _, h => by rw [show _ = _ from h]; simp [encZ, RepL, RepV]
  | .str, _, h => by rw [show _ = _ from h]; simp [encZ, RepL, RepV]
  | .unit, _, h => by rw [show _ = _ from h]; simp [encZ, RepL]
  | .pair _ _, _, ⟨c1, c2, e, h1, h2⟩ => by rw [e]; exact repL_append.2 ⟨c1, c2, rfl, encZ_ok h1, encZ_ok h2⟩
  | .st a, _, h => encZ_ok (s := a) h
  | .sl _, _, h => by rw [show _ = _ from h]; simp [encZ, RepL, RepV]
  | .ptr _, _, h => by rw [show _ = _ from h]; simp [encZ, RepL, RepV]
theorem alloc_ok {t : TypeId} {ti : TI} {e : Eff} {nid : Nat} (hty : TyOK C.P G) (h : RepE C S E a w) (hn : S.obj nid = none) (ht : TIOK C.P G.ty t ti) {o : Oper} (ho : o.op = .alloc t)
    (he : (evAlloc G nid ti).sat (· = e)) : OpWP C S a w o e := by
  obtain ⟨i, z, hi, hz, hzs, his, hib, hok⟩ := zero_run ht
  have hrun : (execOp a.eval o).run C.P w = .ok (.value (.pointer (some ⟨w.heap.size, 0, none⟩))) (w.alloc (.cells z.cells t)) := by
    simp [execOp, ho, Instr.alloc, zeroValue, typeInfo, hi, hz, newVar, newRow]
  have hcells : z.cells = z.cells.toList.toArray := by simp
  unfold evAlloc at he
  split at he
  · rename_i n el htt
    split at he
    · rename_i te hg
      split at he
      · rename_i hdata
        cases he
        obtain ⟨hns, hrows⟩ := zero_arr hok htt te hg
        have hrows := hrows (dat_fn hdata) (Al C S E w) w
        obtain ⟨E', r1, r2, r3⟩ := h.newArr hn (et := t) hrows
        rw [← hcells] at r1
        refine OpWP.run hrun r1 ?_
        simp only [RepV]
        exact ⟨r3, by rw [r2]⟩
      · cases he
    · cases he
  · split at he
    · rename_i hcb
      cases he
      have hdata : ti.dat = true := by
        unfold zeroZ at hcb
        split at hcb
        · assumption
        · split at hcb
          · simp [rep, cellsB, AV.cellB] at hcb
          · simp [cellsB, AV.cellB] at hcb
      have hz' : zeroZ ti = encZ ti.sh := by unfold zeroZ; rw [hdata]
      obtain ⟨E', r1, r2, r3⟩ := h.newCells hn (et := t) (cs := zeroZ ti) (vs := z.cells.toList) (by rw [hz']; exact encZ_ok (zero_zc hok hdata))
      rw [← hcells] at r1
      refine OpWP.run hrun r1 ?_
      simp only [RepV]
      exact ⟨r3, by rw [r2]⟩
    · cases he
theorem box_ok {t : TypeId} {ti : TI} {x : Operand} {e : Eff} {nid : Nat} (hm : G.m = C.m) (h : RepE C S E a w) (hn : S.obj nid = none) {o : Oper} (ho : o.op = .box t x)
    (he : (newObj G S nid ti (S.ev x)).sat (· = e)) : OpWP C S a w o e := by
  have hx := h.ev x
  have hrun : (execOp a.eval o).run C.P w = .ok (.value (.pointer (some ⟨w.heap.size, 0, none⟩))) (w.alloc (.cells (a.eval x).cells t)) := by
    simp [execOp, ho, Instr.box, newVar, newRow]
  have hcells : (a.eval x).cells = (a.eval x).cells.toList.toArray := by simp
  unfold newObj at he
  split at he
  · rename_i n el l htt hl
    split at he
    · rename_i te hg
      split at he
      · rename_i d hd
        cases he
        rw [hl] at hx
        simp only [RepV] at hx
        obtain ⟨vs, hv, hx2⟩ := hx
        obtain ⟨r1, r2, r3, _⟩ := h.dataN hm hd hx2
        have hn' : (S.setObjs (frz S.obj d.vis)).obj nid = none := by
          rw [obj_frz]
          split
          · rw [hn]
          · exact hn
        obtain ⟨E', s1, s2, s3⟩ := r1.newArr hn' (et := t) r3
        refine OpWP.run (w' := w.alloc (.cells vs.toArray t)) (by rw [hrun, hv]; rfl) s1 ?_
        simp only [RepV]
        exact ⟨s3, by rw [s2]⟩
      · cases he
    · cases he
  · cases he
  · split at he
    · rename_i hcb
      cases he
      obtain ⟨E', r1, r2, r3⟩ := h.newCells hn (et := t) (cellsAV_ok hx hcb)
      rw [← hcells] at r1
      refine OpWP.run hrun r1 ?_
      simp only [RepV]
      exact ⟨r3, by rw [r2]⟩
    · cases he
theorem rows_false {A : Nat → Prop} : ∀ n : Nat, RowsL (fun (x : Bool) c => PC A w .bool x c) (List.replicate n false) (List.replicate n (.bool false))
  | 0 => rfl
  | n + 1 => ⟨[.bool false], List.replicate n (.bool false), rfl, rfl, rows_false n⟩
theorem evBox_ok {t : TypeId} {ti : TI} {x : Operand} {e : Eff} {nid : Nat} (hm : G.m = C.m) (h : RepE C S E a w) (hn : S.obj nid = none) {o : Oper} (ho : o.op = .box t x)
    (he : (evBox G S nid ti (S.ev x)).sat (· = e)) : OpWP C S a w o e := by
  unfold evBox at he
  split at he
  · rename_i n heq
    cases he
    have hx := h.ev x
    rw [heq] at hx
    simp only [RepV] at hx
    have hrun : (execOp a.eval o).run C.P w = .ok (.value (.pointer (some ⟨w.heap.size, 0, none⟩))) (w.alloc (.cells (a.eval x).cells t)) := by
      simp [execOp, ho, Instr.box, newVar, newRow]
    obtain ⟨E', s1, s2, s3⟩ := h.newArr (e := .bool) (xs := List.replicate n false) hn (et := t) (rows_false (w := w) (A := Al C S E w) n)
    refine OpWP.run (w' := w.alloc (.cells (List.replicate n (.bool false)).toArray t)) (by rw [hrun, hx]; rfl) s1 ?_
    simp only [RepV]
    exact ⟨s3, by rw [s2]⟩
  · split at he
    · exact box_ok hm h hn ho he
    · cases he
end
end Go.Rx

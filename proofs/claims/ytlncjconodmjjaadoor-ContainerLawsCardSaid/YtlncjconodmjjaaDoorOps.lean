/- Rx, part 6: each operation, as the machine carries it out, comes to what the evaluator says. -/
import Derived.Test.YtlncjconodmjjaaDoorData
namespace Go.Rx
set_option linter.unusedVariables false
set_option linter.unusedSimpArgs false

def tdOf : TypeDesc → TD
  | .int k => .int k
  | .bool => .bool
  | .string => .str
  | .slice e => .sl e
  | .pointer e => .ptr e
  | .struct fs => .st (fs.toList.map fun f => (f.offset, f.type))
  | .array n e => .arr n e
  | .func _ _ _ => .fn
  | _ => .other
def ZeroOK (ty : TypeId → Option TI) (ti : TI) (zs : List Value) : Prop :=
  match ti.nds with
  | true => 0 < ti.size
  | false => match ti.td with
  | .fn => True
  | .other => True
  | .arr n e => ∀ te, ty e = some te → n * te.size = ti.size ∧ (te.td ≠ .fn → ∀ A w, RowsL (fun x c => PC A w te.sh x c) (List.replicate n te.sh.dflt) zs)
  | _ => ∀ A w, PC A w ti.sh ti.sh.dflt zs
inductive EqInts : List Value → List Value → Bool → Prop
  | one (k : IntKind) (a b : Int) : EqInts [.int k a] [.int k b] (a == b)
  | cons (k : IntKind) (a b : Int) (l r : List Value) (c : Bool) : EqInts l r c → EqInts (.int k a :: l) (.int k b :: r) ((a == b) && c)
structure TIOK (P : Program) (ty : TypeId → Option TI) (t : TypeId) (ti : TI) : Prop where
  td : (P.underlying t).map tdOf = some ti.td
  inf : (P.info? t).map (fun i => (i.size, i.bytes)) = some (ti.size, ti.bytes)
  zero : ∀ i, P.info? t = some i → ∃ z, i.zero = some z ∧ z.cells.size = ti.size ∧ ZeroOK ty ti z.cells.toList
  eqs : ti.eqs = true → P.eqGuardType P.depth t = false ∧ ∀ w (l r : List Value) c, EqInts l r c → l.length = ti.size → (Op.equal t (.agg l.toArray) (.agg r.toArray)).run P w = .ok c w

theorem TIOK.desc {P : Program} {ty : TypeId → Option TI} {t : TypeId} {ti : TI} (h : TIOK P ty t ti) : ∃ d, P.underlying t = some d ∧ tdOf d = ti.td := by
  have := h.td
  cases hd : P.underlying t with
  | none => rw [hd] at this; cases this
  | some d => rw [hd] at this; exact ⟨d, rfl, by simpa using this⟩
theorem TIOK.info {P : Program} {ty : TypeId → Option TI} {t : TypeId} {ti : TI} (h : TIOK P ty t ti) : ∃ i, P.info? t = some i ∧ i.size = ti.size ∧ i.bytes = ti.bytes := by
  have := h.inf
  cases hd : P.info? t with
  | none => rw [hd] at this; cases this
  | some d => rw [hd] at this; simp at this; exact ⟨d, rfl, this.1, this.2⟩

section
variable {C : Ctx} {S : AS} {E : Env} {a : Act} {w : World}

def OpWP (C : Ctx) (S : AS) (a : Act) (w : World) (o : Oper) (e : Eff) : Prop :=
  ∀ (K : Act → World → Prop) (Q : Exit → Act → World → Prop), (∀ x w' E', RepE C (S.setObjs e.ws) E' a w' → RepV (Dom (S.setObjs e.ws)) E' (Al C (S.setObjs e.ws) E' w') w' e.v x → K (a.put o.dst x) w') → o.wp C.P a w K Q
theorem OpWP.run {o : Oper} {e : Eff} {x : Value} {w' : World} {E' : Env} (hr : (execOp a.eval o).run C.P w = .ok (.value x) w') (h : RepE C (S.setObjs e.ws) E' a w')
    (hx : RepV (Dom (S.setObjs e.ws)) E' (Al C (S.setObjs e.ws) E' w') w' e.v x) : OpWP C S a w o e := by
  intro K Q hK
  unfold Oper.wp
  rw [hr]
  exact hK x w' E' h hx
theorem OpWP.pure (h : RepE C S E a w) {o : Oper} {v : AV} {rd : List Nat} {dec : List (Nat × Bool)} {x : Value} (hr : (execOp a.eval o).run C.P w = .ok (.value x) w)
    (hx : RepV (Dom S) E (Al C S E w) w v x) : OpWP C S a w o ⟨v, [], rd, dec⟩ := OpWP.run (e := ⟨v, [], rd, dec⟩) hr h hx

theorem leaf_ok {D : Nat → Prop} {E : Env} {A : Nat → Prop} {w : World} {v : Value} : RepV D E A w (ofLeaf v) v := by
  unfold ofLeaf
  split <;> simp [RepV, RepL]
theorem const_ok {D : Nat → Prop} {E : Env} {A : Nat → Prop} {w : World} {v : Value} : RepV D E A w (ofConst v) v := by
  unfold ofConst
  split
  · rename_i cs
    simp only [RepV]
    refine ⟨cs.toList, by simp, ?_⟩
    generalize cs.toList = l
    induction l with
    | nil => simp [RepL]
    | cons x l ih => simp only [List.map_cons, RepL]; exact ⟨x, l, rfl, leaf_ok, ih⟩
  · simp [RepV, RepL]
  · exact leaf_ok
theorem RepE.ev (h : RepE C S E a w) (x : Operand) : RepV (Dom S) E (Al C S E w) w (S.ev x) (a.eval x) := by
  cases x with
  | tmp t => exact h.t t
  | const v => exact const_ok
  | global g => simp [AS.ev, Act.eval, RepV]
  | func f => simp [AS.ev, Act.eval, RepV, RepL]
theorem RepE.evs (h : RepE C S E a w) : ∀ (l : List Operand), RepL (Dom S) E (Al C S E w) w (l.map S.ev) (l.map a.eval)
  | [] => by simp [RepL]
  | x :: l => by simp only [List.map_cons, RepL]; exact ⟨_, _, rfl, h.ev x, h.evs l⟩

theorem enc_ok {D : Nat → Prop} {E : Env} {A : Nat → Prop} {w : World} : ∀ {e : Sh} {x : e.T} {c : List Value}, PC A w e x c → RepL D E A w (enc e x) c
  | .int _, _, _, h => by simp only [enc, RepL, RepV]; exact ⟨_, [], h, rfl, rfl⟩
  | .bool, _, _, h => by simp only [enc, RepL, RepV]; exact ⟨_, [], h, rfl, rfl⟩
  | .str, _, _, h => by simp only [enc, RepL, RepV]; exact ⟨_, [], h, rfl, rfl⟩
  | .unit, _, _, h => by simp only [enc, RepL]; exact h
  | .pair a b, _, _, ⟨c1, c2, e, h1, h2⟩ => by simp only [enc]; exact repL_append.2 ⟨c1, c2, e, enc_ok h1, enc_ok h2⟩
  | .st a, _, _, h => by simp only [enc]; exact enc_ok (e := a) h
  | .sl e, _, _, h => by
    obtain ⟨ad, cap, e1, h1⟩ := id h
    subst e1
    simp only [enc, RepL, RepV]
    exact ⟨_, [], rfl, h, rfl⟩
  | .ptr e, x, _, h => by
    cases x with
    | none =>
      have e1 : _ = _ := h
      subst e1
      simp only [enc, RepL, RepV]
      exact ⟨_, [], rfl, h, rfl⟩
    | some x =>
      obtain ⟨ad, c, e1, h1⟩ := id h
      subst e1
      simp only [enc, RepL, RepV]
      exact ⟨_, [], rfl, h, rfl⟩

theorem cell_one {D : Nat → Prop} {E : Env} {A : Nat → Prop} {w : World} {v : AV} {x : Value} (h : RepV D E A w v x) (hv : v.cellB = true) : x.oneCell' = true ∧ x.cells = #[x] := by
  cases v <;> simp only [RepV] at h <;> first
    | (cases hv; done)
    | (subst h; exact ⟨rfl, rfl⟩)
    | skip
  case anyB => obtain ⟨_, e⟩ := h; subst e; exact ⟨rfl, rfl⟩
  case psl => obtain ⟨_, _, e, _⟩ := h; cases e; exact ⟨rfl, rfl⟩
  case ppt e x =>
    cases x with
    | none => have e1 : _ = _ := h; cases e1; exact ⟨rfl, rfl⟩
    | some x => obtain ⟨_, _, e, _⟩ := h; cases e; exact ⟨rfl, rfl⟩
  case own id => obtain ⟨_, rfl⟩ := h; exact ⟨rfl, rfl⟩
  case optr => obtain ⟨_, rfl⟩ := h; exact ⟨rfl, rfl⟩
  case oel => obtain ⟨_, _, rfl⟩ := h; exact ⟨rfl, rfl⟩
  case pel => obtain ⟨_, _, _, _, _, _, rfl⟩ := h; exact ⟨rfl, rfl⟩
  case pfl => obtain ⟨_, _, _, _, _, rfl⟩ := h; exact ⟨rfl, rfl⟩
  case fn => obtain ⟨_, _, rfl, _⟩ := h; exact ⟨rfl, rfl⟩
theorem cells_one {D : Nat → Prop} {E : Env} {A : Nat → Prop} {w : World} : ∀ {l : List AV} {vs : List Value}, RepL D E A w l vs → cellsB l = true → ∀ x ∈ vs, x.oneCell' = true
  | [], _, h, _ => by simp only [RepL] at h; subst h; simp
  | v :: l, _, h, hv => by
    simp only [RepL] at h
    obtain ⟨x, t, rfl, h1, h2⟩ := h
    have hc : v.cellB = true ∧ cellsB l = true := by
      simp only [cellsB] at hv
      split at hv
      · exact ⟨by assumption, hv⟩
      · cases hv
    intro y hy
    rcases List.mem_cons.1 hy with rfl | hy
    · exact (cell_one h1 hc.1).1
    · exact cells_one h2 hc.2 y hy
/-- A value's cells. -/
theorem cellsAV_ok {D : Nat → Prop} {E : Env} {A : Nat → Prop} {w : World} {v : AV} {x : Value} (h : RepV D E A w v x) (hv : cellsB (cellsAV v) = true) : RepL D E A w (cellsAV v) x.cells.toList := by
  by_cases hc : v.cellB = true
  · have h1 := (cell_one h hc).2
    have h2 : cellsAV v = [v] := by cases v <;> first | rfl | cases hc
    rw [h1, h2]
    simp only [RepL]
    exact ⟨x, [], rfl, h, rfl⟩
  · cases v <;> first | (exact absurd rfl hc) | skip
    · simp [cellsAV, cellsB, AV.cellB] at hv
    · simp [cellsAV, cellsB, AV.cellB] at hv
    · simp [cellsAV, cellsB, AV.cellB] at hv
    · simp [cellsAV, cellsB, AV.cellB] at hv
    · simp only [RepV] at h
      obtain ⟨vs, rfl, h1⟩ := h
      simpa [cellsAV, Value.cells] using h1
    · simp [cellsAV, cellsB, AV.cellB] at hv
theorem cells_pc {A : Nat → Prop} {w : World} : ∀ {e : Sh} {x : e.T} {c : List Value}, PC A w e x c → ∀ v ∈ c, v.oneCell' = true
  | .int _, _, _, h => by rw [show _ = _ from h]; simp [Value.oneCell']
  | .bool, _, _, h => by rw [show _ = _ from h]; simp [Value.oneCell']
  | .str, _, _, h => by rw [show _ = _ from h]; simp [Value.oneCell']
  | .unit, _, _, h => by rw [show _ = _ from h]; simp
  | .pair a b, _, _, ⟨c1, c2, e, h1, h2⟩ => by
    intro v hv
    rw [e] at hv
    rcases List.mem_append.1 hv with hv | hv
    · exact cells_pc h1 v hv
    · exact cells_pc h2 v hv
  | .st a, _, _, h => cells_pc (e := a) h
  | .sl e, _, _, ⟨_, _, e1, _⟩ => by rw [e1]; simp [Value.oneCell']
  | .ptr e, x, _, h => by
    cases x with
    | none => rw [show _ = _ from h]; simp [Value.oneCell']
    | some x => obtain ⟨_, _, e1, _⟩ := h; rw [e1]; simp [Value.oneCell']

/-! ### Loads -/
theorem isAgg_ok {P : Program} {ty : TypeId → Option TI} {t : TypeId} {ti : TI} (ht : TIOK P ty t ti) (w : World) : (isAgg t).run P w = .ok ti.td.isAgg w := by
  obtain ⟨d, hd, he⟩ := ht.desc
  simp only [isAgg, Sem.run_bind, run_underlying hd, Result.andThen_ok]
  rw [← he]
  cases d <;> rfl
theorem sizeOf_ok {P : Program} {ty : TypeId → Option TI} {t : TypeId} {ti : TI} (ht : TIOK P ty t ti) (w : World) : (sizeOf t).run P w = .ok ti.size w := by
  obtain ⟨i, hi, h1, _⟩ := ht.info
  simp [sizeOf, typeInfo, hi, h1]
theorem load_cells {D : Nat → Prop} {E : Env} {A : Nat → Prop} {P : Program} {ty : TypeId → Option TI} {t : TypeId} {ti : TI} (ht : TIOK P ty t ti) {b o off : Nat} {cs : List AV} {vs : List Value} {v : AV}
    (hp : pickCells ti.td.isAgg ti.size off cs = some v) (hc : RepL D E A w cs vs) (ha : ∀ j u, vs[j]? = some u → w.cell? ⟨b, o + j, none⟩ = some u) :
    ∃ x, (loadVar t ⟨b, o + off, none⟩).run P w = .ok x w ∧ RepV D E A w v x := by
  unfold pickCells at hp
  simp only [loadVar, Sem.run_bind, isAgg_ok ht, Result.andThen_ok]
  cases hagg : ti.td.isAgg with
  | true =>
    rw [hagg] at hp
    simp only at hp
    split at hp
    · rename_i hle
      cases hp
      have hle := Nat.le_of_ble_eq_true hle
      have hl := repL_length hc
      have hrun := run_loadCells_list (P := P) w ⟨b, o + off, none⟩ ((vs.drop off).take ti.size) (by
        intro j u hu
        rw [List.getElem?_take] at hu
        split at hu
        · rw [List.getElem?_drop] at hu
          rw [Addr.add_lit, Nat.add_assoc]
          exact ha _ _ hu
        · cases hu)
      have hlen : ((vs.drop off).take ti.size).length = ti.size := by simp; omega
      rw [hlen] at hrun
      refine ⟨.agg ((vs.drop off).take ti.size).toArray, by simp [sizeOf_ok ht, hrun], ?_⟩
      simp only [RepV]
      exact ⟨_, rfl, (repL_take ti.size (repL_take off hc).2).1⟩
    · cases hp
  | false =>
    rw [hagg] at hp
    simp only at hp
    obtain ⟨x, hx, hr⟩ := repL_get hc hp
    refine ⟨x, by simp [ha off x hx], hr⟩
/-- The element's own datum. -/
theorem getD_some {T : Type} {xs : List T} {i : Nat} {d : T} (h : i < xs.length) : xs[i]? = some (xs.getD i d) := by
  simp [List.getD, List.getElem?_eq_getElem h]
theorem row_at {A : Nat → Prop} {b o : Nat} {e : Sh} {xs : List e.T} {cells : List Value} (hr : RowsL (fun x c => PC A w e x c) xs cells) (ha : ∀ j u, cells[j]? = some u → w.cell? ⟨b, o + j, none⟩ = some u) {i : Nat} (hi : i < xs.length) :
    ∃ c, PC A w e (xs.getD i e.dflt) c ∧ ∀ j u, c[j]? = some u → w.cell? ⟨b, o + i * e.size + j, none⟩ = some u := by
  obtain ⟨c, h1, h2⟩ := RowsL.get (fun x c (h : PC A w e x c) => h.length) i _ hr (getD_some hi)
  exact ⟨c, h1, fun j u hu => by rw [Nat.add_assoc]; exact ha _ _ (h2 j u hu)⟩
/-- The cells of an object that is a row of data. -/
theorem row_of {id : Nat} {e : Sh} {xs : List e.T} (h : RepE C S E a w) (ho : (∃ en et, S.obj id = some (.grow en e et xs)) ∨ S.obj id = some (.arr e xs) ∨ S.obj id = some (.froz e xs)) :
    E.ln id = xs.length ∧ (xs ≠ [] → ∃ cells, RowsL (fun x c => PC (Al C S E w) w e x c) xs cells ∧ ∀ j u, cells[j]? = some u → w.cell? ⟨E.β id, 0 + j, none⟩ = some u) := by
  rcases ho with ⟨en, et, ho⟩ | ho | ho
  · obtain ⟨h1, h2⟩ := h.h.objs id _ ho
    refine ⟨h1, fun hx => ?_⟩
    rcases h2 with ⟨_, h3⟩ | ⟨cap, cur, cells, h3, h4, h5, h6, h7, h8, h9⟩
    · exact absurd h3 hx
    · refine ⟨cells, h8, fun j u hu => ?_⟩
      rw [← h9, List.getElem?_take] at hu
      split at hu
      · simp only [World.cell?, h4, Nat.zero_add]; simpa using hu
      · cases hu
  · obtain ⟨h1, cells, et, h2, h3⟩ := h.h.objs id _ ho
    exact ⟨h1, fun _ => ⟨cells, h3, fun j u hu => by simp only [World.cell?, h2, Nat.zero_add]; simpa using hu⟩⟩
  · obtain ⟨h1, h2, h3⟩ := h.h.objs id _ ho
    refine ⟨h1, fun hx => ?_⟩
    obtain ⟨ad, cap, e1, _, h4⟩ := h2
    obtain ⟨cap', e2⟩ := h3 hx
    obtain ⟨ad', e3, _, _, cells, h5, h6⟩ := h4 hx
    rw [e2] at e1
    cases e1
    cases e3
    exact ⟨cells, h5, h6⟩
theorem load_ok {G : Gl} {ti : TI} {t : TypeId} {x : Operand} {e : Eff} (h : RepE C S E a w) (ht : TIOK C.P G.ty t ti) {o : Oper} (ho : o.op = .load t x)
    (he : (evLoad S ti (S.ev x)).sat (· = e)) : OpWP C S a w o e := by
  have hx := h.ev x
  have fin : ∀ {b off : Nat} {v : AV} {rd : List Nat} {cs : List AV} {vs : List Value} {o' : Nat}, a.eval x = .pointer (some ⟨b, o' + off, none⟩) → pickCells ti.td.isAgg ti.size off cs = some v → RepL (Dom S) E (Al C S E w) w cs vs →
      (∀ j u, vs[j]? = some u → w.cell? ⟨b, o' + j, none⟩ = some u) → OpWP C S a w o ⟨v, [], rd, []⟩ := by
    intro b off v rd cs vs o' hv hp hc ha
    obtain ⟨y, hr, hy⟩ := load_cells (P := C.P) ht hp hc ha
    refine OpWP.pure h (x := y) ?_ hy
    simp [execOp, ho, Instr.loadAt, hv, Instr.sureAddr, hr]
  have row : ∀ {id i off : Nat} {e1 : Sh} {xs : List e1.T} {v : AV}, ((∃ en et, S.obj id = some (.grow en e1 et xs)) ∨ S.obj id = some (.arr e1 xs) ∨ S.obj id = some (.froz e1 xs)) → ∀ {sz : Nat}, i < E.ln id → a.eval x = .pointer (some ⟨E.β id, i * sz + off, none⟩) →
      sz = e1.size → pickCells ti.td.isAgg ti.size off (enc e1 (xs.getD i e1.dflt)) = some v → OpWP C S a w o ⟨v, [], [id], []⟩ := by
    intro id i off e1 xs v hob sz hi hv hsz hp
    obtain ⟨h1, h2⟩ := row_of h hob
    have hi' : i < xs.length := by omega
    obtain ⟨cells, h3, h4⟩ := h2 (by intro q; rw [q] at hi'; simp at hi')
    obtain ⟨c, h5, h6⟩ := row_at h3 h4 hi'
    refine fin (o' := 0 + i * e1.size) ?_ hp (enc_ok h5) h6
    rw [hv, hsz]
    simp
  unfold evLoad at he
  split at he
  · rename_i id off heq
    rw [heq] at hx
    simp only [RepV] at hx
    split at he
    · rename_i cs hob
      split at he
      · rename_i v hp
        cases he
        obtain ⟨vs, et, h1, h2⟩ := h.h.objs id _ hob
        refine fin (b := E.β id) (o' := 0) (by rw [hx.2]; simp) hp h2 (fun j u hu => ?_)
        simp only [World.cell?, h1, Nat.zero_add]
        simpa using hu
      · cases he
    · cases he
  · rename_i id sz i off heq
    rw [heq] at hx
    simp only [RepV] at hx
    split at he
    all_goals first | (cases he; done) | skip
    · rename_i hob
      split at he
      · rename_i v hb hp
        cases he
        exact row (.inl ⟨_, _, hob⟩) hx.2.1 hx.2.2 (Nat.eq_of_beq_eq_true hb) hp
      · cases he
    · rename_i hob
      split at he
      · rename_i v hb hp
        cases he
        exact row (.inr (.inl hob)) hx.2.1 hx.2.2 (Nat.eq_of_beq_eq_true hb) hp
      · cases he
    · rename_i hob
      split at he
      · rename_i v hb hp
        cases he
        exact row (.inr (.inr hob)) hx.2.1 hx.2.2 (Nat.eq_of_beq_eq_true hb) hp
      · cases he
  · rename_i e1 xs i off heq
    rw [heq] at hx
    simp only [RepV] at hx
    split at he
    · rename_i v hp
      cases he
      obtain ⟨ad, cells, h1, h2, h3, h4, h5⟩ := hx
      obtain ⟨c, h6, h7⟩ := row_at (b := ad.block) (o := ad.off) h2 h3 h4
      exact fin (o' := ad.off + i * e1.size) (by rw [h5, Nat.add_assoc]) hp (enc_ok h6) h7
    · cases he
  · rename_i e1 y off heq
    rw [heq] at hx
    simp only [RepV] at hx
    split at he
    · rename_i v hp
      cases he
      obtain ⟨ad, c, h1, h2, h3, h4⟩ := hx
      exact fin (o' := ad.off) h4 hp (enc_ok h2) h3
    · cases he
  · cases he

/-! ### Stores -/
theorem OpWP.unit {o : Oper} {e : Eff} {w' : World} {E' : Env} (hr : (execOp a.eval o).run C.P w = .ok .skip w') (h : RepE C (S.setObjs e.ws) E' a w') (hv : e.v = .unk) : OpWP C S a w o e := by
  intro K Q hK
  unfold Oper.wp
  rw [hr]
  exact hK undef w' E' h (by rw [hv]; simp [RepV])
theorem storeVar_ok {P : Program} {ty : TypeId → Option TI} {t : TypeId} {ti : TI} (ht : TIOK P ty t ti) {g off : Nat} {cur : Array Value} {et : TypeId} {v : Value} (hg : w.heap[g]? = some (.cells cur et (0, 0)))
    (hs : v.cells.size = ti.size) (hf : off + ti.size ≤ cur.size) (h1 : ∀ x ∈ v.cells.toList, x.oneCell' = true) :
    (storeVar t ⟨g, off, none⟩ v).run P w = .ok () (w.setRow g (cur.toList.take off ++ v.cells.toList ++ cur.toList.drop (off + ti.size)).toArray) := by
  have hst := run_storeCells_at P g off et v.cells.toList 0 cur w hg (by simp; omega) h1
  simp only [Nat.add_zero, Array.length_toList, hs] at hst
  simp only [storeVar, Sem.run_bind, sizeOf_ok ht, Result.andThen_ok, Sem.run_ite, hs]
  simp only [ne_eq, not_true_eq_false, if_false]
  exact hst
theorem repL_splice {D : Nat → Prop} {E : Env} {A : Nat → Prop} {l r : List AV} {vs us : List Value} (off : Nat) (h : RepL D E A w l vs) (h2 : RepL D E A w r us) :
    RepL D E A w (splice l off r) (vs.take off ++ us ++ vs.drop (off + us.length)) := by
  unfold splice
  rw [repL_length h2]
  exact repL_append.2 ⟨_, _, rfl, repL_append.2 ⟨_, _, rfl, (repL_take off h).1, h2⟩, (repL_take _ h).2⟩
theorem dataAll_ok {m : Nat} {h : Nat → Option Obj} {e : Sh} {l : List AV} {d : DC e} (q : dataAll m h e l = some d) : dataC m h e l = some d ∧ d.rest = [] := by
  unfold dataAll at q
  split at q
  · rename_i hd
    cases q
    exact ⟨hd, rfl⟩
  · cases q
theorem Free.of {m : Nat} {id : Nat} {o : Obj} (hm : m = C.m) (h : FreeM m id o) : Free C id o := by
  subst hm
  cases o <;> exact h
/-- Cells taken for data: what they hold is given up. -/
theorem RepE.data (h : RepE C S E a w) {m : Nat} (hm : m = C.m) {e : Sh} {l : List AV} {vs : List Value} {d : DC e} (hd : dataAll m S.obj e l = some d) (hl : RepL (Dom S) E (Al C S E w) w l vs) :
    RepE C (S.setObjs (frz S.obj d.vis)) E a w ∧ Ext (Dom S) E (Al C S E w) w (Dom (S.setObjs (frz S.obj d.vis))) E (Al C (S.setObjs (frz S.obj d.vis)) E w) w ∧
      PC (Al C (S.setObjs (frz S.obj d.vis)) E w) w e d.x vs := by
  obtain ⟨hd, hr⟩ := dataAll_ok hd
  obtain ⟨h1, h2, h3⟩ := h.release d.vis (fun id o hi ho => Free.of hm (data_free e l d hd id o hi ho))
  refine ⟨h1, h2, ?_⟩
  obtain ⟨c, r, rfl, h4, h5⟩ := data_sound h.h.objs (fun b hb => (h2.a b hb).1) e l vs d hd hl h3
  rw [hr] at h4
  simp only [RepL] at h4
  subst h4
  rw [List.append_nil]
  exact h5
theorem hasId_iff {l : List Nat} {n : Nat} : hasId l n = true ↔ n ∈ l := by
  induction l with
  | nil => simp [hasId]
  | cons a l ih =>
    unfold hasId
    cases hb : Nat.beq a n with
    | true => simp [(Nat.eq_of_beq_eq_true hb).symm]
    | false =>
      have : n ≠ a := fun e => by rw [e, Nat.beq_refl] at hb; cases hb
      simp [ih, this]
theorem cut3 {α : Type} (l : List α) (p n : Nat) (h : p + n ≤ l.length) : ∃ A B D, l = A ++ B ++ D ∧ A.length = p ∧ B.length = n := by
  refine ⟨l.take p, (l.drop p).take n, (l.drop p).drop n, ?_, ?_, ?_⟩
  · rw [List.append_assoc, List.take_append_drop, List.take_append_drop]
  · simp; omega
  · simp; omega
theorem splice_cells {α : Type} (cur cells c v : List α) (L p n off : Nat) (hc : cur.take L = cells) (hL : L ≤ cur.length) (hp : p + n ≤ L) (hcn : c.length = n) (hcc : ∀ j, j < n → cells[p + j]? = c[j]?) (hv : off + v.length ≤ n) :
    (cur.take (p + off) ++ v ++ cur.drop (p + off + v.length)).take L = cells.take p ++ (c.take off ++ v ++ c.drop (off + v.length)) ++ cells.drop (p + n) := by
  have hcl : cells.length = L := by rw [← hc, List.length_take]; omega
  obtain ⟨A, B, D, e1, e2, e3⟩ := cut3 cells p n (by omega)
  have hB : B = c := by
    apply List.ext_getElem?
    intro j
    by_cases hj : j < n
    · rw [← hcc j hj, e1, List.append_assoc, List.getElem?_append_right (by omega), List.getElem?_append_left (by omega)]
      congr 1
      omega
    · rw [List.getElem?_eq_none (by omega), List.getElem?_eq_none (by omega)]
  subst hB
  obtain ⟨c1, c2, c3, f1, f2, f3⟩ := cut3 B off v.length (by omega)
  obtain ⟨T, hT⟩ : ∃ T, cur = cells ++ T := ⟨cur.drop L, by rw [← hc, List.take_append_drop]⟩
  have e4 : cur = (A ++ c1) ++ (c2 ++ (c3 ++ D ++ T)) := by rw [hT, e1, f1]; simp
  have l1 : (A ++ c1).length = p + off := by simp; omega
  have t1 : cur.take (p + off) = A ++ c1 := by rw [e4, ← l1, List.take_left]
  have t2 : cur.drop (p + off + v.length) = c3 ++ D ++ T := by rw [e4, ← List.drop_drop, ← l1, List.drop_left, ← f3, List.drop_left]
  have t3 : cells.take p = A := by rw [e1, ← e2, List.append_assoc, List.take_left]
  have t4 : cells.drop (p + n) = D := by rw [e1, ← List.drop_drop, ← e2, List.append_assoc, List.drop_left, ← e3, List.drop_left]
  have t5 : B.take off = c1 := by rw [f1, ← f2, List.append_assoc, List.take_left]
  have t6 : B.drop (off + v.length) = c3 := by rw [f1, ← List.drop_drop, ← f2, List.append_assoc, List.drop_left, ← f3, List.drop_left]
  rw [t1, t2, t3, t4, t5, t6]
  have l2 : (A ++ (c1 ++ v ++ c3) ++ D).length = L := by
    rw [← hcl, e1, f1]
    simp
    omega
  rw [show A ++ c1 ++ v ++ (c3 ++ D ++ T) = (A ++ (c1 ++ v ++ c3) ++ D) ++ T by simp, ← l2, List.take_left]
theorem store_row {G : Gl} {ti : TI} {t : TypeId} {x y : Operand} (hm : G.m = C.m) (h : RepE C S E a w) (ht : TIOK C.P G.ty t ti) {o : Oper} (ho : o.op = .store t x y)
    (hlen : (a.eval y).cells.size = ti.size) (hone : ∀ x ∈ (a.eval y).cells.toList, x.oneCell' = true) {vs : List AV} (hcs : RepL (Dom S) E (Al C S E w) w vs (a.eval y).cells.toList)
    {id i off : Nat} {e1 : Sh} {xs : List e1.T} {o1 : Obj} (o2 : List e1.T → Obj) {d : DC e1} {cur : Array Value} {et : TypeId} {cells : List Value}
    (hob : S.obj id = some o1) (hown : Owns E id o1) (hent : ∀ xs, Entry C id o1 → Entry C id (o2 xs)) (hi : i < xs.length) (hv : a.eval x = .pointer (some ⟨E.β id, i * e1.size + off, none⟩))
    (hoff : off + vs.length ≤ e1.size) (hheap : w.heap[E.β id]? = some (.cells cur et (0, 0))) (hrows : RowsL (fun x c => PC (Al C S E w) w e1 x c) xs cells)
    (htake : cur.toList.take (xs.length * e1.size) = cells) (hle : xs.length * e1.size ≤ cur.size)
    (hd : dataAll G.m S.obj e1 (splice (enc e1 (xs.getD i e1.dflt)) off vs) = some d) (hvis : id ∉ d.vis)
    (hmk : ∀ (D' A' : Nat → Prop) (w' : World) (cells' : List Value) (cur' : Array Value), cur'.size = cur.size → w'.heap[E.β id]? = some (.cells cur' et (0, 0)) → RowsL (fun x c => PC A' w' e1 x c) (xs.set i d.x) cells' →
      cur'.toList.take (xs.length * e1.size) = cells' → RepO D' E A' w' id (o2 (xs.set i d.x))) :
    OpWP C S a w o ⟨.unk, (id, o2 (xs.set i d.x)) :: frz S.obj d.vis, id :: d.vis, []⟩ := by
  obtain ⟨c, h5, h6⟩ := RowsL.get (fun x c (h : PC (Al C S E w) w e1 x c) => h.length) i _ hrows (getD_some (d := e1.dflt) hi)
  have hcl := h5.length
  have hnew := repL_splice off (enc_ok (D := Dom S) (E := E) h5) hcs
  obtain ⟨r1, r2, r3⟩ := h.data hm hd hnew
  have hvl : vs.length = ti.size := by rw [← repL_length hcs, ← hlen]; simp
  have h7 : (i + 1) * e1.size ≤ xs.length * e1.size := Nat.mul_le_mul_right _ hi
  rw [Nat.succ_mul] at h7
  have hst := storeVar_ok ht (off := i * e1.size + off) (v := a.eval y) hheap hlen (by omega) hone
  obtain ⟨cur', hcur'⟩ : ∃ c, c = (cur.toList.take (i * e1.size + off) ++ (a.eval y).cells.toList ++ cur.toList.drop (i * e1.size + off + ti.size)).toArray := ⟨_, rfl⟩
  rw [← hcur'] at hst
  have hyl : (a.eval y).cells.toList.length = ti.size := by simpa using hlen
  have hcsz : cur'.size = cur.size := by
    rw [hcur']
    simp
    omega
  have hob1 : (S.setObjs (frz S.obj d.vis)).obj id = some o1 := by rw [obj_frz, if_neg hvis]; exact hob
  have hw := r1.write (o' := o2 (xs.set i d.x)) (w' := w.setRow (E.β id) cur') hob1 hown (hent _) (later_setRow _ _ _) (by simp) (fun k hk => setRow_other w _ _ _ hk) (by
    intro D' A' ext
    have hrows' := RowsL.set (fun x c (h : PC (Al C (S.setObjs (frz S.obj d.vis)) E w) w e1 x c) => h.length) i d.x _ (hrows.imp (fun _ _ => r2.pc)) hi r3
    refine hmk D' A' _ _ cur' hcsz (setRow_heap w _ _ _ _ _ hheap) (hrows'.imp (fun _ _ => ext.pc)) ?_
    have := splice_cells cur.toList cells c (a.eval y).cells.toList (xs.length * e1.size) (i * e1.size) e1.size off htake (by simpa using hle) (by omega) hcl (fun j hj => by
      have q : c[j]? = some (c[j]'(by omega)) := List.getElem?_eq_getElem _
      rw [q]
      exact h6 j _ q) (by omega)
    rw [hyl] at this ⊢
    rw [hcur']
    simpa using this)
  refine OpWP.unit (w' := w.setRow (E.β id) cur') (E' := E) ?_ hw.1 rfl
  simp [execOp, ho, Instr.storeAt, hv, Instr.sureAddr, hst]
theorem store_ok {G : Gl} {ti : TI} {t : TypeId} {x y : Operand} {e : Eff} (hm : G.m = C.m) (h : RepE C S E a w) (ht : TIOK C.P G.ty t ti) {o : Oper} (ho : o.op = .store t x y)
    (he : (evStore G.m S ti (S.ev x) (S.ev y)).sat (· = e)) : OpWP C S a w o e := by
  have hx := h.ev x
  have hy := h.ev y
  unfold evStore at he
  split at he
  case h_2 => cases he
  rename_i hsz hcb
  have hsz := Nat.eq_of_beq_eq_true hsz
  have hcs := cellsAV_ok hy hcb
  have hlen : (a.eval y).cells.size = ti.size := by rw [← hsz, ← repL_length hcs]; simp
  have hone := cells_one hcs hcb
  split at he
  · rename_i id off heq
    rw [heq] at hx
    simp only [RepV] at hx
    split at he
    · rename_i cs hob
      split at he
      · rename_i hle
        cases he
        have hle := Nat.le_of_ble_eq_true hle
        obtain ⟨vs, et, h1, h2⟩ := h.h.objs id _ hob
        have hl := repL_length h2
        have hst := storeVar_ok ht (v := a.eval y) (off := off) h1 hlen (by simp; omega) hone
        have hyl : (a.eval y).cells.toList.length = ti.size := by simpa using hlen
        have hw := h.write (o' := .cells (splice cs off (cellsAV (S.ev y)))) (w' := w.setRow (E.β id) _) hob trivial (fun q => q) (later_setRow _ _ _) (by simp) (fun k hk => setRow_other w _ _ _ hk) (by
          intro D' A' ext
          refine ⟨vs.take off ++ (a.eval y).cells.toList ++ vs.drop (off + ti.size), et, setRow_heap w _ _ _ _ _ h1, ?_⟩
          have := repL_splice off (ext.repL h2) (ext.repL hcs)
          rw [hyl] at this
          exact this)
        refine OpWP.unit (w' := _) (E' := E) ?_ hw.1 rfl
        simp [execOp, ho, Instr.storeAt, hx.2, Instr.sureAddr, hst]
      · cases he
    · cases he
  · rename_i id sz i off heq
    rw [heq] at hx
    simp only [RepV] at hx
    split at he
    · rename_i en e1 et xs hob
      split at he
      · rename_i d hb hle hd
        split at he
        · rename_i hvis
          cases he
          have hb := Nat.eq_of_beq_eq_true hb
          subst hb
          have hle := Nat.le_of_ble_eq_true hle
          obtain ⟨q1, q2⟩ := h.h.objs id _ hob
          have hi : i < xs.length := by omega
          rcases q2 with ⟨_, q3⟩ | ⟨cap, cur, cells, q3, q4, q5, q6, q7, q8, q9⟩
          · rw [q3] at hi; simp at hi
          · refine store_row hm h ht ho hlen hone hcs (fun xs => .grow en e1 et xs) hob (by simp only [Owns]; rw [q3]; simp) (fun xs q => q) hi hx.2.2 hle q4 q8 q9 (by rw [q7]; exact Nat.mul_le_mul_right _ q5) hd
              (fun q => by rw [hasId_iff.2 q] at hvis; cases hvis) ?_
            intro D' A' w' cells' cur' r1 r2 r3 r4
            refine ⟨by simpa using q1, .inr ⟨cap, cur', cells', by simpa using q3, r2, by simpa using q5, q6, by rw [r1]; exact q7, r3, by simpa using r4⟩⟩
        · cases he
      · cases he
    · rename_i e1 xs hob
      split at he
      · rename_i d hb hle hd
        split at he
        · rename_i hvis
          cases he
          have hb := Nat.eq_of_beq_eq_true hb
          subst hb
          have hle := Nat.le_of_ble_eq_true hle
          obtain ⟨q1, cells, et, q2, q3⟩ := h.h.objs id _ hob
          have hi : i < xs.length := by omega
          have hl := q3.length (fun x c h => h.length)
          refine store_row hm h ht ho hlen hone hcs (fun xs => .arr e1 xs) hob trivial (fun xs q => q) hi hx.2.2 hle q2 q3 (by simp [← hl]) (by simp [hl]) hd
            (fun q => by rw [hasId_iff.2 q] at hvis; cases hvis) ?_
          intro D' A' w' cells' cur' r1 r2 r3 r4
          have hl' := r3.length (fun x c h => h.length)
          refine ⟨by simpa using q1, cells', et, ?_, r3⟩
          have : cur' = cells'.toArray := by
            rw [← r4, ← hl]
            have : cur'.size = cells.length := by simpa using r1
            rw [← this]
            apply Array.ext'
            show cur'.toList = List.take cur'.size cur'.toList
            rw [List.take_of_length_le (by simp)]
          rw [← this]
          exact r2
        · cases he
      · cases he
    · cases he
  · cases he
end
end Go.Rx

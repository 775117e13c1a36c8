/- Rx, part 1: abstract values (slices as lists), abstract states, and an evaluator of the model's Code over them. No theorem of the program is here. -/
import GoSem.Core.View
import GoSem.Core.Code
namespace Go.Rx
noncomputable section

inductive Sh where
  | int (k : IntKind) | bool | str | unit
  | pair (a b : Sh) | st (a : Sh) | sl (e : Sh) | ptr (e : Sh)
  deriving DecidableEq
@[reducible] def Sh.T : Sh → Type
  | .int _ => Int | .bool => Bool | .str => ByteArray | .unit => Unit
  | .pair a b => a.T × b.T | .st a => a.T | .sl e => List e.T | .ptr e => Option e.T
def Sh.size : Sh → Nat
  | .unit => 0 | .pair a b => a.size + b.size | .st a => a.size | _ => 1
def Sh.dflt : (s : Sh) → s.T
  | .int _ => (0 : Int) | .bool => false | .str => (ByteArray.mk #[]) | .unit => ()
  | .pair a b => (a.dflt, b.dflt) | .st a => a.dflt | .sl _ => [] | .ptr _ => none

/-- Trees of what may come: branches, checks, calls. -/
inductive Tree (α : Type) : Type 1 where
  | leaf (a : α)
  | br (b : Bool) (t e : Tree α)
  | chk (b : Bool) (t : Tree α)
  | bind (ρ : Type) (o : Option ρ) (k : ρ → Tree α)
  | alt (β γ : Type) (y : β ⊕ γ) (k : β → Tree α) (k' : γ → Tree α)
  | fail
def Tree.bnd {α β : Type} : Tree α → (α → Tree β) → Tree β
  | .leaf a, f => f a
  | .br b t e, f => .br b (t.bnd f) (e.bnd f)
  | .chk b t, f => .chk b (t.bnd f)
  | .bind ρ o k, f => .bind ρ o (fun r => (k r).bnd f)
  | .alt β γ y k k', f => .alt β γ y (fun r => (k r).bnd f) (fun r => (k' r).bnd f)
  | .fail, _ => .fail
def Tree.den {α R : Type} (L : α → Option R) : Tree α → Option R
  | .leaf a => L a
  | .br b t e => cond b (t.den L) (e.den L)
  | .chk b t => cond b (t.den L) none
  | .bind _ o k => o.bind (fun r => (k r).den L)
  | .alt _ _ y k k' => match y with | .inl r => (k r).den L | .inr r => (k' r).den L
  | .fail => none
def Tree.sat {α : Type} (Q : α → Prop) : Tree α → Prop
  | .leaf a => Q a
  | .br b t e => (b = true ∧ t.sat Q) ∨ (b = false ∧ e.sat Q)
  | .chk b t => b = true ∧ t.sat Q
  | .bind _ o k => ∃ r, o = some r ∧ (k r).sat Q
  | .alt _ _ y k k' => (∃ r, y = .inl r ∧ (k r).sat Q) ∨ (∃ r, y = .inr r ∧ (k' r).sat Q)
  | .fail => False

inductive AV where
  | unk
  | undef
  | anyB
  /-- an array of so many false -/
  | zb (n : Nat)
  | int (k : IntKind) (n : Int)
  | bool (b : Bool)
  | str (s : ByteArray)
  | nilsl
  | nilptr
  | glob (g : Nat)
  | psl (e : Sh) (xs : List e.T)
  | ppt (e : Sh) (x : Option e.T)
  | own (id : Nat)
  | optr (id off : Nat)
  | oel (id sz i off : Nat)
  /-- the rest of an own list, from one place on -/
  | otl (id sz lo : Nat)
  | pel (e : Sh) (xs : List e.T) (i off : Nat)
  | pfl (e : Sh) (x : e.T) (off : Nat)
  | fn (f : FuncId) (first caps : List AV)
  | agg (cs : List AV)
  | tup (vs : List AV)

def enc : (s : Sh) → s.T → List AV
  | .int k, n => [.int k n]
  | .bool, b => [.bool b]
  | .str, s => [.str s]
  | .unit, _ => []
  | .pair a b, x => enc a x.1 ++ enc b x.2
  | .st a, x => enc a x
  | .sl e, xs => [.psl e xs]
  | .ptr e, x => [.ppt e x]
/-- A datum as one value. -/
def valAV : (s : Sh) → s.T → AV
  | .int k, n => .int k n
  | .bool, b => .bool b
  | .str, s => .str s
  | .sl e, xs => .psl e xs
  | .ptr e, x => .ppt e x
  | s, x => .agg (enc s x)
def cellsAV : AV → List AV
  | .agg cs => cs
  | v => [v]

inductive Obj where
  | gone
  | grow (en : Bool) (e : Sh) (et : TypeId) (xs : List e.T)
  | froz (e : Sh) (xs : List e.T)
  | cells (cs : List AV)
  | arr (e : Sh) (xs : List e.T)

def look {α : Type} : List (Nat × α) → Nat → Option α
  | [], _ => none
  | p :: r, n => match Nat.beq p.1 n with | true => some p.2 | false => look r n

structure AS where
  t : List (Nat × AV)
  h : List (Nat × Obj)
  nx : Nat
  dec : List (Nat × Bool)
def AS.get (S : AS) (n : Nat) : AV := match look S.t n with | some v => v | none => .unk
def AS.obj (S : AS) (id : Nat) : Option Obj := look S.h id
def strike (n : Nat) : List (Nat × Bool) → List (Nat × Bool)
  | [] => []
  | p :: r => match Nat.beq p.1 n with | true => strike n r | false => p :: strike n r
def AS.put (S : AS) (d : Option Nat) (v : AV) : AS :=
  match d with
  | some d => { S with t := (d, v) :: S.t, dec := strike d S.dec }
  | none => S
def AS.setObjs (S : AS) (ws : List (Nat × Obj)) : AS := { S with h := ws ++ S.h }

def ofLeaf : Value → AV
  | .int k n => .int k n
  | .bool b => .bool b
  | .string s => .str s
  | .slice none 0 0 => .nilsl
  | .pointer none => .nilptr
  | .func (.func f) ⟨[]⟩ ⟨[]⟩ => .fn f [] []
  | _ => .unk
def ofConst : Value → AV
  | .agg cs => .agg (cs.toList.map ofLeaf)
  | .tuple ⟨[]⟩ => .tup []
  | v => ofLeaf v
def AS.ev (S : AS) : Operand → AV
  | .tmp t => S.get t
  | .const v => ofConst v
  | .func f => .fn f [] []
  | .global g => .glob g

/-- What is known of a type. -/
inductive TD where
  | int (k : IntKind) | bool | str | sl (e : TypeId) | ptr (e : TypeId) | st (fs : List (Nat × TypeId)) | arr (n : Nat) (e : TypeId) | fn | other
structure TI where
  td : TD
  sh : Sh
  size : Nat
  bytes : Nat
  /-- may values be compared, cell by cell? -/
  eqs : Bool := false
  /-- a struct of what is no data (of functions) -/
  nd : Bool := false
/-- Types whose values are data of their shape. -/
def TD.data : TD → Bool
  | .arr _ _ => false | .fn => false | .other => false | _ => true
def TD.isAgg : TD → Bool
  | .st _ => true | .arr _ _ => true | _ => false

def TI.nds (ti : TI) : Bool := match ti.td with | .st _ => ti.nd | _ => false
def TI.dat (ti : TI) : Bool := match ti.nds with | true => false | false => ti.td.data
/-- What a call, or a loop, comes to. -/
structure CS where
  ρ : Type
  o : Option ρ
  out : ρ → AV × List (Nat × Obj)
inductive AE where
  | norm | exit (id : Nat) | ret
structure LS where
  ρ : Type
  o : Option ρ
  tr : ρ → Tree (AE × AS)
structure Tab where
  e : Sh
  xs : List e.T
structure Gl where
  /-- how many objects came in, how many temporaries there are -/
  m : Nat
  n : Nat
  /-- tables that lie in package-level variables -/
  gl : Nat → Option Tab
  ty : TypeId → Option TI
  /-- which arguments of a call are handed over for good -/
  fz : FuncId → List Bool
  fn : FuncId → List AV → List Obj → Option CS
  lp : Nat → AS → Option LS

/-- What an operation comes to: its value, what is written, what was looked at, what has been decided. -/
structure Eff where
  v : AV
  ws : List (Nat × Obj)
  rd : List Nat
  dec : List (Nat × Bool)
abbrev Eff.pure (v : AV) : Eff := ⟨v, [], [], []⟩

/-! ### Cells as data -/
structure Dat where
  e : Sh
  x : e.T
def castL {e e' : Sh} (h : e' = e) (xs : List e'.T) : List e.T := h ▸ xs
def castO {e e' : Sh} (h : e' = e) (xs : Option e'.T) : Option e.T := h ▸ xs
def castT {e e' : Sh} (h : e' = e) (x : e'.T) : e.T := h ▸ x
structure DC (e : Sh) where
  x : e.T
  rest : List AV
  vis : List Nat
def dataC (m : Nat) (h : Nat → Option Obj) : (e : Sh) → List AV → Option (DC e)
  | .int k, .int k' n :: r => match decEq k' k with | isTrue _ => some ⟨n, r, []⟩ | isFalse _ => none
  | .bool, .bool b :: r => some ⟨b, r, []⟩
  | .str, .str s :: r => some ⟨s, r, []⟩
  | .unit, r => some ⟨(), r, []⟩
  | .pair a b, l =>
    match dataC m h a l with
    | some d => match dataC m h b d.rest with
      | some d' => some ⟨(d.x, d'.x), d'.rest, d.vis ++ d'.vis⟩
      | none => none
    | none => none
  | .st a, l => match dataC m h a l with | some d => some ⟨d.x, d.rest, d.vis⟩ | none => none
  | .sl e, .psl e' xs :: r => match decEq e' e with | isTrue q => some ⟨castL q xs, r, []⟩ | isFalse _ => none
  | .sl _, .nilsl :: r => some ⟨[], r, []⟩
  | .sl e, .own id :: r =>
    match h id with
    | some (.grow false e' _ xs) => match decEq e' e with | isTrue q => some ⟨castL q xs, r, [id]⟩ | isFalse _ => none
    | some (.froz e' xs) => match decEq e' e with | isTrue q => some ⟨castL q xs, r, [id]⟩ | isFalse _ => none
    | _ => none
  | .ptr e, .ppt e' x :: r => match decEq e' e with | isTrue q => some ⟨castO q x, r, []⟩ | isFalse _ => none
  | .ptr _, .nilptr :: r => some ⟨none, r, []⟩
  | .ptr e, .optr id 0 :: r =>
    match Nat.ble m id, h id with
    | true, some (.cells cs) => match dataC m h e cs with
      | some ⟨x, [], vis⟩ => some ⟨some x, r, id :: vis⟩
      | _ => none
    | _, _ => none
  | _, _ => none
/-- All cells as one datum. -/
def dataAll (m : Nat) (h : Nat → Option Obj) (e : Sh) (l : List AV) : Option (DC e) :=
  match dataC m h e l with
  | some ⟨x, [], vis⟩ => some ⟨x, [], vis⟩
  | _ => none
/-- A value as one datum (a struct is an aggregate, and nothing else is). -/
def dataV (m : Nat) (h : Nat → Option Obj) : (e : Sh) → AV → Option (DC e)
  | .st a, .agg cs => match dataAll m h a cs with | some d => some ⟨d.x, [], d.vis⟩ | none => none
  | .st _, _ => none
  | .pair _ _, _ => none
  | .unit, _ => none
  | _, .agg _ => none
  | e, v => dataAll m h e [v]
def frz (h : Nat → Option Obj) : List Nat → List (Nat × Obj)
  | [] => []
  | id :: r => match h id with
    | some (.grow _ e _ xs) => (id, .froz e xs) :: frz h r
    | some (.cells _) => (id, .gone) :: frz h r
    | _ => frz h r
def splice (cs : List AV) (off : Nat) (vs : List AV) : List AV := cs.take off ++ vs ++ cs.drop (off + vs.length)

def hasId : List Nat → Nat → Bool
  | [], _ => false
  | a :: r, n => match Nat.beq a n with | true => true | false => hasId r n

def meet : List Nat → List Nat → Bool
  | [], _ => false
  | a :: r, l => match hasId l a with | true => true | false => meet r l

/-! ### Operations -/
def withTy (G : Gl) (t : TypeId) (k : TI → Tree Eff) : Tree Eff := match G.ty t with | some ti => k ti | none => .fail

def pickCells (agg : Bool) (size off : Nat) (cs : List AV) : Option AV :=
  match agg with
  | true => match Nat.ble (off + size) cs.length with | true => some (.agg ((cs.drop off).take size)) | false => none
  | false => cs[off]?
def evLoad (S : AS) (ti : TI) : AV → Tree Eff
  | .optr id off => match S.obj id with
    | some (.cells cs) => match pickCells ti.td.isAgg ti.size off cs with | some v => .leaf ⟨v, [], [id], []⟩ | none => .fail
    | _ => .fail
  | .oel id sz i off => match S.obj id with
    | some (.grow _ e _ xs) => match Nat.beq sz e.size, pickCells ti.td.isAgg ti.size off (enc e (xs.getD i e.dflt)) with | true, some v => .leaf ⟨v, [], [id], []⟩ | _, _ => .fail
    | some (.arr e xs) => match Nat.beq sz e.size, pickCells ti.td.isAgg ti.size off (enc e (xs.getD i e.dflt)) with | true, some v => .leaf ⟨v, [], [id], []⟩ | _, _ => .fail
    | some (.froz e xs) => match Nat.beq sz e.size, pickCells ti.td.isAgg ti.size off (enc e (xs.getD i e.dflt)) with | true, some v => .leaf ⟨v, [], [id], []⟩ | _, _ => .fail
    | _ => .fail
  | .pel e xs i off => match pickCells ti.td.isAgg ti.size off (enc e (xs.getD i e.dflt)) with | some v => .leaf (.pure v) | none => .fail
  | .pfl e x off => match pickCells ti.td.isAgg ti.size off (enc e x) with | some v => .leaf (.pure v) | none => .fail
  | _ => .fail
def AV.cellB : AV → Bool
  | .unk => false
  | .undef => false
  | .zb _ => false
  | .otl _ _ _ => false
  | .agg _ => false
  | .tup _ => false
  | _ => true
def cellsB : List AV → Bool
  | [] => true
  | v :: r => match v.cellB with | true => cellsB r | false => false
def evStore (m : Nat) (S : AS) (ti : TI) (a v : AV) : Tree Eff :=
  match Nat.beq (cellsAV v).length ti.size, cellsB (cellsAV v) with
  | true, true =>
    match a with
    | .optr id off => match S.obj id with
      | some (.cells cs) => match Nat.ble (off + (cellsAV v).length) cs.length with
        | true => .leaf ⟨.unk, [(id, .cells (splice cs off (cellsAV v)))], [id], []⟩
        | false => .fail
      | _ => .fail
    | .oel id sz i off => match S.obj id with
      | some (.grow en e et xs) =>
        match Nat.beq sz e.size, Nat.ble (off + (cellsAV v).length) e.size, dataAll m S.obj e (splice (enc e (xs.getD i e.dflt)) off (cellsAV v)) with
        | true, true, some d => match hasId d.vis id with
          | false => .leaf ⟨.unk, (id, .grow en e et (xs.set i d.x)) :: frz S.obj d.vis, id :: d.vis, []⟩
          | true => .fail
        | _, _, _ => .fail
      | some (.arr e xs) =>
        match Nat.beq sz e.size, Nat.ble (off + (cellsAV v).length) e.size, dataAll m S.obj e (splice (enc e (xs.getD i e.dflt)) off (cellsAV v)) with
        | true, true, some d => match hasId d.vis id with
          | false => .leaf ⟨.unk, (id, .arr e (xs.set i d.x)) :: frz S.obj d.vis, id :: d.vis, []⟩
          | true => .fail
        | _, _, _ => .fail
      | _ => .fail
    | _ => .fail
  | _, _ => .fail

def bitsD (op : BinOp) (k : IntKind) (a b : Int) : Int :=
  match op with
  | .and => k.wrap ((BitVec.ofInt k.bits a &&& BitVec.ofInt k.bits b).toNat : Int)
  | .or => k.wrap ((BitVec.ofInt k.bits a ||| BitVec.ofInt k.bits b).toNat : Int)
  | .xor => k.wrap ((BitVec.ofInt k.bits a ^^^ BitVec.ofInt k.bits b).toNat : Int)
  | .andNot => k.wrap ((BitVec.ofInt k.bits a &&& ~~~BitVec.ofInt k.bits b).toNat : Int)
  | _ => 0
/-- The same, hidden from the kernel (else it reckons with it where it only has to compare). -/
theorem bitsI_ex : ∃ f : BinOp → IntKind → Int → Int → Int, f = bitsD := ⟨_, rfl⟩
def bitsI : BinOp → IntKind → Int → Int → Int := Classical.choose bitsI_ex
theorem bitsI_eq : bitsI = bitsD := Classical.choose_spec bitsI_ex
def shlI (k : IntKind) (a b : Int) : Int := k.wrap (a * 2 ^ (min b.toNat k.bits))
def shrI (k : IntKind) (a b : Int) : Int := a.fdiv (2 ^ (min b.toNat k.bits))
/-- '==' of cells, one by one. -/
def eqCells : List AV → List AV → Option Bool
  | [.int k a], [.int k' b] => match decEq k k' with | isTrue _ => some (decide (a = b)) | isFalse _ => none
  | .int k a :: r, .int k' b :: r' => match decEq k k', eqCells r r' with | isTrue _, some c => some (decide (a = b) && c) | _, _ => none
  | _, _ => none
def evBin (op : BinOp) (ti : TI) : AV → AV → Tree Eff
  | .int k a, .int k' b =>
    match op with
    | .shl => .chk (!decide (b < 0)) (.leaf (.pure (.int k (shlI k a b))))
    | .shr => .chk (!decide (b < 0)) (.leaf (.pure (.int k (shrI k a b))))
    | _ =>
      match decEq k k' with
      | isFalse _ => .fail
      | isTrue _ =>
        match op with
        | .add => .leaf (.pure (.int k (k.wrap (a + b))))
        | .sub => .leaf (.pure (.int k (k.wrap (a - b))))
        | .mul => .leaf (.pure (.int k (k.wrap (a * b))))
        | .quo => .chk (!decide (b = 0)) (.leaf (.pure (.int k (k.wrap (a.tdiv b)))))
        | .rem => .chk (!decide (b = 0)) (.leaf (.pure (.int k (a.tmod b))))
        | .and => .leaf (.pure (.int k (bitsI .and k a b)))
        | .or => .leaf (.pure (.int k (bitsI .or k a b)))
        | .xor => .leaf (.pure (.int k (bitsI .xor k a b)))
        | .andNot => .leaf (.pure (.int k (bitsI .andNot k a b)))
        | .eql => .leaf (.pure (.bool (decide (a = b))))
        | .neq => .leaf (.pure (.bool (!decide (a = b))))
        | .lss => .leaf (.pure (.bool (decide (a < b))))
        | .leq => .leaf (.pure (.bool (decide (a ≤ b))))
        | .gtr => .leaf (.pure (.bool (decide (b < a))))
        | .geq => .leaf (.pure (.bool (decide (b ≤ a))))
        | _ => .fail
  | .bool a, .bool b =>
    match op, ti.td with
    | .eql, .bool => .leaf (.pure (.bool (a == b)))
    | .neq, .bool => .leaf (.pure (.bool (!(a == b))))
    | _, _ => .fail
  | .str a, .str b =>
    match op with
    | .eql => .leaf (.pure (.bool (a.toList == b.toList)))
    | .neq => .leaf (.pure (.bool (!(a.toList == b.toList))))
    | _ => .fail
  | .ppt _ o, .nilptr =>
    match op, ti.td with
    | .eql, .ptr _ => .leaf (.pure (.bool o.isNone))
    | .neq, .ptr _ => .leaf (.pure (.bool (!o.isNone)))
    | _, _ => .fail
  | .psl _ xs, .nilsl =>
    match op, ti.td with
    | .eql, .sl _ => .br xs.isEmpty (.leaf (.pure .anyB)) (.leaf (.pure (.bool false)))
    | _, _ => .fail
  | .optr _ _, .nilptr =>
    match op, ti.td with
    | .eql, .ptr _ => .leaf (.pure (.bool false))
    | .neq, .ptr _ => .leaf (.pure (.bool true))
    | _, _ => .fail
  | .agg a, .agg b =>
    match op, ti.eqs, Nat.beq a.length ti.size, eqCells a b with
    | .eql, true, true, some c => .leaf (.pure (.bool c))
    | .neq, true, true, some c => .leaf (.pure (.bool (!c)))
    | _, _, _, _ => .fail
  | _, _ => .fail
def evUn : UnOp → AV → Tree Eff
  | .not, .bool b => .leaf (.pure (.bool (!b)))
  | .neg, .int k n => .leaf (.pure (.int k (k.wrap (0 - n))))
  | .xor, .int k n => .leaf (.pure (.int k (bitsI .xor k (cond k.signed (-1) k.max) n)))
  | _, _ => .fail
def evConv (_src dst : TI) : AV → Tree Eff
  | .int _ n => match dst.td with | .int k => .leaf (.pure (.int k (k.wrap n))) | _ => .fail
  | _ => .fail
def isSl : TD → Bool
  | .sl _ => true
  | _ => false
def lenAV (S : AS) (td : TD) : AV → Option (Int × List Nat)
  | .psl _ xs => match isSl td with | true => some ((xs.length : Int), []) | false => none
  | .nilsl => match isSl td with | true => some (0, []) | false => none
  | .str s => match td with | .str => some ((s.size : Int), []) | _ => none
  | .own id => match isSl td, S.obj id with
    | true, some (.grow _ _ _ xs) => some ((xs.length : Int), [id])
    | true, some (.froz _ xs) => some ((xs.length : Int), [id])
    | _, _ => none
  | _ => none
/-- A slice as a list of some shape, whatever it is. -/
def listAV (S : AS) (e : Sh) : AV → Option (DC (.sl e))
  | .psl e' xs => match decEq e' e with | isTrue q => some ⟨castL q xs, [], []⟩ | isFalse _ => none
  | .nilsl => some ⟨[], [], []⟩
  | .own id => match S.obj id with
    | some (.grow _ e' _ xs) => match decEq e' e with | isTrue q => some ⟨castL q xs, [], [id]⟩ | isFalse _ => none
    | some (.froz e' xs) => match decEq e' e with | isTrue q => some ⟨castL q xs, [], [id]⟩ | isFalse _ => none
    | _ => none
  | _ => none
/-- Have a slice's, or an array's, elements so many cells? -/
def elemOK (G : Gl) (ti : TI) (n : Nat) : Bool :=
  match ti.td with
  | .sl e => (match G.ty e with | some te => Nat.beq te.size n | none => false)
  | .arr _ e => (match G.ty e with | some te => Nat.beq te.size n | none => false)
  | _ => false
def evIndexAddr (G : Gl) (S : AS) (ti : TI) : AV → AV → Tree Eff
  | .psl e xs, .int _ i => match isSl ti.td, elemOK G ti e.size with
    | true, true => .chk (decide (0 ≤ i)) (.chk (decide (i < (xs.length : Int))) (.leaf (.pure (.pel e xs i.toNat 0))))
    | _, _ => .fail
  | .own id, .int _ i => match S.obj id with
    | some (.grow _ e _ xs) => (match isSl ti.td, elemOK G ti e.size with
      | true, true => .chk (decide (0 ≤ i)) (.chk (decide (i < (xs.length : Int))) (.leaf ⟨.oel id e.size i.toNat 0, [], [id], []⟩))
      | _, _ => .fail)
    | some (.froz e xs) => (match isSl ti.td, elemOK G ti e.size with
      | true, true => .chk (decide (0 ≤ i)) (.chk (decide (i < (xs.length : Int))) (.leaf ⟨.oel id e.size i.toNat 0, [], [id], []⟩))
      | _, _ => .fail)
    | _ => .fail
  | .optr id 0, .int _ i => match S.obj id, ti.td with
    | some (.arr e xs), .arr n _ => match Nat.blt 1 n, elemOK G ti e.size with
      | true, true => .chk (decide (0 ≤ i)) (.chk (decide (i < (n : Int))) (.chk (Nat.ble n xs.length) (.leaf ⟨.oel id e.size i.toNat 0, [], [id], []⟩)))
      | _, _ => .fail
    | _, _ => .fail
  | .glob g, .int _ i => match G.gl g, ti.td with
    | some ⟨e, xs⟩, .arr n _ => match Nat.blt 1 n, elemOK G ti e.size with
      | true, true => .chk (Nat.beq n xs.length) (.chk (decide (0 ≤ i)) (.chk (decide (i < (n : Int))) (.leaf (.pure (.pel e xs i.toNat 0)))))
      | _, _ => .fail
    | _, _ => .fail
  | _, _ => .fail
def fieldOf (ti : TI) (f : Nat) : Option (Nat × TypeId) := match ti.td with | .st fs => fs[f]? | _ => none
def evFieldAddr (G : Gl) (ti : TI) (f : Nat) (v : AV) : Tree Eff :=
  match fieldOf ti f with
  | none => .fail
  | some p => match (match G.ty p.2 with | some tf => Nat.blt 0 tf.size | none => false), v with
    | true, .optr id off => .leaf (.pure (.optr id (off + p.1)))
    | true, .oel id sz i off => .leaf (.pure (.oel id sz i (off + p.1)))
    | true, .pel e xs i off => .leaf (.pure (.pel e xs i (off + p.1)))
    | true, .pfl e x off => .leaf (.pure (.pfl e x (off + p.1)))
    | _, _ => .fail
def evField (G : Gl) (ti : TI) (f : Nat) : AV → Tree Eff
  | .agg cs => match fieldOf ti f with
    | none => .fail
    | some p => match G.ty p.2 with
      | none => .fail
      | some tf => match pickCells tf.td.isAgg tf.size p.1 cs with | some v => .leaf (.pure v) | none => .fail
  | _ => .fail
/-- One of so many values, by a number. -/
def pickOne (i : Int) : Nat → List AV → Tree Eff
  | _, [] => .fail
  | j, v :: r => .br (decide (i = (j : Int))) (.leaf (.pure v)) (pickOne i (j + 1) r)
def evIndex (G : Gl) (ti : TI) : AV → AV → Tree Eff
  | .agg cs, .int _ i => match ti.td with
    | .arr n e => (match Nat.beq n cs.length, G.ty e with
      | true, some te => (match Nat.beq te.size 1, te.td.isAgg with | true, false => pickOne i 0 cs | _, _ => .fail)
      | _, _ => .fail)
    | _ => .fail
  | _, _ => .fail
/-- Parts laid into cells. -/
def fillAV (place : Nat → Option (Nat × Nat)) (cells : List AV) : List (Nat × AV) → Option (List AV)
  | [] => some cells
  | (i, v) :: rest => match place i with
    | none => none
    | some (off, size) => match Nat.beq (cellsAV v).length size, Nat.ble (off + size) cells.length, cellsB (cellsAV v) with
      | true, true, true => fillAV place (splice cells off (cellsAV v)) rest
      | _, _, _ => none
def rep (l : List AV) : Nat → List AV
  | 0 => []
  | n + 1 => l ++ rep l n
def zeroAV (ti : TI) : List AV := match ti.dat with | true => enc ti.sh ti.sh.dflt | false => match ti.nds with | true => rep [.unk] (ti.size - 1 + 1) | false => [.unk]
def placeSt (G : Gl) (fs : List (Nat × TypeId)) (i : Nat) : Option (Nat × Nat) :=
  match fs[i]? with
  | some p => (match G.ty p.2 with | some tf => some (p.1, tf.size) | none => none)
  | none => none
def allTy (G : Gl) : List (Nat × TypeId) → Bool
  | [] => true
  | p :: r => match G.ty p.2 with | some _ => allTy G r | none => false
/-- Is it a great array of false? -/
def zbOf (te : TI) (n : Nat) (parts : List (Nat × AV)) : Bool :=
  match parts with
  | [] => (match te.td, te.sh with | .bool, .bool => Nat.blt 64 n | _, _ => false)
  | _ => false
def evBuild (G : Gl) (ti : TI) (parts : List (Nat × AV)) : Tree Eff :=
  match ti.td with
  | .st fs => match allTy G fs, fillAV (placeSt G fs) (zeroAV ti) parts with
    | true, some cs => .leaf (.pure (.agg cs)) | _, _ => .fail
  | .arr n e => match G.ty e with
    | some te => match zbOf te n parts with
      | true => .leaf (.pure (.zb n))
      | false => match Nat.beq (zeroAV te).length te.size, fillAV (fun i => some (i * te.size, te.size)) (rep (zeroAV te) n) parts with
        | true, some cs => .leaf (.pure (.agg cs)) | _, _ => .fail
    | none => .fail
  | _ => .fail
/-- So many data of a shape, out of cells. -/
def dataN (m : Nat) (h : Nat → Option Obj) (e : Sh) : Nat → List AV → Option (DC (.sl e))
  | 0, [] => some ⟨[], [], []⟩
  | 0, _ => none
  | n + 1, l => match dataC m h e l with
    | some d => match dataN m h e n d.rest with
      | some d' => some ⟨d.x :: d'.x, [], d.vis ++ d'.vis⟩
      | none => none
    | none => none
/-- A whole array, stored. -/
def evStoreArr (m : Nat) (S : AS) (n : Nat) (ti : TI) (a v : AV) : Tree Eff :=
  match a with
  | .optr id 0 => match S.obj id with
    | some (.arr e xs) => match Nat.beq (cellsAV v).length ti.size, cellsB (cellsAV v), dataN m S.obj e n (cellsAV v) with
      | true, true, some d => match hasId d.vis id with
        | false => .chk (Nat.beq n xs.length) (.leaf ⟨.unk, (id, .arr e d.x) :: frz S.obj d.vis, id :: d.vis, []⟩)
        | true => .fail
      | _, _, _ => .fail
    | _ => .fail
  | _ => .fail
def evBuildSlice (G : Gl) (S : AS) (nid : Nat) (ti : TI) (len : Nat) (parts : List (Nat × AV)) : Tree Eff :=
  match ti.td with
  | .sl e => match G.ty e with
    | some te => match te.dat && Nat.ble (len * te.size) 65536 && Nat.blt 0 te.size, fillAV (fun i => some (i * te.size, te.size)) (rep (zeroAV te) len) parts with
      | true, some cs => match dataN G.m S.obj te.sh len cs with
        | some d => .leaf ⟨.own nid, (nid, .grow false te.sh e d.x) :: frz S.obj d.vis, d.vis, []⟩
        | none => .fail
      | _, _ => .fail
    | none => .fail
  | _ => .fail
/-- A new variable: an array of data, if its type is an array of such; else its cells. -/
def newObj (G : Gl) (S : AS) (nid : Nat) (ti : TI) (v : AV) : Tree Eff :=
  match ti.td, v with
  | .arr n e, .agg cs => match G.ty e with
    | some te => match dataN G.m S.obj te.sh n cs with
      | some d => .leaf ⟨.optr nid 0, (nid, .arr te.sh d.x) :: frz S.obj d.vis, d.vis, []⟩
      | none => .fail
    | none => .fail
  | .arr _ _, _ => .fail
  | _, _ => match cellsB (cellsAV v) with | true => .leaf ⟨.optr nid 0, [(nid, .cells (cellsAV v))], [], []⟩ | false => .fail
def evBox (G : Gl) (S : AS) (nid : Nat) (ti : TI) (v : AV) : Tree Eff :=
  match v with
  | .zb n => .leaf ⟨.optr nid 0, [(nid, .arr .bool (List.replicate n false))], [], []⟩
  | _ => match Nat.beq (cellsAV v).length ti.size with | true => newObj G S nid ti v | false => .fail
def evAlloc (G : Gl) (nid : Nat) (ti : TI) : Tree Eff :=
  match ti.td with
  | .arr n e => match G.ty e with
    | some te => match te.dat with
      | true => .leaf ⟨.optr nid 0, [(nid, .arr te.sh (List.replicate n te.sh.dflt))], [], []⟩
      | false => .fail
    | none => .fail
  | _ => match cellsB (zeroAV ti) with | true => .leaf ⟨.optr nid 0, [(nid, .cells (zeroAV ti))], [], []⟩ | false => .fail
def evMakeSlice (G : Gl) (nid : Nat) (ti : TI) : AV → AV → Tree Eff
  | .int .i64 n, .int .i64 c => match ti.td with
    | .sl e => match G.ty e with
      | some te => match te.dat with
        | true => .chk (decide (0 ≤ n)) (.chk (decide (n ≤ c)) (.chk (decide ((te.bytes : Int) * c ≤ 140737488355328)) (.chk (decide (c ≤ 140737488355328))
            (.leaf ⟨.own nid, [(nid, .grow false te.sh e (List.replicate n.toNat te.sh.dflt))], [], []⟩))))
        | false => .fail
      | none => .fail
    | _ => .fail
  | _, _ => .fail
def sliceSrc (S : AS) : AV → Option (Tab × List Nat)
  | .psl e xs => some (⟨e, xs⟩, [])
  | .own id => match S.obj id with
    | some (.froz e xs) => some (⟨e, xs⟩, [id])
    | _ => none
  | _ => none
def evSlice (G : Gl) (S : AS) (ti : TI) (v : AV) (lo hi : Option AV) : Tree Eff :=
  match sliceSrc S v with
  | none => .fail
  | some (tb, rd) =>
    match isSl ti.td, elemOK G ti tb.e.size with
    | true, true =>
      match lo, hi with
      | none, none => .leaf ⟨.psl tb.e tb.xs, [], rd, []⟩
      | some (.int _ l), none => .chk (decide (0 ≤ l)) (.chk (decide (l ≤ (tb.xs.length : Int))) (.leaf ⟨.psl tb.e (tb.xs.drop l.toNat), [], rd, []⟩))
      | none, some (.int _ h) => .chk (decide (0 ≤ h)) (.chk (decide (h ≤ (tb.xs.length : Int))) (.leaf ⟨.psl tb.e (tb.xs.take h.toNat), [], rd, []⟩))
      | some (.int _ l), some (.int _ h) => .chk (decide (0 ≤ h)) (.chk (decide (h ≤ (tb.xs.length : Int))) (.chk (decide (0 ≤ l)) (.chk (decide (l ≤ h)) (.leaf ⟨.psl tb.e ((tb.xs.take h.toNat).drop l.toNat), [], rd, []⟩))))
      | _, _ => .fail
    | _, _ => .fail
/-- A slice of an own list: its head is the list from then on; its rest can only be cleared. -/
def evSliceOwn (G : Gl) (nid : Nat) (ti : TI) (id : Nat) (en : Bool) (e : Sh) (et : TypeId) (xs : List e.T) (lo hi : Option AV) : Tree Eff :=
  match isSl ti.td, elemOK G ti e.size with
  | true, true =>
    match lo, hi with
    | some (.int _ l), none => .chk (decide (0 ≤ l)) (.chk (decide (l ≤ (xs.length : Int))) (.leaf ⟨.otl id e.size l.toNat, [], [id], []⟩))
    | none, some (.int _ h) => .chk (decide (0 ≤ h)) (.chk (decide (h ≤ (xs.length : Int))) (.chk (decide (0 < xs.length)) (.leaf ⟨.own nid, [(nid, .grow en e et (xs.take h.toNat)), (id, .gone)], [id], []⟩)))
    | _, _ => .fail
  | _, _ => .fail
def evSlice2 (G : Gl) (S : AS) (nid : Nat) (ti : TI) (v : AV) (lo hi : Option AV) : Tree Eff :=
  match v with
  | .own id => match S.obj id with
    | some (.grow en e et xs) => evSliceOwn G nid ti id en e et xs lo hi
    | _ => evSlice G S ti v lo hi
  | _ => evSlice G S ti v lo hi
/-- 'clear' of a list's rest. -/
def evClear (G : Gl) (S : AS) (st : TypeId) (x : AV) : Tree Eff :=
  match G.ty st with
  | some ts => match ts.td with
    | .sl el => match G.ty el with
      | some te => match x with
        | .otl id sz lo => match S.obj id with
          | some (.grow en e et xs) => match decEq te.sh e, Nat.beq sz e.size, Nat.beq e.size 1 && (te.dat && Nat.beq te.size 1) with
            | isTrue _, true, true => .chk (Nat.blt lo xs.length) (.leaf ⟨.unk, [(id, .grow en e et (xs.take lo ++ List.replicate (xs.length - lo) e.dflt))], [id], []⟩)
            | _, _, _ => .fail
          | _ => .fail
        | _ => .fail
      | none => .fail
    | _ => .fail
  | none => .fail
structure AD (e : Sh) where
  x : List e.T
  vis : List Nat
  en : Bool
def appDest (S : AS) (e : Sh) (et : TypeId) : AV → Option (AD e)
  | .nilsl => some ⟨[], [], false⟩
  | .own id => match S.obj id with
    | some (.grow en e' et' xs) => match decEq e' e, Nat.beq et' et with | isTrue q, true => some ⟨castL q xs, [id], en⟩ | _, _ => none
    | _ => none
  | _ => none
def evAppend (G : Gl) (S : AS) (nid : Nat) (st : TypeId) (s x : AV) : Tree Eff :=
  match G.ty st with
  | some ts => match ts.td with
    | .sl e => match G.ty e with
      | some te =>
        match appDest S te.sh e s, listAV S te.sh x, Nat.beq te.sh.size te.size with
        | some d, some d', true =>
          match meet d.vis d'.vis, te.dat && Nat.blt 0 te.size with
          | false, true => .chk (decide ((d.x.length + d'.x.length) * te.bytes ≤ 140737488355328)) (.chk (decide (d.x.length + d'.x.length ≤ 140737488355328))
              (.leaf ⟨.own nid, (nid, .grow d.en te.sh e (d.x ++ d'.x)) :: (d.vis.map fun id => (id, Obj.gone)), d.vis ++ d'.vis, []⟩))
          | _, _ => .fail
        | _, _, _ => .fail
      | none => .fail
    | _ => .fail
  | none => .fail
/-- 'copy': into a growing list, out of data; elements of one cell. -/
def evCopy (G : Gl) (S : AS) (st : TypeId) (s x : AV) : Tree Eff :=
  match G.ty st with
  | some ts => match ts.td with
    | .sl el => match G.ty el with
      | some te => match s with
        | .own id => match S.obj id with
          | some (.grow en e et xs) => match listAV S e x, Nat.beq e.size 1, Nat.beq te.size 1 with
            | some d, true, true => match d.vis with
              | [] => .chk (decide (0 < xs.length)) (.leaf ⟨.int .i64 ((min d.x.length xs.length : Nat) : Int), [(id, .grow en e et (d.x.take xs.length ++ xs.drop d.x.length))], [id], []⟩)
              | _ => .fail
            | _, _, _ => .fail
          | _ => .fail
        | _ => .fail
      | none => .fail
    | _ => .fail
  | none => .fail
def mmGo (mx : Bool) (k : IntKind) (a : Int) : List AV → Option AV
  | [] => some (.int k a)
  | .int k' b :: r => match decEq k k' with
    | isTrue _ => mmGo mx k (match mx with | true => max a b | false => min a b) r
    | isFalse _ => none
  | _ => none
def minmax (mx : Bool) : List AV → Option AV
  | .int k a :: r => mmGo mx k a r
  | _ => none
def evBuiltin (G : Gl) (S : AS) (nid : Nat) (b : Builtin) (ats : List TypeId) (args : List AV) : Tree Eff :=
  match b, args with
  | .len, [v] => match ats with
    | [t] => withTy G t fun ti => match lenAV S ti.td v with | some (n, rd) => .leaf ⟨.int .i64 n, [], rd, []⟩ | none => .fail
    | _ => .fail
  | .append, [s, x] => match ats with
    | [st, st'] => (match Nat.beq st st' with | true => evAppend G S nid st s x | false => .fail)
    | _ => .fail
  | .clear, [x] => match ats with
    | [st] => evClear G S st x
    | _ => .fail
  | .copy, [s, x] => match ats with
    | [st, st'] => (match Nat.beq st st' with | true => evCopy G S st s x | false => .fail)
    | _ => .fail
  | .min, l => match minmax false l with | some v => .leaf (.pure v) | none => .fail
  | .max, l => match minmax true l with | some v => .leaf (.pure v) | none => .fail
  | _, _ => .fail

/-! ### Calls -/
/-- The arguments that are handed over for good, as data. -/
def handOver (S : AS) : List Bool → List AV → Option (List AV × List Nat)
  | true :: m, .own id :: r => match handOver S m r with
    | some (l, vis) => match S.obj id with
      | some (.grow false e _ xs) => some (.psl e xs :: l, id :: vis)
      | some (.froz e xs) => some (.psl e xs :: l, id :: vis)
      | _ => none
    | none => none
  | true :: m, .agg cs :: r => match handCells S cs, handOver S m r with
    | some (c, v), some (l, vis) => some (.agg c :: l, v ++ vis)
    | _, _ => none
  | _ :: m, a :: r => match handOver S m r with | some (l, vis) => some (a :: l, vis) | none => none
  | _, l => some (l, [])
where handCells (S : AS) : List AV → Option (List AV × List Nat)
  | .own id :: r => match handCells S r with
    | some (l, vis) => match S.obj id with
      | some (.grow false e _ xs) => some (.psl e xs :: l, id :: vis)
      | some (.froz e xs) => some (.psl e xs :: l, id :: vis)
      | _ => none
    | none => none
  | a :: r => match handCells S r with | some (l, vis) => some (a :: l, vis) | none => none
  | [] => some ([], [])
mutual
def refs : AV → List Nat
  | .own id => [id]
  | .optr id _ => [id]
  | .oel id _ _ _ => [id]
  | .otl id _ _ => [id]
  | .fn _ a b => refsL a ++ refsL b
  | .agg l => refsL l
  | .tup l => refsL l
  | _ => []
def refsL : List AV → List Nat
  | [] => []
  | a :: r => refs a ++ refsL r
end
def addNew : List Nat → List Nat → List Nat
  | acc, [] => acc
  | acc, a :: r => match hasId acc a with | true => addNew acc r | false => addNew (acc ++ [a]) r
/-- The objects that values reach, each once, in their order. -/
def reach (S : AS) : Nat → List Nat → List Nat → List Nat
  | 0, acc, _ => acc
  | _, acc, [] => acc
  | n + 1, acc, id :: r => match hasId acc id with
    | true => reach S n acc r
    | false => match S.obj id with
      | some (.cells cs) => reach S n (acc ++ [id]) (refsL cs ++ r)
      | _ => reach S n (acc ++ [id]) r
def idx (l : List Nat) (n : Nat) : Nat := l.idxOf n
mutual
def ren (f : Nat → Nat) : AV → AV
  | .own id => .own (f id)
  | .optr id off => .optr (f id) off
  | .oel id sz i off => .oel (f id) sz i off
  | .otl id sz lo => .otl (f id) sz lo
  | .fn g a b => .fn g (renL f a) (renL f b)
  | .agg l => .agg (renL f l)
  | .tup l => .tup (renL f l)
  | v => v
def renL (f : Nat → Nat) : List AV → List AV
  | [] => []
  | a :: r => ren f a :: renL f r
end
def Obj.refs : Obj → List Nat
  | .cells cs => refsL cs
  | _ => []
/-- An object under its own number in a call: what comes in may not be kept. -/
def Obj.send (f : Nat → Nat) : Obj → Obj
  | .cells cs => .cells (renL f cs)
  | .grow _ e et xs => .grow true e et xs
  | o => o
/-- An object out of a call. -/
def Obj.back (f : Nat → Nat) (b : Bool) : Obj → Obj
  | .cells cs => .cells (renL f cs)
  | .grow en e et xs => .grow (match b with | true => en | false => false) e et xs
  | o => o
def sameKind : Obj → Obj → Bool
  | _, .gone => true
  | .grow _ _ _ _, .grow _ _ _ _ => true
  | .cells _, .cells _ => true
  | .arr _ _, .arr _ _ => true
  | .froz _ _, .froz _ _ => true
  | _, _ => false
def kindsOK (os : List Obj) : List (Nat × Obj) → Bool
  | [] => true
  | p :: r => match os[p.1]? with
    | some o => (match sameKind o p.2 with | true => kindsOK os r | false => false)
    | none => (match Nat.blt p.1 (os.length + 4) with | true => kindsOK os r | false => false)
def subIds (l ids : List Nat) : Bool := match l with
  | [] => true
  | a :: r => match hasId ids a with | true => subIds r ids | false => false
def objsIn (ids : List Nat) : List Obj → Bool
  | [] => true
  | o :: r => match subIds o.refs ids with | true => objsIn ids r | false => false
def nodupN : List Nat → Bool
  | [] => true
  | a :: r => match hasId r a with | true => false | false => nodupN r
def disj : List Nat → List Nat → Bool
  | [], _ => true
  | a :: r, l => match hasId l a with | true => false | false => disj r l
def objsOf (S : AS) : List Nat → Option (List Obj)
  | [] => some []
  | id :: r => match S.obj id, objsOf S r with
    | some o, some l => some (o :: l)
    | _, _ => none
/-- Does an object lie in memory that came in? -/
def entry (m : Nat) (S : AS) (id : Nat) : Bool :=
  match Nat.blt id m, S.obj id with
  | true, _ => true
  | false, some (.grow en _ _ _) => en
  | false, _ => false
/-- Does an object still hold its memory after the call? -/
def held (H : List (Nat × Obj)) (k : Nat) : Bool := match look H k with
  | some (.cells _) => true
  | some (.arr _ _) => true
  | _ => false
/-- May a new object lie in memory that came in? -/
def anyEntry (m : Nat) (S : AS) (H : List (Nat × Obj)) : Nat → List Nat → Bool
  | _, [] => false
  | k, a :: r => match entry m S a, held H k with | true, false => true | _, _ => anyEntry m S H (k + 1) r
def backId (ids : List Nat) (nid j : Nat) : Nat := match ids[j]? with | some i => i | none => nid + (j - ids.length)
def backObjs (f : Nat → Nat) (b : Bool) : List (Nat × Obj) → List (Nat × Obj)
  | [] => []
  | p :: r => (f p.1, p.2.back f b) :: backObjs f b r
def sendObjs (f : Nat → Nat) : List Obj → List Obj
  | [] => []
  | o :: r => o.send f :: sendObjs f r
def evCall (G : Gl) (S : AS) (nid : Nat) : AV → List AV → Tree Eff
  | .fn f first caps, args =>
    match handOver S (G.fz f) (first ++ args ++ caps) with
    | none => .fail
    | some (as, vis) =>
      let ids := reach S 64 [] (refsL as)
      match objsOf S ids, disj ids vis, nodupN ids, subIds (refsL as) ids with
      | some os, true, true, true =>
        match objsIn ids os, G.fn f (renL (idx ids) as) (sendObjs (idx ids) os) with
        | true, some cs => .bind cs.ρ cs.o fun r =>
          match kindsOK os (cs.out r).2 with
          | true => .leaf ⟨ren (backId ids nid) (cs.out r).1, backObjs (backId ids nid) (anyEntry G.m S (cs.out r).2 0 ids) (cs.out r).2 ++ frz S.obj vis, ids ++ vis, []⟩
          | false => .fail
        | _, _ => .fail
      | _, _, _, _ => .fail
  | _, _ => .fail

/-- A Bool that is decided already, or a branch. -/
def withBool {α : Type} (S : AS) (x : Operand) (k : Bool → List (Nat × Bool) → Tree α) : Tree α :=
  match x with
  | .const (.bool b) => k b []
  | .tmp t => match look S.dec t with
    | some c => k c []
    | none => match S.get t with
      | .bool b => .br b (k true [(t, true)]) (k false [(t, false)])
      | _ => .fail
  | _ => .fail
def evOp (G : Gl) (S : AS) (nid : Nat) : Op → Tree Eff
  | .move x => .leaf (.pure (S.ev x))
  | .assign x => .leaf (.pure (S.ev x))
  | .pick c a b => withBool S c fun c dec => .leaf ⟨match c with | true => S.ev a | false => S.ev b, [], [], dec⟩
  | .alloc t => withTy G t fun ti => evAlloc G nid ti
  | .box t v => withTy G t fun ti => evBox G S nid ti (S.ev v)
  | .build t parts => withTy G t fun ti => evBuild G ti (parts.toList.map fun p => (p.1, S.ev p.2))
  | .buildSlice t n parts => withTy G t fun ti => evBuildSlice G S nid ti n (parts.toList.map fun p => (p.1, S.ev p.2))
  | .load t a => withTy G t fun ti => evLoad S ti (S.ev a)
  | .store t a v => withTy G t fun ti => match ti.td with | .arr n _ => evStoreArr G.m S n ti (S.ev a) (S.ev v) | _ => evStore G.m S ti (S.ev a) (S.ev v)
  | .nilCheck x => match S.ev x with
    | .optr id off => .leaf (.pure (.optr id off))
    | .oel id sz i off => .leaf (.pure (.oel id sz i off))
    | .pel e xs i off => .leaf (.pure (.pel e xs i off))
    | .pfl e x off => .leaf (.pure (.pfl e x off))
    | .fn f a b => .leaf (.pure (.fn f a b))
    | .ppt e o => .bind e.T o fun x => .leaf (.pure (.pfl e x 0))
    | _ => .fail
  | .binOp op t x y _ => withTy G t fun ti => evBin op ti (S.ev x) (S.ev y)
  | .unOp op _ x => evUn op (S.ev x)
  | .convert s d x => withTy G s fun ts => withTy G d fun td => evConv ts td (S.ev x)
  | .makeFunc (.func f) first caps => .leaf (.pure (.fn f (first.toList.map S.ev) (caps.toList.map S.ev)))
  | .makeSlice t l c => withTy G t fun ti => evMakeSlice G nid ti (S.ev l) (S.ev c)
  | .slice t x lo hi none => withTy G t fun ti => evSlice2 G S nid ti (S.ev x) (lo.map S.ev) (hi.map S.ev)
  | .fieldAddr t x f => withTy G t fun ti => evFieldAddr G ti f (S.ev x)
  | .field t x f => withTy G t fun ti => evField G ti f (S.ev x)
  | .indexAddr t x i => withTy G t fun ti => evIndexAddr G S ti (S.ev x) (S.ev i)
  | .index t x i => withTy G t fun ti => evIndex G ti (S.ev x) (S.ev i)
  | .extract t i => match S.ev t with | .tup vs => (match vs[i]? with | some v => .leaf (.pure v) | none => .fail) | _ => .fail
  | .call ⟨.builtin b, args, ats⟩ => evBuiltin G S nid b ats.toList (args.toList.map S.ev)
  | .call ⟨.value f, args, _⟩ => evCall G S nid (S.ev f) (args.toList.map S.ev)
  | _ => .fail

/-! ### Regions, code -/
def isPick : Op → Bool
  | .pick _ _ _ => true
  | _ => false
def AS.aft (S : AS) (dst : Option Nat) (e : Eff) : AS := (S.setObjs e.ws).put dst e.v
def AS.apply (S : AS) (o : Oper) (e : Eff) : AS := ({ S with dec := (match isPick o.op with | true => e.dec | false => []) ++ S.dec }).aft o.dst e
/-- What was done in a region: per operation what it looked at, what it wrote. -/
abbrev Trace := List (List Nat × List Nat)
def dstOK (n : Nat) : Option Nat → Bool
  | none => true
  | some d => Nat.blt d n
/-- An operation writes no object that belongs to a later one. -/
def wsOK (nid : Nat) : List (Nat × Obj) → Bool
  | [] => true
  | p :: r => match Nat.blt p.1 (nid + 4) with | true => wsOK nid r | false => false
def guardTmp (all : Array Oper) (j : Nat) : Option Nat := (all[j]?).bind (·.dst)
def evOp1 (G : Gl) (nid : Nat) (o : Oper) (S : AS) : Tree Eff :=
  match dstOK G.n o.dst with
  | false => .fail
  | true => (evOp G S nid o.op).bnd fun e => match wsOK nid e.ws with | true => .leaf e | false => .fail
def isUndef : AV → Bool
  | .undef => true
  | _ => false
def evOps (G : Gl) (all : Array Oper) (nid0 : Nat) : List Oper → Nat → AS → Trace → Tree (AS × Trace)
  | [], _, S, tr => .leaf (S, tr)
  | o :: rest, i, S, tr =>
    match o.guard with
    | none => (evOp1 G (nid0 + 4 * i) o S).bnd fun e => evOps G all nid0 rest (i + 1) (S.apply o e) ((e.rd, e.ws.map (·.1)) :: tr)
    | some (j, want) => match guardTmp all j with
      | none => .fail
      | some t => match isUndef (S.get t) with
        | true => evOps G all nid0 rest (i + 1) (S.put o.dst .undef) (([], []) :: tr)
        | false => withBool S (.tmp t) fun c dec => match c == want with
        | true => (evOp1 G (nid0 + 4 * i) o { S with dec := dec ++ S.dec }).bnd fun e => evOps G all nid0 rest (i + 1) (({ S with dec := dec ++ S.dec }).apply o e) ((e.rd, e.ws.map (·.1)) :: tr)
        | false => evOps G all nid0 rest (i + 1) (({ S with dec := dec ++ S.dec }).put o.dst .undef) (([], []) :: tr)
def tmpsOf : List Operand → List Nat
  | [] => []
  | .tmp t :: r => t :: tmpsOf r
  | _ :: r => tmpsOf r
def looks (all : Array Oper) (o : Oper) : List Nat := tmpsOf o.op.operands.toList ++ (match o.guard with | some (j, _) => (match guardTmp all j with | some t => [t] | none => []) | none => [])
/-- Must the one stay ahead of the other one? -/
def clash (all : Array Oper) (x y : Oper) (tx ty : List Nat × List Nat) : Bool :=
  (match x.dst with | some d => hasId (looks all y) d || (match y.dst with | some d' => Nat.beq d d' | none => false) | none => false) ||
  (match y.dst with | some d => hasId (looks all x) d | none => false) ||
  meet tx.2 (ty.1 ++ ty.2) || meet ty.2 tx.1
/-- Is an operation's own object among these? -/
def inRange (nid : Nat) : List Nat → Bool
  | [] => false
  | a :: r => match Nat.ble nid a && Nat.blt a (nid + 4) with | true => true | false => inRange nid r
/-- Each pair that may not change places is held by edges. -/
def orderly (nid0 : Nat) (all : Array Oper) (before : Array Nat) (tr : Trace) : Bool :=
  (List.range all.size).all fun j => (List.range j).all fun i =>
    match all[i]?, all[j]?, tr[i]?, tr[j]? with
    | some x, some y, some tx, some ty => !(clash all x y tx ty || inRange (nid0 + 4 * i) ty.2) || (before.getD j 0).testBit i
    | _, _, _, _ => false
def bindsAny (e : Edge) : Bool := match e.ground with
  | .textOnly _ => false
  | .gcOnly _ => false
  | _ => true
def edgeBits (acc : Array Nat) : List Edge → Nat
  | [] => 0
  | e :: r => match bindsAny e with
    | true => edgeBits acc r ||| (2 ^ e.on ||| acc.getD e.on 0)
    | false => edgeBits acc r
def clos : List Oper → Array Nat → Array Nat
  | [], acc => acc
  | o :: r, acc => clos r (acc.push (edgeBits acc o.after.toList))
def edgesLt (j : Nat) : List Edge → Bool
  | [] => true
  | e :: r => match bindsAny e, Nat.blt e.on j with
    | true, false => false
    | _, _ => edgesLt j r
def forward : List Oper → Nat → Bool
  | [], _ => true
  | o :: r, j => match edgesLt j o.after.toList with | true => forward r (j + 1) | false => false
def evRegion (G : Gl) (ops : Array Oper) (draw : Bool) (S : AS) : Tree AS :=
  (evOps G ops S.nx ops.toList 0 { S with nx := S.nx + 4 * ops.size } []).bnd fun p =>
    match draw with
    | false => .leaf p.1
    | true => match forward ops.toList 0 && orderly S.nx ops (clos ops.toList #[]) p.2.reverse with | true => .leaf p.1 | false => .fail
def keyOf : Code → Nat
  | .region id _ _ => id + 1
  | .seq a b => match keyOf a with | 0 => keyOf b | n => n
  | .block _ b => keyOf b
  | .loop b => keyOf b
  | .scope b => keyOf b
  | .cond _ a b => match keyOf a with | 0 => keyOf b | n => n
  | _ => 0
/-- The loops of a code that lie in no other loop of it: their bodies. -/
def loops : Code → List Code
  | .seq a b => loops a ++ loops b
  | .cond _ a b => loops a ++ loops b
  | .block _ a => loops a
  | .scope a => loops a
  | .loop b => [b]
  | _ => []
def ev (G : Gl) : Code → AS → Tree (AE × AS)
  | .skip, S => .leaf (.norm, S)
  | .label _, S => .leaf (.norm, S)
  | .ret, S => .leaf (.ret, S)
  | .exit id, S => .leaf (.exit id, S)
  | .seq a b, S => (ev G a S).bnd fun p => match p.1 with | .norm => ev G b p.2 | e => .leaf (e, p.2)
  | .cond c a b, S => withBool S c fun x dec => match x with
    | true => ev G a { S with dec := dec ++ S.dec }
    | false => ev G b { S with dec := dec ++ S.dec }
  | .block id b, S => (ev G b S).bnd fun p => match p.1 with
    | .exit id' => (match Nat.beq id' id with | true => .leaf (.norm, p.2) | false => .leaf (.exit id', p.2))
    | e => .leaf (e, p.2)
  | .scope b, S => ev G b S
  | .region _ ops draw, S => (evRegion G ops draw S).bnd fun S' => .leaf (.norm, S')
  | .loop b, S => match G.lp (keyOf b) S with
    | some ls => .bind ls.ρ ls.o ls.tr
    | none => .fail
  | _, _ => .fail
end
end Go.Rx

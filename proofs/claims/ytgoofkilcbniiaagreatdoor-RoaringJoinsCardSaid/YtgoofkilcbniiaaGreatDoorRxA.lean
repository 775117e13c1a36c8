/- RxA: texts of one kind, laid side by side. -/
import GoSem.Core.View
import GoSem.Core.Code
import Derived.Calls
import Derived.Orders
import Derived.Laws.AppendOwn
import Derived.Laws.MakeOwn
import Derived.OwnWalk
import Derived.RowKit3
/-! Rx, part 1: abstract values (slices as lists), abstract states, and an evaluator of the model's Code over them. No theorem of the program is here. -/
namespace Go.Rx
noncomputable section

inductive Sh where
  | int (k : IntKind) | bool | str | unit
  | pair (a b : Sh) | st (a : Sh) | sl (e : Sh) | ptr (e : Sh)
  deriving DecidableEq
@[reducible] def Sh.T : Sh → Type
  | .int _ => Int | .bool => Bool | .str => ByteArray | .unit => Unit
  | .pair a b => a.T × b.T | .st a => a.T | .sl e => List e.T | .ptr e => Option e.T
def Sh.size : Sh → Nat
  | .unit => 0 | .pair a b => a.size + b.size | .st a => a.size | _ => 1
def Sh.dflt : (s : Sh) → s.T
  | .int _ => (0 : Int) | .bool => false | .str => (ByteArray.mk #[]) | .unit => ()
  | .pair a b => (a.dflt, b.dflt) | .st a => a.dflt | .sl _ => [] | .ptr _ => none

/-- Trees of what may come: branches, checks, calls. -/
inductive Tree (α : Type) : Type 1 where
  | leaf (a : α)
  | br (b : Bool) (t e : Tree α)
  | chk (b : Bool) (t : Tree α)
  | bind (ρ : Type) (o : Option ρ) (k : ρ → Tree α)
  | alt (β γ : Type) (y : β ⊕ γ) (k : β → Tree α) (k' : γ → Tree α)
  /-- both must do, and alike: which one comes is not known -/
  | amb (a b : Tree α)
  | fail
/-- What both come to. -/
def bothEq {R : Type} (x y : Option R) : Option R := @ite _ (x = y) (Classical.propDecidable _) x none
theorem bothEq_some {R : Type} {x y : Option R} {z : R} (h : bothEq x y = some z) : x = some z ∧ y = some z := by
  unfold bothEq at h
  split at h
  · rename_i q; exact ⟨h, q ▸ h⟩
  · cases h
theorem bothEq_self {R : Type} (x : Option R) : bothEq x x = x := by
  unfold bothEq
  exact if_pos rfl
def Tree.bnd {α β : Type} : Tree α → (α → Tree β) → Tree β
  | .leaf a, f => f a
  | .br b t e, f => .br b (t.bnd f) (e.bnd f)
  | .chk b t, f => .chk b (t.bnd f)
  | .bind ρ o k, f => .bind ρ o (fun r => (k r).bnd f)
  | .alt β γ y k k', f => .alt β γ y (fun r => (k r).bnd f) (fun r => (k' r).bnd f)
  | .amb a b, f => .amb (a.bnd f) (b.bnd f)
  | .fail, _ => .fail
def Tree.den {α R : Type} (L : α → Option R) : Tree α → Option R
  | .leaf a => L a
  | .br b t e => cond b (t.den L) (e.den L)
  | .chk b t => cond b (t.den L) none
  | .bind _ o k => o.bind (fun r => (k r).den L)
  | .alt _ _ y k k' => match y with | .inl r => (k r).den L | .inr r => (k' r).den L
  | .amb a b => bothEq (a.den L) (b.den L)
  | .fail => none
def Tree.sat {α : Type} (Q : α → Prop) : Tree α → Prop
  | .leaf a => Q a
  | .br b t e => (b = true ∧ t.sat Q) ∨ (b = false ∧ e.sat Q)
  | .chk b t => b = true ∧ t.sat Q
  | .bind _ o k => ∃ r, o = some r ∧ (k r).sat Q
  | .alt _ _ y k k' => (∃ r, y = .inl r ∧ (k r).sat Q) ∨ (∃ r, y = .inr r ∧ (k' r).sat Q)
  | .amb a b => a.sat Q ∧ b.sat Q
  | .fail => False
/-- Without what is not known. -/
def Tree.strip {α : Type} : Tree α → Tree α
  | .leaf a => .leaf a
  | .br b t e => .br b t.strip e.strip
  | .chk b t => .chk b t.strip
  | .bind ρ o k => .bind ρ o (fun r => (k r).strip)
  | .alt β γ y k k' => .alt β γ y (fun r => (k r).strip) (fun r => (k' r).strip)
  | .amb _ _ => .fail
  | .fail => .fail

inductive AV where
  | unk
  | undef
  | anyB
  /-- an array of so many false -/
  | zb (n : Nat)
  | int (k : IntKind) (n : Int)
  | bool (b : Bool)
  | str (s : ByteArray)
  | nilsl
  | nilptr
  | glob (g : Nat)
  | psl (e : Sh) (xs : List e.T)
  | ppt (e : Sh) (x : Option e.T)
  | own (id : Nat)
  | optr (id off : Nat)
  | oel (id sz i off : Nat)
  /-- the rest of an own list, from one place on -/
  | otl (id sz lo : Nat)
  | pel (e : Sh) (xs : List e.T) (i off : Nat)
  | pfl (e : Sh) (x : e.T) (off : Nat)
  | fn (f : FuncId) (first caps : List AV)
  | agg (cs : List AV)
  | tup (vs : List AV)

def enc : (s : Sh) → s.T → List AV
  | .int k, n => [.int k n]
  | .bool, b => [.bool b]
  | .str, s => [.str s]
  | .unit, _ => []
  | .pair a b, x => enc a x.1 ++ enc b x.2
  | .st a, x => enc a x
  | .sl e, xs => [.psl e xs]
  | .ptr e, x => [.ppt e x]
/-- A datum as one value. -/
def valAV : (s : Sh) → s.T → AV
  | .int k, n => .int k n
  | .bool, b => .bool b
  | .str, s => .str s
  | .sl e, xs => .psl e xs
  | .ptr e, x => .ppt e x
  | s, x => .agg (enc s x)
def cellsAV : AV → List AV
  | .agg cs => cs
  | v => [v]

inductive Obj where
  | gone
  | grow (en : Bool) (e : Sh) (et : TypeId) (xs : List e.T)
  | froz (e : Sh) (xs : List e.T)
  | cells (cs : List AV)
  | arr (e : Sh) (xs : List e.T)

def look {α : Type} : List (Nat × α) → Nat → Option α
  | [], _ => none
  | p :: r, n => match Nat.beq p.1 n with | true => some p.2 | false => look r n

structure AS where
  t : List (Nat × AV)
  h : List (Nat × Obj)
  nx : Nat
  dec : List (Nat × Bool)
def AS.get (S : AS) (n : Nat) : AV := match look S.t n with | some v => v | none => .unk
def AS.obj (S : AS) (id : Nat) : Option Obj := look S.h id
def strike (n : Nat) : List (Nat × Bool) → List (Nat × Bool)
  | [] => []
  | p :: r => match Nat.beq p.1 n with | true => strike n r | false => p :: strike n r
def AS.put (S : AS) (d : Option Nat) (v : AV) : AS :=
  match d with
  | some d => { S with t := (d, v) :: S.t, dec := strike d S.dec }
  | none => S
def AS.setObjs (S : AS) (ws : List (Nat × Obj)) : AS := { S with h := ws ++ S.h }

def ofLeaf : Value → AV
  | .int k n => .int k n
  | .bool b => .bool b
  | .string s => .str s
  | .slice none 0 0 => .nilsl
  | .pointer none => .nilptr
  | .func (.func f) ⟨[]⟩ ⟨[]⟩ => .fn f [] []
  | _ => .unk
def ofConst : Value → AV
  | .agg cs => .agg (cs.toList.map ofLeaf)
  | .tuple ⟨[]⟩ => .tup []
  | v => ofLeaf v
def AS.ev (S : AS) : Operand → AV
  | .tmp t => S.get t
  | .const v => ofConst v
  | .func f => .fn f [] []
  | .global g => .glob g

/-- What is known of a type. -/
inductive TD where
  | int (k : IntKind) | bool | str | sl (e : TypeId) | ptr (e : TypeId) | st (fs : List (Nat × TypeId)) | arr (n : Nat) (e : TypeId) | fn | other
structure TI where
  td : TD
  sh : Sh
  size : Nat
  bytes : Nat
  /-- may values be compared, cell by cell? -/
  eqs : Bool := false
  /-- a struct of what is no data (of functions) -/
  nd : Bool := false
/-- Types whose values are data of their shape. -/
def TD.data : TD → Bool
  | .arr _ _ => false | .fn => false | .other => false | _ => true
def TD.isAgg : TD → Bool
  | .st _ => true | .arr _ _ => true | _ => false

def TI.nds (ti : TI) : Bool := match ti.td with | .st _ => ti.nd | _ => false
def TI.dat (ti : TI) : Bool := match ti.nds with | true => false | false => ti.td.data
/-- What a call, or a loop, comes to. -/
structure CS where
  ρ : Type
  o : Option ρ
  out : ρ → AV × List (Nat × Obj)
inductive AE where
  | norm | exit (id : Nat) | ret
structure LS where
  ρ : Type
  o : Option ρ
  tr : ρ → Tree (AE × AS)
structure Tab where
  e : Sh
  xs : List e.T
structure Gl where
  /-- how many objects came in, how many temporaries there are -/
  m : Nat
  n : Nat
  /-- tables that lie in package-level variables -/
  gl : Nat → Option Tab
  ty : TypeId → Option TI
  /-- which arguments of a call are handed over for good -/
  fz : FuncId → List Bool
  fn : FuncId → List AV → List Obj → Option CS
  lp : Nat → AS → Option LS

/-- What an operation comes to: its value, what is written, what was looked at, what has been decided. -/
structure Eff where
  v : AV
  ws : List (Nat × Obj)
  rd : List Nat
  dec : List (Nat × Bool)
abbrev Eff.pure (v : AV) : Eff := ⟨v, [], [], []⟩

/-! ### Cells as data -/
structure Dat where
  e : Sh
  x : e.T
def castL {e e' : Sh} (h : e' = e) (xs : List e'.T) : List e.T := h ▸ xs
def castO {e e' : Sh} (h : e' = e) (xs : Option e'.T) : Option e.T := h ▸ xs
def castT {e e' : Sh} (h : e' = e) (x : e'.T) : e.T := h ▸ x
structure DC (e : Sh) where
  x : e.T
  rest : List AV
  vis : List Nat
def dataC (m : Nat) (h : Nat → Option Obj) : (e : Sh) → List AV → Option (DC e)
  | .int k, .int k' n :: r => match decEq k' k with | isTrue _ => some ⟨n, r, []⟩ | isFalse _ => none
  | .bool, .bool b :: r => some ⟨b, r, []⟩
  | .str, .str s :: r => some ⟨s, r, []⟩
  | .unit, r => some ⟨(), r, []⟩
  | .pair a b, l =>
    match dataC m h a l with
    | some d => match dataC m h b d.rest with
      | some d' => some ⟨(d.x, d'.x), d'.rest, d.vis ++ d'.vis⟩
      | none => none
    | none => none
  | .st a, l => match dataC m h a l with | some d => some ⟨d.x, d.rest, d.vis⟩ | none => none
  | .sl e, .psl e' xs :: r => match decEq e' e with | isTrue q => some ⟨castL q xs, r, []⟩ | isFalse _ => none
  | .sl _, .nilsl :: r => some ⟨[], r, []⟩
  | .sl e, .own id :: r =>
    match h id with
    | some (.grow false e' _ xs) => match decEq e' e with | isTrue q => some ⟨castL q xs, r, [id]⟩ | isFalse _ => none
    | some (.froz e' xs) => match decEq e' e with | isTrue q => some ⟨castL q xs, r, [id]⟩ | isFalse _ => none
    | _ => none
  | .ptr e, .ppt e' x :: r => match decEq e' e with | isTrue q => some ⟨castO q x, r, []⟩ | isFalse _ => none
  | .ptr _, .nilptr :: r => some ⟨none, r, []⟩
  | .ptr e, .optr id 0 :: r =>
    match Nat.ble m id, h id with
    | true, some (.cells cs) => match dataC m h e cs with
      | some ⟨x, [], vis⟩ => some ⟨some x, r, id :: vis⟩
      | _ => none
    | _, _ => none
  | _, _ => none
/-- All cells as one datum. -/
def dataAll (m : Nat) (h : Nat → Option Obj) (e : Sh) (l : List AV) : Option (DC e) :=
  match dataC m h e l with
  | some ⟨x, [], vis⟩ => some ⟨x, [], vis⟩
  | _ => none
/-- A value as one datum (a struct is an aggregate, and nothing else is). -/
def dataV (m : Nat) (h : Nat → Option Obj) : (e : Sh) → AV → Option (DC e)
  | .st a, .agg cs => match dataAll m h a cs with | some d => some ⟨d.x, [], d.vis⟩ | none => none
  | .st _, _ => none
  | .pair _ _, _ => none
  | .unit, _ => none
  | _, .agg _ => none
  | e, v => dataAll m h e [v]
def frz (h : Nat → Option Obj) : List Nat → List (Nat × Obj)
  | [] => []
  | id :: r => match h id with
    | some (.grow _ e _ xs) => (id, .froz e xs) :: frz h r
    | some (.cells _) => (id, .gone) :: frz h r
    | _ => frz h r
def splice (cs : List AV) (off : Nat) (vs : List AV) : List AV := cs.take off ++ vs ++ cs.drop (off + vs.length)

def hasId : List Nat → Nat → Bool
  | [], _ => false
  | a :: r, n => match Nat.beq a n with | true => true | false => hasId r n

def meet : List Nat → List Nat → Bool
  | [], _ => false
  | a :: r, l => match hasId l a with | true => true | false => meet r l

/-! ### Operations -/
def withTy (G : Gl) (t : TypeId) (k : TI → Tree Eff) : Tree Eff := match G.ty t with | some ti => k ti | none => .fail

def pickCells (agg : Bool) (size off : Nat) (cs : List AV) : Option AV :=
  match agg with
  | true => match Nat.ble (off + size) cs.length with | true => some (.agg ((cs.drop off).take size)) | false => none
  | false => cs[off]?
def evLoad (S : AS) (ti : TI) : AV → Tree Eff
  | .optr id off => match S.obj id with
    | some (.cells cs) => match pickCells ti.td.isAgg ti.size off cs with | some v => .leaf ⟨v, [], [id], []⟩ | none => .fail
    | _ => .fail
  | .oel id sz i off => match S.obj id with
    | some (.grow _ e _ xs) => match Nat.beq sz e.size, pickCells ti.td.isAgg ti.size off (enc e (xs.getD i e.dflt)) with | true, some v => .leaf ⟨v, [], [id], []⟩ | _, _ => .fail
    | some (.arr e xs) => match Nat.beq sz e.size, pickCells ti.td.isAgg ti.size off (enc e (xs.getD i e.dflt)) with | true, some v => .leaf ⟨v, [], [id], []⟩ | _, _ => .fail
    | some (.froz e xs) => match Nat.beq sz e.size, pickCells ti.td.isAgg ti.size off (enc e (xs.getD i e.dflt)) with | true, some v => .leaf ⟨v, [], [id], []⟩ | _, _ => .fail
    | _ => .fail
  | .pel e xs i off => match pickCells ti.td.isAgg ti.size off (enc e (xs.getD i e.dflt)) with | some v => .leaf (.pure v) | none => .fail
  | .pfl e x off => match pickCells ti.td.isAgg ti.size off (enc e x) with | some v => .leaf (.pure v) | none => .fail
  | _ => .fail
def AV.cellB : AV → Bool
  | .unk => false
  | .undef => false
  | .zb _ => false
  | .otl _ _ _ => false
  | .agg _ => false
  | .tup _ => false
  | _ => true
def cellsB : List AV → Bool
  | [] => true
  | v :: r => match v.cellB with | true => cellsB r | false => false
def evStore (m : Nat) (S : AS) (ti : TI) (a v : AV) : Tree Eff :=
  match Nat.beq (cellsAV v).length ti.size, cellsB (cellsAV v) with
  | true, true =>
    match a with
    | .optr id off => match S.obj id with
      | some (.cells cs) => match Nat.ble (off + (cellsAV v).length) cs.length with
        | true => .leaf ⟨.unk, [(id, .cells (splice cs off (cellsAV v)))], [id], []⟩
        | false => .fail
      | _ => .fail
    | .oel id sz i off => match S.obj id with
      | some (.grow en e et xs) =>
        match Nat.beq sz e.size, Nat.ble (off + (cellsAV v).length) e.size, dataAll m S.obj e (splice (enc e (xs.getD i e.dflt)) off (cellsAV v)) with
        | true, true, some d => match hasId d.vis id with
          | false => .leaf ⟨.unk, (id, .grow en e et (xs.set i d.x)) :: frz S.obj d.vis, id :: d.vis, []⟩
          | true => .fail
        | _, _, _ => .fail
      | some (.arr e xs) =>
        match Nat.beq sz e.size, Nat.ble (off + (cellsAV v).length) e.size, dataAll m S.obj e (splice (enc e (xs.getD i e.dflt)) off (cellsAV v)) with
        | true, true, some d => match hasId d.vis id with
          | false => .leaf ⟨.unk, (id, .arr e (xs.set i d.x)) :: frz S.obj d.vis, id :: d.vis, []⟩
          | true => .fail
        | _, _, _ => .fail
      | _ => .fail
    | _ => .fail
  | _, _ => .fail

def bitsD (op : BinOp) (k : IntKind) (a b : Int) : Int :=
  match op with
  | .and => k.wrap ((BitVec.ofInt k.bits a &&& BitVec.ofInt k.bits b).toNat : Int)
  | .or => k.wrap ((BitVec.ofInt k.bits a ||| BitVec.ofInt k.bits b).toNat : Int)
  | .xor => k.wrap ((BitVec.ofInt k.bits a ^^^ BitVec.ofInt k.bits b).toNat : Int)
  | .andNot => k.wrap ((BitVec.ofInt k.bits a &&& ~~~BitVec.ofInt k.bits b).toNat : Int)
  | _ => 0
/-- The same, hidden from the kernel (else it reckons with it where it only has to compare). -/
theorem bitsI_ex : ∃ f : BinOp → IntKind → Int → Int → Int, f = bitsD := ⟨_, rfl⟩
def bitsI : BinOp → IntKind → Int → Int → Int := Classical.choose bitsI_ex
theorem bitsI_eq : bitsI = bitsD := Classical.choose_spec bitsI_ex
def shlI (k : IntKind) (a b : Int) : Int := k.wrap (a * 2 ^ (min b.toNat k.bits))
def shrI (k : IntKind) (a b : Int) : Int := a.fdiv (2 ^ (min b.toNat k.bits))
/-- '==' of cells, one by one. -/
def eqCells : List AV → List AV → Option Bool
  | [.int k a], [.int k' b] => match decEq k k' with | isTrue _ => some (decide (a = b)) | isFalse _ => none
  | .int k a :: r, .int k' b :: r' => match decEq k k', eqCells r r' with | isTrue _, some c => some (decide (a = b) && c) | _, _ => none
  | _, _ => none
def evBin (op : BinOp) (ti : TI) : AV → AV → Tree Eff
  | .int k a, .int k' b =>
    match op with
    | .shl => .chk (!decide (b < 0)) (.leaf (.pure (.int k (shlI k a b))))
    | .shr => .chk (!decide (b < 0)) (.leaf (.pure (.int k (shrI k a b))))
    | _ =>
      match decEq k k' with
      | isFalse _ => .fail
      | isTrue _ =>
        match op with
        | .add => .leaf (.pure (.int k (k.wrap (a + b))))
        | .sub => .leaf (.pure (.int k (k.wrap (a - b))))
        | .mul => .leaf (.pure (.int k (k.wrap (a * b))))
        | .quo => .chk (!decide (b = 0)) (.leaf (.pure (.int k (k.wrap (a.tdiv b)))))
        | .rem => .chk (!decide (b = 0)) (.leaf (.pure (.int k (a.tmod b))))
        | .and => .leaf (.pure (.int k (bitsI .and k a b)))
        | .or => .leaf (.pure (.int k (bitsI .or k a b)))
        | .xor => .leaf (.pure (.int k (bitsI .xor k a b)))
        | .andNot => .leaf (.pure (.int k (bitsI .andNot k a b)))
        | .eql => .leaf (.pure (.bool (decide (a = b))))
        | .neq => .leaf (.pure (.bool (!decide (a = b))))
        | .lss => .leaf (.pure (.bool (decide (a < b))))
        | .leq => .leaf (.pure (.bool (decide (a ≤ b))))
        | .gtr => .leaf (.pure (.bool (decide (b < a))))
        | .geq => .leaf (.pure (.bool (decide (b ≤ a))))
        | _ => .fail
  | .bool a, .bool b =>
    match op, ti.td with
    | .eql, .bool => .leaf (.pure (.bool (a == b)))
    | .neq, .bool => .leaf (.pure (.bool (!(a == b))))
    | _, _ => .fail
  | .str a, .str b =>
    match op with
    | .eql => .leaf (.pure (.bool (a.toList == b.toList)))
    | .neq => .leaf (.pure (.bool (!(a.toList == b.toList))))
    | _ => .fail
  | .ppt _ o, .nilptr =>
    match op, ti.td with
    | .eql, .ptr _ => .leaf (.pure (.bool o.isNone))
    | .neq, .ptr _ => .leaf (.pure (.bool (!o.isNone)))
    | _, _ => .fail
  | .psl _ xs, .nilsl =>
    match op, ti.td with
    | .eql, .sl _ => .br xs.isEmpty (.leaf (.pure .anyB)) (.leaf (.pure (.bool false)))
    | _, _ => .fail
  | .optr _ _, .nilptr =>
    match op, ti.td with
    | .eql, .ptr _ => .leaf (.pure (.bool false))
    | .neq, .ptr _ => .leaf (.pure (.bool true))
    | _, _ => .fail
  | .agg a, .agg b =>
    match op, ti.eqs, Nat.beq a.length ti.size, eqCells a b with
    | .eql, true, true, some c => .leaf (.pure (.bool c))
    | .neq, true, true, some c => .leaf (.pure (.bool (!c)))
    | _, _, _, _ => .fail
  | _, _ => .fail
def evUn : UnOp → AV → Tree Eff
  | .not, .bool b => .leaf (.pure (.bool (!b)))
  | .neg, .int k n => .leaf (.pure (.int k (k.wrap (0 - n))))
  | .xor, .int k n => .leaf (.pure (.int k (bitsI .xor k (cond k.signed (-1) k.max) n)))
  | _, _ => .fail
def evConv (_src dst : TI) : AV → Tree Eff
  | .int _ n => match dst.td with | .int k => .leaf (.pure (.int k (k.wrap n))) | _ => .fail
  | _ => .fail
def isSl : TD → Bool
  | .sl _ => true
  | _ => false
def lenAV (S : AS) (td : TD) : AV → Option (Int × List Nat)
  | .psl _ xs => match isSl td with | true => some ((xs.length : Int), []) | false => none
  | .nilsl => match isSl td with | true => some (0, []) | false => none
  | .str s => match td with | .str => some ((s.size : Int), []) | _ => none
  | .own id => match isSl td, S.obj id with
    | true, some (.grow _ _ _ xs) => some ((xs.length : Int), [id])
    | true, some (.froz _ xs) => some ((xs.length : Int), [id])
    | _, _ => none
  | .otl id _ lo => match isSl td, S.obj id with
    | true, some (.grow _ _ _ xs) => some (((xs.length - lo : Nat) : Int), [id])
    | _, _ => none
  | _ => none
/-- A slice as a list of some shape, whatever it is. -/
def listAV (S : AS) (e : Sh) : AV → Option (DC (.sl e))
  | .psl e' xs => match decEq e' e with | isTrue q => some ⟨castL q xs, [], []⟩ | isFalse _ => none
  | .nilsl => some ⟨[], [], []⟩
  | .own id => match S.obj id with
    | some (.grow _ e' _ xs) => match decEq e' e with | isTrue q => some ⟨castL q xs, [], [id]⟩ | isFalse _ => none
    | some (.froz e' xs) => match decEq e' e with | isTrue q => some ⟨castL q xs, [], [id]⟩ | isFalse _ => none
    | _ => none
  | _ => none
/-- Have a slice's, or an array's, elements so many cells? -/
def elemOK (G : Gl) (ti : TI) (n : Nat) : Bool :=
  match ti.td with
  | .sl e => (match G.ty e with | some te => Nat.beq te.size n | none => false)
  | .arr _ e => (match G.ty e with | some te => Nat.beq te.size n | none => false)
  | _ => false
def evIndexAddr (G : Gl) (S : AS) (ti : TI) : AV → AV → Tree Eff
  | .psl e xs, .int _ i => match isSl ti.td, elemOK G ti e.size with
    | true, true => .chk (decide (0 ≤ i)) (.chk (decide (i < (xs.length : Int))) (.leaf (.pure (.pel e xs i.toNat 0))))
    | _, _ => .fail
  | .own id, .int _ i => match S.obj id with
    | some (.grow _ e _ xs) => (match isSl ti.td, elemOK G ti e.size with
      | true, true => .chk (decide (0 ≤ i)) (.chk (decide (i < (xs.length : Int))) (.leaf ⟨.oel id e.size i.toNat 0, [], [id], []⟩))
      | _, _ => .fail)
    | some (.froz e xs) => (match isSl ti.td, elemOK G ti e.size with
      | true, true => .chk (decide (0 ≤ i)) (.chk (decide (i < (xs.length : Int))) (.leaf ⟨.oel id e.size i.toNat 0, [], [id], []⟩))
      | _, _ => .fail)
    | _ => .fail
  | .optr id 0, .int _ i => match S.obj id, ti.td with
    | some (.arr e xs), .arr n _ => match Nat.blt 1 n, elemOK G ti e.size with
      | true, true => .chk (decide (0 ≤ i)) (.chk (decide (i < (n : Int))) (.chk (Nat.ble n xs.length) (.leaf ⟨.oel id e.size i.toNat 0, [], [id], []⟩)))
      | _, _ => .fail
    | _, _ => .fail
  | .otl id sz lo, .int _ i => match S.obj id with
    | some (.grow _ e _ xs) => (match isSl ti.td, elemOK G ti e.size, Nat.beq sz e.size with
      | true, true, true => .chk (decide (0 ≤ i)) (.chk (Nat.blt (lo + i.toNat) xs.length) (.leaf ⟨.oel id e.size (lo + i.toNat) 0, [], [id], []⟩))
      | _, _, _ => .fail)
    | _ => .fail
  | .glob g, .int _ i => match G.gl g, ti.td with
    | some ⟨e, xs⟩, .arr n _ => match Nat.blt 1 n, elemOK G ti e.size with
      | true, true => .chk (Nat.beq n xs.length) (.chk (decide (0 ≤ i)) (.chk (decide (i < (n : Int))) (.leaf (.pure (.pel e xs i.toNat 0)))))
      | _, _ => .fail
    | _, _ => .fail
  | _, _ => .fail
def fieldOf (ti : TI) (f : Nat) : Option (Nat × TypeId) := match ti.td with | .st fs => fs[f]? | _ => none
def evFieldAddr (G : Gl) (ti : TI) (f : Nat) (v : AV) : Tree Eff :=
  match fieldOf ti f with
  | none => .fail
  | some p => match (match G.ty p.2 with | some tf => Nat.blt 0 tf.size | none => false), v with
    | true, .optr id off => .leaf (.pure (.optr id (off + p.1)))
    | true, .oel id sz i off => .leaf (.pure (.oel id sz i (off + p.1)))
    | true, .pel e xs i off => .leaf (.pure (.pel e xs i (off + p.1)))
    | true, .pfl e x off => .leaf (.pure (.pfl e x (off + p.1)))
    | _, _ => .fail
def evField (G : Gl) (ti : TI) (f : Nat) : AV → Tree Eff
  | .agg cs => match fieldOf ti f with
    | none => .fail
    | some p => match G.ty p.2 with
      | none => .fail
      | some tf => match pickCells tf.td.isAgg tf.size p.1 cs with | some v => .leaf (.pure v) | none => .fail
  | _ => .fail
/-- One of so many values, by a number. -/
def pickOne (i : Int) : Nat → List AV → Tree Eff
  | _, [] => .fail
  | j, v :: r => .br (decide (i = (j : Int))) (.leaf (.pure v)) (pickOne i (j + 1) r)
def strAt (s : ByteArray) (i : Nat) : Int := match s[i]? with | some b => (b.toNat : Int) | none => 0
def evIndex (G : Gl) (ti : TI) : AV → AV → Tree Eff
  | .agg cs, .int _ i => match ti.td with
    | .arr n e => (match Nat.beq n cs.length, G.ty e with
      | true, some te => (match Nat.beq te.size 1, te.td.isAgg with | true, false => pickOne i 0 cs | _, _ => .fail)
      | _, _ => .fail)
    | _ => .fail
  | .str s, .int _ i => match ti.td with
    | .str => .chk (decide (0 ≤ i)) (.chk (Nat.blt i.toNat s.size) (.leaf (.pure (.int .u8 (strAt s i.toNat)))))
    | _ => .fail
  | _, _ => .fail
/-- Parts laid into cells. -/
def fillAV (place : Nat → Option (Nat × Nat)) (cells : List AV) : List (Nat × AV) → Option (List AV)
  | [] => some cells
  | (i, v) :: rest => match place i with
    | none => none
    | some (off, size) => match Nat.beq (cellsAV v).length size, Nat.ble (off + size) cells.length, cellsB (cellsAV v) with
      | true, true, true => fillAV place (splice cells off (cellsAV v)) rest
      | _, _, _ => none
def rep (l : List AV) : Nat → List AV
  | 0 => []
  | n + 1 => l ++ rep l n
def zeroAV (ti : TI) : List AV := match ti.dat with | true => enc ti.sh ti.sh.dflt | false => match ti.nds with | true => rep [.unk] (ti.size - 1 + 1) | false => [.unk]
/-- The zero cells of a shape: nil where it is nil. -/
def encZ : Sh → List AV
  | .int k => [.int k 0]
  | .bool => [.bool false]
  | .str => [.str (ByteArray.mk #[])]
  | .unit => []
  | .pair a b => encZ a ++ encZ b
  | .st a => encZ a
  | .sl _ => [.nilsl]
  | .ptr _ => [.nilptr]
def zeroZ (ti : TI) : List AV := match ti.dat with | true => encZ ti.sh | false => match ti.nds with | true => rep [.unk] (ti.size - 1 + 1) | false => [.unk]
def placeSt (G : Gl) (fs : List (Nat × TypeId)) (i : Nat) : Option (Nat × Nat) :=
  match fs[i]? with
  | some p => (match G.ty p.2 with | some tf => some (p.1, tf.size) | none => none)
  | none => none
def allTy (G : Gl) : List (Nat × TypeId) → Bool
  | [] => true
  | p :: r => match G.ty p.2 with | some _ => allTy G r | none => false
/-- Is it a great array of false? -/
def zbOf (te : TI) (n : Nat) (parts : List (Nat × AV)) : Bool :=
  match parts with
  | [] => (match te.td, te.sh with | .bool, .bool => Nat.blt 64 n | _, _ => false)
  | _ => false
def evBuild (G : Gl) (ti : TI) (parts : List (Nat × AV)) : Tree Eff :=
  match ti.td with
  | .st fs => match allTy G fs, fillAV (placeSt G fs) (zeroZ ti) parts with
    | true, some cs => .leaf (.pure (.agg cs)) | _, _ => .fail
  | .arr n e => match G.ty e with
    | some te => match zbOf te n parts with
      | true => .leaf (.pure (.zb n))
      | false => match Nat.beq (zeroAV te).length te.size, fillAV (fun i => some (i * te.size, te.size)) (rep (zeroAV te) n) parts with
        | true, some cs => .leaf (.pure (.agg cs)) | _, _ => .fail
    | none => .fail
  | _ => .fail
/-- So many data of a shape, out of cells. -/
def dataN (m : Nat) (h : Nat → Option Obj) (e : Sh) : Nat → List AV → Option (DC (.sl e))
  | 0, [] => some ⟨[], [], []⟩
  | 0, _ => none
  | n + 1, l => match dataC m h e l with
    | some d => match dataN m h e n d.rest with
      | some d' => some ⟨d.x :: d'.x, [], d.vis ++ d'.vis⟩
      | none => none
    | none => none
/-- A whole array, stored. -/
def evStoreArr (m : Nat) (S : AS) (n : Nat) (ti : TI) (a v : AV) : Tree Eff :=
  match a with
  | .optr id 0 => match S.obj id with
    | some (.arr e xs) => match Nat.beq (cellsAV v).length ti.size, cellsB (cellsAV v), dataN m S.obj e n (cellsAV v) with
      | true, true, some d => match hasId d.vis id with
        | false => .chk (Nat.beq n xs.length) (.leaf ⟨.unk, (id, .arr e d.x) :: frz S.obj d.vis, id :: d.vis, []⟩)
        | true => .fail
      | _, _, _ => .fail
    | _ => .fail
  | _ => .fail
def evBuildSlice (G : Gl) (S : AS) (nid : Nat) (ti : TI) (len : Nat) (parts : List (Nat × AV)) : Tree Eff :=
  match ti.td with
  | .sl e => match G.ty e with
    | some te => match te.dat && Nat.ble (len * te.size) 65536 && Nat.blt 0 te.size, fillAV (fun i => some (i * te.size, te.size)) (rep (zeroAV te) len) parts with
      | true, some cs => match dataN G.m S.obj te.sh len cs with
        | some d => .leaf ⟨.own nid, (nid, .grow false te.sh e d.x) :: frz S.obj d.vis, d.vis, []⟩
        | none => .fail
      | _, _ => .fail
    | none => .fail
  | _ => .fail
/-- A new variable: an array of data, if its type is an array of such; else its cells. -/
def newObj (G : Gl) (S : AS) (nid : Nat) (ti : TI) (v : AV) : Tree Eff :=
  match ti.td, v with
  | .arr n e, .agg cs => match G.ty e with
    | some te => match dataN G.m S.obj te.sh n cs with
      | some d => .leaf ⟨.optr nid 0, (nid, .arr te.sh d.x) :: frz S.obj d.vis, d.vis, []⟩
      | none => .fail
    | none => .fail
  | .arr _ _, _ => .fail
  | _, _ => match cellsB (cellsAV v) with | true => .leaf ⟨.optr nid 0, [(nid, .cells (cellsAV v))], [], []⟩ | false => .fail
def evBox (G : Gl) (S : AS) (nid : Nat) (ti : TI) (v : AV) : Tree Eff :=
  match v with
  | .zb n => .leaf ⟨.optr nid 0, [(nid, .arr .bool (List.replicate n false))], [], []⟩
  | _ => match Nat.beq (cellsAV v).length ti.size with | true => newObj G S nid ti v | false => .fail
def evAlloc (G : Gl) (nid : Nat) (ti : TI) : Tree Eff :=
  match ti.td with
  | .arr n e => match G.ty e with
    | some te => match te.dat with
      | true => .leaf ⟨.optr nid 0, [(nid, .arr te.sh (List.replicate n te.sh.dflt))], [], []⟩
      | false => .fail
    | none => .fail
  | _ => match cellsB (zeroZ ti) with | true => .leaf ⟨.optr nid 0, [(nid, .cells (zeroZ ti))], [], []⟩ | false => .fail
def evMakeSlice (G : Gl) (nid : Nat) (ti : TI) : AV → AV → Tree Eff
  | .int .i64 n, .int .i64 c => match ti.td with
    | .sl e => match G.ty e with
      | some te => match te.dat with
        | true => .chk (decide (0 ≤ n)) (.chk (decide (n ≤ c)) (.chk (decide ((te.bytes : Int) * c ≤ 140737488355328)) (.chk (decide (c ≤ 140737488355328))
            (.leaf ⟨.own nid, [(nid, .grow false te.sh e (List.replicate n.toNat te.sh.dflt))], [], []⟩))))
        | false => .fail
      | none => .fail
    | _ => .fail
  | _, _ => .fail
def sliceSrc (S : AS) : AV → Option (Tab × List Nat)
  | .psl e xs => some (⟨e, xs⟩, [])
  | .own id => match S.obj id with
    | some (.froz e xs) => some (⟨e, xs⟩, [id])
    | _ => none
  | _ => none
def evSlice (G : Gl) (S : AS) (ti : TI) (v : AV) (lo hi : Option AV) : Tree Eff :=
  match sliceSrc S v with
  | none => .fail
  | some (tb, rd) =>
    match isSl ti.td, elemOK G ti tb.e.size with
    | true, true =>
      match lo, hi with
      | none, none => .leaf ⟨.psl tb.e tb.xs, [], rd, []⟩
      | some (.int _ l), none => .chk (decide (0 ≤ l)) (.chk (decide (l ≤ (tb.xs.length : Int))) (.leaf ⟨.psl tb.e (tb.xs.drop l.toNat), [], rd, []⟩))
      | none, some (.int _ h) => .chk (decide (0 ≤ h)) (.chk (decide (h ≤ (tb.xs.length : Int))) (.leaf ⟨.psl tb.e (tb.xs.take h.toNat), [], rd, []⟩))
      | some (.int _ l), some (.int _ h) => .chk (decide (0 ≤ h)) (.chk (decide (h ≤ (tb.xs.length : Int))) (.chk (decide (0 ≤ l)) (.chk (decide (l ≤ h)) (.leaf ⟨.psl tb.e ((tb.xs.take h.toNat).drop l.toNat), [], rd, []⟩))))
      | _, _ => .fail
    | _, _ => .fail
/-- A slice of an own list: its head is the list from then on; its rest can only be cleared. -/
def evSliceOwn (G : Gl) (nid : Nat) (ti : TI) (id : Nat) (en : Bool) (e : Sh) (et : TypeId) (xs : List e.T) (lo hi : Option AV) : Tree Eff :=
  match isSl ti.td, elemOK G ti e.size with
  | true, true =>
    match lo, hi with
    | some (.int _ l), none => .chk (decide (0 ≤ l)) (.chk (decide (l ≤ (xs.length : Int))) (.leaf ⟨.otl id e.size l.toNat, [], [id], []⟩))
    | none, some (.int _ h) => .chk (decide (0 ≤ h)) (.chk (decide (h ≤ (xs.length : Int))) (.chk (decide (0 < xs.length)) (.leaf ⟨.own nid, [(nid, .grow en e et (xs.take h.toNat)), (id, .gone)], [id], []⟩)))
    | _, _ => .fail
  | _, _ => .fail
/-- A slice of nil. -/
def evSliceNil (G : Gl) (ti : TI) (lo hi : Option AV) : Tree Eff :=
  match ti.td with
  | .sl el => match G.ty el with
    | some _ => (match lo, hi with
      | none, some (.int _ h) => .chk (decide (h = 0)) (.leaf (.pure .nilsl))
      | _, _ => .fail)
    | none => .fail
  | _ => .fail
def evSlice2 (G : Gl) (S : AS) (nid : Nat) (ti : TI) (v : AV) (lo hi : Option AV) : Tree Eff :=
  match v with
  | .own id => match S.obj id with
    | some (.grow en e et xs) => evSliceOwn G nid ti id en e et xs lo hi
    | _ => evSlice G S ti v lo hi
  | .nilsl => evSliceNil G ti lo hi
  | _ => evSlice G S ti v lo hi
/-- 'clear' of a list's rest. -/
def evClear (G : Gl) (S : AS) (st : TypeId) (x : AV) : Tree Eff :=
  match G.ty st with
  | some ts => match ts.td with
    | .sl el => match G.ty el with
      | some te => match x with
        | .otl id sz lo => match S.obj id with
          | some (.grow en e et xs) => match decEq te.sh e, Nat.beq sz e.size, Nat.beq e.size 1 && (te.dat && Nat.beq te.size 1) with
            | isTrue _, true, true => .chk (Nat.blt lo xs.length) (.leaf ⟨.unk, [(id, .grow en e et (xs.take lo ++ List.replicate (xs.length - lo) e.dflt))], [id], []⟩)
            | _, _, _ => .fail
          | _ => .fail
        | _ => .fail
      | none => .fail
    | _ => .fail
  | none => .fail
structure AD (e : Sh) where
  x : List e.T
  vis : List Nat
  en : Bool
def appDest (S : AS) (e : Sh) (et : TypeId) : AV → Option (AD e)
  | .nilsl => some ⟨[], [], false⟩
  | .own id => match S.obj id with
    | some (.grow en e' et' xs) => match decEq e' e, Nat.beq et' et with | isTrue q, true => some ⟨castL q xs, [id], en⟩ | _, _ => none
    | _ => none
  | _ => none
def evAppend (G : Gl) (S : AS) (nid : Nat) (st : TypeId) (s x : AV) : Tree Eff :=
  match G.ty st with
  | some ts => match ts.td with
    | .sl e => match G.ty e with
      | some te =>
        match appDest S te.sh e s, listAV S te.sh x, Nat.beq te.sh.size te.size with
        | some d, some d', true =>
          match meet d.vis d'.vis, te.dat && Nat.blt 0 te.size with
          | false, true => .chk (decide ((d.x.length + d'.x.length) * te.bytes ≤ 140737488355328)) (.chk (decide (d.x.length + d'.x.length ≤ 140737488355328))
              (.leaf ⟨.own nid, (nid, .grow d.en te.sh e (d.x ++ d'.x)) :: (d.vis.map fun id => (id, Obj.gone)), d.vis ++ d'.vis, []⟩))
          | _, _ => .fail
        | _, _, _ => .fail
      | none => .fail
    | _ => .fail
  | none => .fail
/-- 'append(nil, make([]T, n)...)': the model hands the number over. -/
def evAppendZ (G : Gl) (nid : Nat) (st it : TypeId) (s x : AV) : Tree Eff :=
  match s, x, G.ty st, G.ty it with
  | .nilsl, .int _ n, some ts, some tn => match ts.td, tn.td with
    | .sl e, .int _ => match G.ty e with
      | some te => match te.dat && Nat.blt 0 te.size with
        | true => .chk (decide (0 < n)) (.chk (decide (n * te.bytes ≤ 140737488355328)) (.chk (decide (n ≤ 140737488355328)) (.leaf ⟨.own nid, [(nid, .grow false te.sh e (List.replicate n.toNat te.sh.dflt))], [], []⟩)))
        | false => .fail
      | none => .fail
    | _, _ => .fail
  | _, _, _, _ => .fail
/-- 'copy': into a growing list, out of data; elements of one cell. -/
def evCopy (G : Gl) (S : AS) (st : TypeId) (s x : AV) : Tree Eff :=
  match G.ty st with
  | some ts => match ts.td with
    | .sl el => match G.ty el with
      | some te => match s with
        | .own id => match S.obj id with
          | some (.grow en e et xs) => match listAV S e x, Nat.beq e.size 1, Nat.beq te.size 1 with
            | some d, true, true => match d.vis with
              | [] => .chk (decide (0 < xs.length)) (.leaf ⟨.int .i64 ((min d.x.length xs.length : Nat) : Int), [(id, .grow en e et (d.x.take xs.length ++ xs.drop d.x.length))], [id], []⟩)
              | _ => .fail
            | _, _, _ => .fail
          | _ => .fail
        | _ => .fail
      | none => .fail
    | _ => .fail
  | none => .fail
def mmGo (mx : Bool) (k : IntKind) (a : Int) : List AV → Option AV
  | [] => some (.int k a)
  | .int k' b :: r => match decEq k k' with
    | isTrue _ => mmGo mx k (match mx with | true => max a b | false => min a b) r
    | isFalse _ => none
  | _ => none
def minmax (mx : Bool) : List AV → Option AV
  | .int k a :: r => mmGo mx k a r
  | _ => none
def evBuiltin (G : Gl) (S : AS) (nid : Nat) (b : Builtin) (ats : List TypeId) (args : List AV) : Tree Eff :=
  match b, args with
  | .len, [v] => match ats with
    | [t] => withTy G t fun ti => match lenAV S ti.td v with | some (n, rd) => .leaf ⟨.int .i64 n, [], rd, []⟩ | none => .fail
    | _ => .fail
  | .cap, [v] => match ats with
    | [t] => withTy G t fun ti => match isSl ti.td, v with | true, .nilsl => .leaf (.pure (.int .i64 0)) | _, _ => .fail
    | _ => .fail
  | .append, [s, x] => match ats with
    | [st, st'] => (match Nat.beq st st' with | true => evAppend G S nid st s x | false => evAppendZ G nid st st' s x)
    | _ => .fail
  | .clear, [x] => match ats with
    | [st] => evClear G S st x
    | _ => .fail
  | .copy, [s, x] => match ats with
    | [st, st'] => (match Nat.beq st st' with | true => evCopy G S st s x | false => .fail)
    | _ => .fail
  | .min, l => match minmax false l with | some v => .leaf (.pure v) | none => .fail
  | .max, l => match minmax true l with | some v => .leaf (.pure v) | none => .fail
  | _, _ => .fail

/-! ### Calls -/
/-- The arguments that are handed over for good, as data. -/
def handOver (S : AS) : List Bool → List AV → Option (List AV × List Nat)
  | true :: m, .own id :: r => match handOver S m r with
    | some (l, vis) => match S.obj id with
      | some (.grow false e _ xs) => some (.psl e xs :: l, id :: vis)
      | some (.froz e xs) => some (.psl e xs :: l, id :: vis)
      | _ => none
    | none => none
  | true :: m, .agg cs :: r => match handCells S cs, handOver S m r with
    | some (c, v), some (l, vis) => some (.agg c :: l, v ++ vis)
    | _, _ => none
  | _ :: m, a :: r => match handOver S m r with | some (l, vis) => some (a :: l, vis) | none => none
  | _, l => some (l, [])
where handCells (S : AS) : List AV → Option (List AV × List Nat)
  | .own id :: r => match handCells S r with
    | some (l, vis) => match S.obj id with
      | some (.grow false e _ xs) => some (.psl e xs :: l, id :: vis)
      | some (.froz e xs) => some (.psl e xs :: l, id :: vis)
      | _ => none
    | none => none
  | a :: r => match handCells S r with | some (l, vis) => some (a :: l, vis) | none => none
  | [] => some ([], [])
mutual
def refs : AV → List Nat
  | .own id => [id]
  | .optr id _ => [id]
  | .oel id _ _ _ => [id]
  | .otl id _ _ => [id]
  | .fn _ a b => refsL a ++ refsL b
  | .agg l => refsL l
  | .tup l => refsL l
  | _ => []
def refsL : List AV → List Nat
  | [] => []
  | a :: r => refs a ++ refsL r
end
def addNew : List Nat → List Nat → List Nat
  | acc, [] => acc
  | acc, a :: r => match hasId acc a with | true => addNew acc r | false => addNew (acc ++ [a]) r
/-- The objects that values reach, each once, in their order. -/
def reach (S : AS) : Nat → List Nat → List Nat → List Nat
  | 0, acc, _ => acc
  | _, acc, [] => acc
  | n + 1, acc, id :: r => match hasId acc id with
    | true => reach S n acc r
    | false => match S.obj id with
      | some (.cells cs) => reach S n (acc ++ [id]) (refsL cs ++ r)
      | _ => reach S n (acc ++ [id]) r
def idx (l : List Nat) (n : Nat) : Nat := l.idxOf n
mutual
def ren (f : Nat → Nat) : AV → AV
  | .own id => .own (f id)
  | .optr id off => .optr (f id) off
  | .oel id sz i off => .oel (f id) sz i off
  | .otl id sz lo => .otl (f id) sz lo
  | .fn g a b => .fn g (renL f a) (renL f b)
  | .agg l => .agg (renL f l)
  | .tup l => .tup (renL f l)
  | v => v
def renL (f : Nat → Nat) : List AV → List AV
  | [] => []
  | a :: r => ren f a :: renL f r
end
def Obj.refs : Obj → List Nat
  | .cells cs => refsL cs
  | _ => []
/-- An object under its own number in a call: what comes in may not be kept. -/
def Obj.send (f : Nat → Nat) : Obj → Obj
  | .cells cs => .cells (renL f cs)
  | .grow _ e et xs => .grow true e et xs
  | o => o
/-- An object out of a call. -/
def Obj.back (f : Nat → Nat) (b : Bool) : Obj → Obj
  | .cells cs => .cells (renL f cs)
  | .grow en e et xs => .grow (match b with | true => en | false => false) e et xs
  | o => o
def sameKind : Obj → Obj → Bool
  | _, .gone => true
  | .grow _ _ _ _, .grow _ _ _ _ => true
  | .cells _, .cells _ => true
  | .arr _ _, .arr _ _ => true
  | .froz _ _, .froz _ _ => true
  | _, _ => false
def kindsOK (os : List Obj) : List (Nat × Obj) → Bool
  | [] => true
  | p :: r => match os[p.1]? with
    | some o => (match sameKind o p.2 with | true => kindsOK os r | false => false)
    | none => (match Nat.blt p.1 (os.length + 4) with | true => kindsOK os r | false => false)
def subIds (l ids : List Nat) : Bool := match l with
  | [] => true
  | a :: r => match hasId ids a with | true => subIds r ids | false => false
def objsIn (ids : List Nat) : List Obj → Bool
  | [] => true
  | o :: r => match subIds o.refs ids with | true => objsIn ids r | false => false
def nodupN : List Nat → Bool
  | [] => true
  | a :: r => match hasId r a with | true => false | false => nodupN r
def disj : List Nat → List Nat → Bool
  | [], _ => true
  | a :: r, l => match hasId l a with | true => false | false => disj r l
def objsOf (S : AS) : List Nat → Option (List Obj)
  | [] => some []
  | id :: r => match S.obj id, objsOf S r with
    | some o, some l => some (o :: l)
    | _, _ => none
/-- Does an object lie in memory that came in? -/
def entry (m : Nat) (S : AS) (id : Nat) : Bool :=
  match Nat.blt id m, S.obj id with
  | true, _ => true
  | false, some (.grow en _ _ _) => en
  | false, _ => false
/-- Does an object still hold its memory after the call? -/
def held (H : List (Nat × Obj)) (k : Nat) : Bool := match look H k with
  | some (.cells _) => true
  | some (.arr _ _) => true
  | _ => false
/-- May a new object lie in memory that came in? -/
def anyEntry (m : Nat) (S : AS) (H : List (Nat × Obj)) : Nat → List Nat → Bool
  | _, [] => false
  | k, a :: r => match entry m S a, held H k with | true, false => true | _, _ => anyEntry m S H (k + 1) r
def backId (ids : List Nat) (nid j : Nat) : Nat := match ids[j]? with | some i => i | none => nid + (j - ids.length)
def backObjs (f : Nat → Nat) (b : Bool) : List (Nat × Obj) → List (Nat × Obj)
  | [] => []
  | p :: r => (f p.1, p.2.back f b) :: backObjs f b r
def sendObjs (f : Nat → Nat) : List Obj → List Obj
  | [] => []
  | o :: r => o.send f :: sendObjs f r
def evCall (G : Gl) (S : AS) (nid : Nat) : AV → List AV → Tree Eff
  | .fn f first caps, args =>
    match handOver S (G.fz f) (first ++ args ++ caps) with
    | none => .fail
    | some (as, vis) =>
      let ids := reach S 64 [] (refsL as)
      match objsOf S ids, disj ids vis, nodupN ids, subIds (refsL as) ids with
      | some os, true, true, true =>
        match objsIn ids os, G.fn f (renL (idx ids) as) (sendObjs (idx ids) os) with
        | true, some cs => .bind cs.ρ cs.o fun r =>
          match kindsOK os (cs.out r).2 with
          | true => .leaf ⟨ren (backId ids nid) (cs.out r).1, backObjs (backId ids nid) (anyEntry G.m S (cs.out r).2 0 ids) (cs.out r).2 ++ frz S.obj vis, ids ++ vis, []⟩
          | false => .fail
        | _, _ => .fail
      | _, _, _, _ => .fail
  | _, _ => .fail

/-- A Bool that is decided already, or a branch. -/
def withBool {α : Type} (S : AS) (x : Operand) (k : Bool → List (Nat × Bool) → Tree α) : Tree α :=
  match x with
  | .const (.bool b) => k b []
  | .tmp t => match look S.dec t with
    | some c => k c []
    | none => match S.get t with
      | .bool b => .br b (k true [(t, true)]) (k false [(t, false)])
      | _ => .fail
  | _ => .fail
/-- Is an own list nil? Of an empty one nobody knows. -/
def evNilOwn (S : AS) (op : BinOp) (ti : TI) (id : Nat) : Tree Eff :=
  match op, isSl ti.td, S.obj id with
  | .eql, true, some (.grow _ _ _ xs) => .br xs.isEmpty (.leaf ⟨.anyB, [], [id], []⟩) (.leaf ⟨.bool false, [], [id], []⟩)
  | .eql, true, some (.froz _ xs) => .br xs.isEmpty (.leaf ⟨.anyB, [], [id], []⟩) (.leaf ⟨.bool false, [], [id], []⟩)
  | _, _, _ => .fail
def evBin2 (S : AS) (op : BinOp) (ti : TI) (a b : AV) : Tree Eff :=
  match a, b with
  | .own id, .nilsl => evNilOwn S op ti id
  | a, b => evBin op ti a b
/-- The same, for a branch of the code: of a Bool that nobody knows both must do. -/
def withBoolC {α : Type} (S : AS) (x : Operand) (k : Bool → List (Nat × Bool) → Tree α) : Tree α :=
  match x with
  | .const (.bool b) => k b []
  | .tmp t => match look S.dec t with
    | some c => k c []
    | none => match S.get t with
      | .bool b => .br b (k true [(t, true)]) (k false [(t, false)])
      | .anyB => .amb (k true []) (k false [])
      | _ => .fail
  | _ => .fail
def evOp (G : Gl) (S : AS) (nid : Nat) : Op → Tree Eff
  | .move x => .leaf (.pure (S.ev x))
  | .assign x => .leaf (.pure (S.ev x))
  | .pick c a b => withBool S c fun c dec => .leaf ⟨match c with | true => S.ev a | false => S.ev b, [], [], dec⟩
  | .alloc t => withTy G t fun ti => evAlloc G nid ti
  | .box t v => withTy G t fun ti => evBox G S nid ti (S.ev v)
  | .build t parts => withTy G t fun ti => evBuild G ti (parts.toList.map fun p => (p.1, S.ev p.2))
  | .buildSlice t n parts => withTy G t fun ti => evBuildSlice G S nid ti n (parts.toList.map fun p => (p.1, S.ev p.2))
  | .load t a => withTy G t fun ti => evLoad S ti (S.ev a)
  | .store t a v => withTy G t fun ti => match ti.td with | .arr n _ => evStoreArr G.m S n ti (S.ev a) (S.ev v) | _ => evStore G.m S ti (S.ev a) (S.ev v)
  | .nilCheck x => match S.ev x with
    | .optr id off => .leaf (.pure (.optr id off))
    | .oel id sz i off => .leaf (.pure (.oel id sz i off))
    | .pel e xs i off => .leaf (.pure (.pel e xs i off))
    | .pfl e x off => .leaf (.pure (.pfl e x off))
    | .fn f a b => .leaf (.pure (.fn f a b))
    | .ppt e o => .bind e.T o fun x => .leaf (.pure (.pfl e x 0))
    | _ => .fail
  | .binOp op t x y _ => withTy G t fun ti => evBin2 S op ti (S.ev x) (S.ev y)
  | .unOp op _ x => evUn op (S.ev x)
  | .convert s d x => withTy G s fun ts => withTy G d fun td => evConv ts td (S.ev x)
  | .makeFunc (.func f) first caps => .leaf (.pure (.fn f (first.toList.map S.ev) (caps.toList.map S.ev)))
  | .makeSlice t l c => withTy G t fun ti => evMakeSlice G nid ti (S.ev l) (S.ev c)
  | .slice t x lo hi none => withTy G t fun ti => evSlice2 G S nid ti (S.ev x) (lo.map S.ev) (hi.map S.ev)
  | .fieldAddr t x f => withTy G t fun ti => evFieldAddr G ti f (S.ev x)
  | .field t x f => withTy G t fun ti => evField G ti f (S.ev x)
  | .indexAddr t x i => withTy G t fun ti => evIndexAddr G S ti (S.ev x) (S.ev i)
  | .index t x i => withTy G t fun ti => evIndex G ti (S.ev x) (S.ev i)
  | .extract t i => match S.ev t with | .tup vs => (match vs[i]? with | some v => .leaf (.pure v) | none => .fail) | _ => .fail
  | .call ⟨.builtin b, args, ats⟩ => evBuiltin G S nid b ats.toList (args.toList.map S.ev)
  | .call ⟨.value f, args, _⟩ => evCall G S nid (S.ev f) (args.toList.map S.ev)
  | _ => .fail

/-! ### Regions, code -/
def isPick : Op → Bool
  | .pick _ _ _ => true
  | _ => false
def AS.aft (S : AS) (dst : Option Nat) (e : Eff) : AS := (S.setObjs e.ws).put dst e.v
def AS.apply (S : AS) (o : Oper) (e : Eff) : AS := ({ S with dec := (match isPick o.op with | true => e.dec | false => []) ++ S.dec }).aft o.dst e
/-- What was done in a region: per operation what it looked at, what it wrote. -/
abbrev Trace := List (List Nat × List Nat)
def dstOK (n : Nat) : Option Nat → Bool
  | none => true
  | some d => Nat.blt d n
/-- An operation writes no object that belongs to a later one. -/
def wsOK (nid : Nat) : List (Nat × Obj) → Bool
  | [] => true
  | p :: r => match Nat.blt p.1 (nid + 4) with | true => wsOK nid r | false => false
def guardTmp (all : Array Oper) (j : Nat) : Option Nat := (all[j]?).bind (·.dst)
def evOp1 (G : Gl) (nid : Nat) (o : Oper) (S : AS) : Tree Eff :=
  match dstOK G.n o.dst with
  | false => .fail
  | true => (evOp G S nid o.op).strip.bnd fun e => match wsOK nid e.ws with | true => .leaf e | false => .fail
def isUndef : AV → Bool
  | .undef => true
  | _ => false
def evOps (G : Gl) (all : Array Oper) (nid0 : Nat) : List Oper → Nat → AS → Trace → Tree (AS × Trace)
  | [], _, S, tr => .leaf (S, tr)
  | o :: rest, i, S, tr =>
    match o.guard with
    | none => (evOp1 G (nid0 + 4 * i) o S).bnd fun e => evOps G all nid0 rest (i + 1) (S.apply o e) ((e.rd, e.ws.map (·.1)) :: tr)
    | some (j, want) => match guardTmp all j with
      | none => .fail
      | some t => match isUndef (S.get t) with
        | true => evOps G all nid0 rest (i + 1) (S.put o.dst .undef) (([], []) :: tr)
        | false => withBool S (.tmp t) fun c dec => match c == want with
        | true => (evOp1 G (nid0 + 4 * i) o { S with dec := dec ++ S.dec }).bnd fun e => evOps G all nid0 rest (i + 1) (({ S with dec := dec ++ S.dec }).apply o e) ((e.rd, e.ws.map (·.1)) :: tr)
        | false => evOps G all nid0 rest (i + 1) (({ S with dec := dec ++ S.dec }).put o.dst .undef) (([], []) :: tr)
def tmpsOf : List Operand → List Nat
  | [] => []
  | .tmp t :: r => t :: tmpsOf r
  | _ :: r => tmpsOf r
def looks (all : Array Oper) (o : Oper) : List Nat := tmpsOf o.op.operands.toList ++ (match o.guard with | some (j, _) => (match guardTmp all j with | some t => [t] | none => []) | none => [])
/-- Must the one stay ahead of the other one? -/
def clash (all : Array Oper) (x y : Oper) (tx ty : List Nat × List Nat) : Bool :=
  (match x.dst with | some d => hasId (looks all y) d || (match y.dst with | some d' => Nat.beq d d' | none => false) | none => false) ||
  (match y.dst with | some d => hasId (looks all x) d | none => false) ||
  meet tx.2 (ty.1 ++ ty.2) || meet ty.2 tx.1
/-- Is an operation's own object among these? -/
def inRange (nid : Nat) : List Nat → Bool
  | [] => false
  | a :: r => match Nat.ble nid a && Nat.blt a (nid + 4) with | true => true | false => inRange nid r
/-- Each pair that may not change places is held by edges. -/
def orderly (nid0 : Nat) (all : Array Oper) (before : Array Nat) (tr : Trace) : Bool :=
  (List.range all.size).all fun j => (List.range j).all fun i =>
    match all[i]?, all[j]?, tr[i]?, tr[j]? with
    | some x, some y, some tx, some ty => !(clash all x y tx ty || inRange (nid0 + 4 * i) ty.2) || (before.getD j 0).testBit i
    | _, _, _, _ => false
def bindsAny (e : Edge) : Bool := match e.ground with
  | .textOnly _ => false
  | .gcOnly _ => false
  | _ => true
def edgeBits (acc : Array Nat) : List Edge → Nat
  | [] => 0
  | e :: r => match bindsAny e with
    | true => edgeBits acc r ||| (2 ^ e.on ||| acc.getD e.on 0)
    | false => edgeBits acc r
def clos : List Oper → Array Nat → Array Nat
  | [], acc => acc
  | o :: r, acc => clos r (acc.push (edgeBits acc o.after.toList))
def edgesLt (j : Nat) : List Edge → Bool
  | [] => true
  | e :: r => match bindsAny e, Nat.blt e.on j with
    | true, false => false
    | _, _ => edgesLt j r
def forward : List Oper → Nat → Bool
  | [], _ => true
  | o :: r, j => match edgesLt j o.after.toList with | true => forward r (j + 1) | false => false
def evRegion (G : Gl) (ops : Array Oper) (draw : Bool) (S : AS) : Tree AS :=
  (evOps G ops S.nx ops.toList 0 { S with nx := S.nx + 4 * ops.size } []).bnd fun p =>
    match draw with
    | false => .leaf p.1
    | true => match forward ops.toList 0 && orderly S.nx ops (clos ops.toList #[]) p.2.reverse with | true => .leaf p.1 | false => .fail
def keyOf : Code → Nat
  | .region id _ _ => id + 1
  | .seq a b => match keyOf a with | 0 => keyOf b | n => n
  | .block _ b => keyOf b
  | .loop b => match keyOf b with | 0 => 0 | n => n + 4096
  | .scope b => keyOf b
  | .cond _ a b => match keyOf a with | 0 => keyOf b | n => n
  | _ => 0
/-- The loops of a code that lie in no other loop of it: their bodies. -/
def loops : Code → List Code
  | .seq a b => loops a ++ loops b
  | .cond _ a b => loops a ++ loops b
  | .block _ a => loops a
  | .scope a => loops a
  | .loop b => [b]
  | _ => []
def ev (G : Gl) : Code → AS → Tree (AE × AS)
  | .skip, S => .leaf (.norm, S)
  | .label _, S => .leaf (.norm, S)
  | .ret, S => .leaf (.ret, S)
  | .exit id, S => .leaf (.exit id, S)
  | .seq a b, S => (ev G a S).bnd fun p => match p.1 with | .norm => ev G b p.2 | e => .leaf (e, p.2)
  | .cond c a b, S => withBoolC S c fun x dec => match x with
    | true => ev G a { S with dec := dec ++ S.dec }
    | false => ev G b { S with dec := dec ++ S.dec }
  | .block id b, S => (ev G b S).bnd fun p => match p.1 with
    | .exit id' => (match Nat.beq id' id with | true => .leaf (.norm, p.2) | false => .leaf (.exit id', p.2))
    | e => .leaf (e, p.2)
  | .scope b, S => ev G b S
  | .region _ ops draw, S => (evRegion G ops draw S).bnd fun S' => .leaf (.norm, S')
  | .loop b, S => match G.lp (keyOf b) S with
    | some ls => .bind ls.ρ ls.o ls.tr
    | none => .fail
  | _, _ => .fail
end
end Go.Rx
/-! Rx, part 2: how a state is read as plain data, and made of it; what is asked of a function's and a loop's plain Lean function. -/
namespace Go.Rx
noncomputable section

inductive SD where
  | d (e : Sh)
  | fn (f : FuncId) (a b : List SD)
  | agg (l : List SD)
  | own (j : Nat)
  | ptr (j off : Nat)
  | nl
  | tl (j sz : Nat)
  | unk
inductive OS where
  | grow (en : Bool) (e : Sh) (et : TypeId)
  | arr (e : Sh)
  | cells (l : List SD)
  | gone
inductive Loc where
  | pin (i : Nat)
  | tmp (t : Nat)
  | cell (j c : Nat)
structure Descr where
  os : List (Loc × OS)
  ss : List (Nat × SD)
mutual
@[reducible] def SD.shs : SD → List Sh
  | .d e => [e]
  | .fn _ a b => shsL a ++ shsL b
  | .agg l => shsL l
  | .own _ => []
  | .ptr _ _ => []
  | .nl => []
  | .tl _ _ => [.int .i64]
  | .unk => []
@[reducible] def shsL : List SD → List Sh
  | [] => []
  | s :: r => s.shs ++ shsL r
end
@[reducible] def OS.shs : OS → List Sh
  | .grow _ e _ => [.sl e]
  | .arr e => [.sl e]
  | .cells l => shsL l
  | .gone => []
@[reducible] def shsO : List (Loc × OS) → List Sh
  | [] => []
  | o :: r => o.2.shs ++ shsO r
@[reducible] def shsS : List (Nat × SD) → List Sh
  | [] => []
  | s :: r => s.2.shs ++ shsS r
@[reducible] def Descr.shs (D : Descr) : List Sh := shsO D.os ++ shsS D.ss
@[reducible] def tupT : List Sh → Type
  | [] => Unit
  | [e] => e.T
  | e :: e' :: r => e.T × tupT (e' :: r)
def ofTup : (l : List Sh) → tupT l → List Dat
  | [], _ => []
  | [e], x => [⟨e, x⟩]
  | e :: e' :: r, x => ⟨e, x.1⟩ :: ofTup (e' :: r) x.2
def toTup : (l : List Sh) → List Dat → Option (tupT l)
  | [], [] => some ()
  | [e], [d] => match decEq d.e e with | isTrue q => some (castT q d.x) | isFalse _ => none
  | e :: e' :: r, d :: l => match decEq d.e e with
    | isTrue q => (match toTup (e' :: r) l with | some y => some (castT q d.x, y) | none => none)
    | isFalse _ => none
  | _, _ => none

/-! ### A state made of data -/
mutual
def takeSD : SD → List Dat → AV × List Dat
  | .d _, d :: r => (valAV d.e d.x, r)
  | .d _, [] => (.unk, [])
  | .fn f a b, l => (.fn f (takeSDs a l).1 (takeSDs b (takeSDs a l).2).1, (takeSDs b (takeSDs a l).2).2)
  | .agg s, l => (.agg (takeSDs s l).1, (takeSDs s l).2)
  | .own j, l => (.own j, l)
  | .ptr j off, l => (.optr j off, l)
  | .nl, l => (.nilsl, l)
  | .tl j sz, ⟨.int _, n⟩ :: r => (.otl j sz (Int.toNat n), r)
  | .tl _ _, l => (.unk, l)
  | .unk, l => (.unk, l)
def takeSDs : List SD → List Dat → List AV × List Dat
  | [], l => ([], l)
  | s :: r, l => ((takeSD s l).1 :: (takeSDs r (takeSD s l).2).1, (takeSDs r (takeSD s l).2).2)
end
def takeOS : OS → List Dat → Obj × List Dat
  | .grow en _ et, ⟨.sl e, xs⟩ :: r => (.grow en e et xs, r)
  | .arr _, ⟨.sl e, xs⟩ :: r => (.arr e xs, r)
  | .cells l, r => (.cells (takeSDs l r).1, (takeSDs l r).2)
  | _, r => (.gone, r)
def takeO : List (Loc × OS) → Nat → List Dat → List (Nat × Obj) × List Dat
  | [], _, l => ([], l)
  | o :: r, j, l => ((j, (takeOS o.2 l).1) :: (takeO r (j + 1) (takeOS o.2 l).2).1, (takeO r (j + 1) (takeOS o.2 l).2).2)
def takeS : List (Nat × SD) → List Dat → List (Nat × AV)
  | [], _ => []
  | s :: r, l => (s.1, (takeSD s.2 l).1) :: takeS r (takeSD s.2 l).2
def head (D : Descr) (l : List Dat) : AS := ⟨takeS D.ss (takeO D.os 0 l).2, (takeO D.os 0 l).1, D.os.length, []⟩

/-! ### A state read as data -/
def idOf (sh : OS) : AV → Option (Option Nat)
  | .own id => some (some id)
  | .optr id 0 => some (some id)
  | .nilsl => match sh with | .grow _ _ _ => some none | _ => none
  | _ => none
def locate (S : AS) (acc : List (Option Nat)) : Loc → OS → Option (Option Nat)
  | .pin i, _ => some (some i)
  | .tmp t, sh => idOf sh (S.get t)
  | .cell j c, sh => match acc[j]? with
    | some (some id) => match S.obj id with
      | some (.cells cs) => match cs[c]? with | some v => idOf sh v | none => none
      | _ => none
    | _ => none
def idsOf (S : AS) : List (Loc × OS) → List (Option Nat) → Option (List (Option Nat))
  | [], acc => some acc
  | o :: r, acc => match locate S acc o.1 o.2 with | some i => idsOf S r (acc ++ [i]) | none => none
def beqO : Option (Option Nat) → Option Nat → Bool
  | some (some a), some b => Nat.beq a b
  | some none, none => true
  | _, _ => false
mutual
def projSD (m : Nat) (S : AS) (ids : List (Option Nat)) : SD → AV → Option (List Dat × List Nat)
  | .d e, v => match dataV m S.obj e v with | some d => some ([⟨e, d.x⟩], d.vis) | none => none
  | .fn f a b, .fn f' va vb => match Nat.beq f f', projSDs m S ids a va, projSDs m S ids b vb with
    | true, some (d, v), some (d', v') => some (d ++ d', v ++ v')
    | _, _, _ => none
  | .agg l, .agg vs => projSDs m S ids l vs
  | .own j, .own id => match beqO ids[j]? (some id) with | true => some ([], []) | false => none
  | .own j, .nilsl => match beqO ids[j]? none with | true => some ([], []) | false => none
  | .ptr j off, .optr id off' => match beqO ids[j]? (some id), Nat.beq off off' with | true, true => some ([], []) | _, _ => none
  | .nl, .nilsl => some ([], [])
  | .tl j sz, .otl id sz' lo => match beqO ids[j]? (some id), Nat.beq sz sz' with | true, true => some ([⟨.int .i64, ((lo : Nat) : Int)⟩], []) | _, _ => none
  | .unk, _ => some ([], [])
  | _, _ => none
def projSDs (m : Nat) (S : AS) (ids : List (Option Nat)) : List SD → List AV → Option (List Dat × List Nat)
  | [], [] => some ([], [])
  | s :: r, v :: l => match projSD m S ids s v, projSDs m S ids r l with
    | some (d, a), some (d', a') => some (d ++ d', a ++ a')
    | _, _ => none
  | _, _ => none
end
def projOS (m : Nat) (S : AS) (ids : List (Option Nat)) : OS → Option Nat → Option (List Dat × List Nat)
  | .grow _ e _, none => some ([⟨.sl e, ([] : List e.T)⟩], [])
  | .grow en e et, some id => match S.obj id with
    | some (.grow en' e' et' xs) => match decEq e' e, Nat.beq et' et, (!en' || en) with | isTrue q, true, true => some ([⟨.sl e, castL q xs⟩], []) | _, _, _ => none
    | _ => none
  | .arr e, some id => match S.obj id with
    | some (.arr e' xs) => match decEq e' e with | isTrue q => some ([⟨.sl e, castL q xs⟩], []) | _ => none
    | _ => none
  | .cells l, some id => match S.obj id with
    | some (.cells cs) => projSDs m S ids l cs
    | _ => none
  | .gone, some id => match S.obj id with
    | some .gone => some ([], [])
    | some (.grow _ _ _ _) => some ([], [])
    | _ => none
  | _, none => none
def projO (m : Nat) (S : AS) (ids : List (Option Nat)) : List (Loc × OS) → List (Option Nat) → Option (List Dat × List Nat)
  | [], [] => some ([], [])
  | o :: r, i :: is => match projOS m S ids o.2 i, projO m S ids r is with
    | some (d, a), some (d', a') => some (d ++ d', a ++ a')
    | _, _ => none
  | _, _ => none
def projS (m : Nat) (S : AS) (ids : List (Option Nat)) : List (Nat × SD) → Option (List Dat × List Nat)
  | [] => some ([], [])
  | s :: r => match projSD m S ids s.2 (S.get s.1), projS m S ids r with
    | some (d, a), some (d', a') => some (d ++ d', a ++ a')
    | _, _ => none
def hasO : List (Option Nat) → Nat → Bool
  | [], _ => false
  | some a :: r, n => match Nat.beq a n with | true => true | false => hasO r n
  | none :: r, n => hasO r n
def nodupO : List (Option Nat) → Bool
  | [] => true
  | some a :: r => match hasO r a with | true => false | false => nodupO r
  | none :: r => nodupO r
/-- The objects' ids, but of those that are given up. -/
def liveO : List (Loc × OS) → List (Option Nat) → List (Option Nat)
  | o :: r, i :: is => (match o.2 with | .gone => none | _ => i) :: liveO r is
  | _, _ => []
def pinned (ids : List (Option Nat)) : Nat → Bool
  | 0 => true
  | m + 1 => match beqO ids[m]? (some m) with | true => pinned ids m | false => false
def apartO (ids : List (Option Nat)) (m : Nat) : List Nat → Bool
  | [] => true
  | v :: r => match hasO ids v, Nat.ble m v with | false, true => apartO ids m r | _, _ => false
/-- The state's data, if it is of that make: objects below m stand where they stood. -/
def proj (D : Descr) (m : Nat) (S : AS) : Option (List Dat) :=
  match idsOf S D.os [] with
  | none => none
  | some ids => match projO m S ids D.os ids, projS m S ids D.ss with
    | some (d, a), some (d', a') => match nodupO (liveO D.os ids), pinned ids m, apartO ids m (a ++ a') with
      | true, true, true => some (d ++ d')
      | _, _, _ => none
    | _, _ => none
def projT (D : Descr) (m : Nat) (S : AS) : Option (tupT D.shs) :=
  match proj D m S with | some l => toTup D.shs l | none => none

/-! ### Functions and loops -/
structure Sig where
  ps : Descr
  rs : Descr
  F : tupT ps.shs → Option (tupT rs.shs)
def zipI {α : Type} : Nat → List α → List (Nat × α)
  | _, [] => []
  | i, a :: r => (i, a) :: zipI (i + 1) r
def resAV (ss : List (Nat × AV)) : AV :=
  match ss with
  | [p] => p.2
  | l => .tup (l.map (·.2))
def argsState (args : List AV) (H : List Obj) : AS := ⟨zipI 0 args, zipI 0 H, H.length, []⟩
def strictIds : List (Option Nat) → Nat → Bool
  | [], _ => true
  | some a :: r, n => match Nat.beq a n with | true => strictIds r (n + 1) | false => false
  | none :: _, _ => false
/-- The arguments of a call as data; no object is handed over but as it is. -/
def projArgs (D : Descr) (args : List AV) (H : List Obj) : Option (List Dat) :=
  let S := argsState args H
  match Nat.beq D.ss.length args.length, Nat.beq D.os.length H.length with
  | true, true => match idsOf S D.os [] with
    | none => none
    | some ids => match projO H.length S ids D.os ids, projS H.length S ids D.ss with
      | some (d, []), some (d', []) => match strictIds ids 0 with | true => some (d ++ d') | false => none
      | _, _ => none
  | _, _ => none
def Sig.cs (s : Sig) (args : List AV) (H : List Obj) : Option CS :=
  match projArgs s.ps args H with
  | none => none
  | some l => match toTup s.ps.shs l with
    | none => none
    | some x => some ⟨tupT s.rs.shs, s.F x, fun y => (resAV (head s.rs (ofTup s.rs.shs y)).t, (head s.rs (ofTup s.rs.shs y)).h)⟩
def fnTab : List (FuncId × Sig) → FuncId → List AV → List Obj → Option CS
  | [], _, _, _ => none
  | p :: r, f, args, H => match Nat.beq p.1 f with
    | true => match p.2.cs args H with | some c => some c | none => fnTab r f args H
    | false => fnTab r f args H
@[reducible] def exT : List (AE × Descr) → Type
  | [] => Empty
  | [p] => tupT p.2.shs
  | p :: q :: r => tupT p.2.shs ⊕ exT (q :: r)
def beqE : AE → AE → Bool
  | .norm, .norm => true
  | .ret, .ret => true
  | .exit a, .exit b => Nat.beq a b
  | _, _ => false
def exProj (m : Nat) : (l : List (AE × Descr)) → AE → AS → Option (exT l)
  | [], _, _ => none
  | [p], e, S => match beqE p.1 e with | true => projT p.2 m S | false => none
  | p :: q :: r, e, S => match beqE p.1 e with
    | true => match projT p.2 m S with | some y => some (.inl y) | none => none
    | false => match exProj m (q :: r) e S with | some y => some (.inr y) | none => none
def exOut : (l : List (AE × Descr)) → exT l → AE × AS
  | [], y => nomatch y
  | [p], y => (p.1, head p.2 (ofTup p.2.shs y))
  | p :: q :: r, y => match y with
    | .inl y => (p.1, head p.2 (ofTup p.2.shs y))
    | .inr y => exOut (q :: r) y
def exTr : (l : List (AE × Descr)) → exT l → Tree (AE × AS)
  | [], y => nomatch y
  | [p], y => .leaf (p.1, head p.2 (ofTup p.2.shs y))
  | p :: q :: r, y => .alt (tupT p.2.shs) (exT (q :: r)) y (fun y => .leaf (p.1, head p.2 (ofTup p.2.shs y))) (fun y => exTr (q :: r) y)
structure LSig where
  hd : Descr
  ex : List (AE × Descr)
  F : tupT hd.shs → Option (exT ex)
def LSig.ls (m : Nat) (s : LSig) (S : AS) : Option LS :=
  match projT s.hd m S with
  | none => none
  | some x => some ⟨exT s.ex, s.F x, exTr s.ex⟩
def lpTab (m : Nat) : List (Nat × LSig) → Nat → AS → Option LS
  | [], _, _ => none
  | p :: r, k, S => match Nat.beq p.1 k with
    | true => p.2.ls m S
    | false => lpTab m r k S
/-- A round's end: once more, or out. -/
def roundEnd (m : Nat) (s : LSig) (p : AE × AS) : Option (exT s.ex) :=
  match p.1 with
  | .norm => (projT s.hd m p.2).bind s.F
  | e => exProj m s.ex e p.2
/-- A result variable's value. -/
def resOf (G : Gl) (S : AS) : List ResultVar → Option (List AV)
  | [] => some []
  | .tmp t :: r => match resOf G S r with | some l => some (S.get t :: l) | none => none
  | .cell a t :: r => match G.ty t, S.get a with
    | some ti, .optr id off => match S.obj id with
      | some (.cells cs) => match pickCells ti.td.isAgg ti.size off cs, resOf G S r with | some v, some l => some (v :: l) | _, _ => none
      | _ => none
    | _, _ => none
def funEnd (G : Gl) (rvs : List ResultVar) (m : Nat) (rs : Descr) (p : AE × AS) : Option (tupT rs.shs) :=
  match p.1 with
  | .exit _ => none
  | _ => match resOf G p.2 rvs with
    | some l => match Nat.beq l.length rs.ss.length with | true => projT rs m ⟨zipI 0 l, p.2.h, p.2.nx, []⟩ | false => none
    | none => none
def tyTab : List (TypeId × TI) → TypeId → Option TI := look
end
end Go.Rx
/-! Rx, part 3: what it is that an abstract state tells of the machine's, and how that is kept when memory changes. -/
namespace Go.Rx
set_option linter.unusedVariables false

def RowsL {T : Type} (R : T → List Value → Prop) : List T → List Value → Prop
  | [], cs => cs = []
  | x :: xs, cs => ∃ c r, cs = c ++ r ∧ R x c ∧ RowsL R xs r
def At (w : World) (a : Addr) (cs : List Value) : Prop := ∀ j v, cs[j]? = some v → w.cell? ⟨a.block, a.off + j, none⟩ = some v

/-- Cells that hold a datum, in memory that stays. -/
def PC (A : Nat → Prop) (w : World) : (s : Sh) → s.T → List Value → Prop
  | .int k, n, cs => cs = [.int k n]
  | .bool, b, cs => cs = [.bool b]
  | .str, s, cs => cs = [.string s]
  | .unit, _, cs => cs = []
  | .pair a b, x, cs => ∃ c1 c2, cs = c1 ++ c2 ∧ PC A w a x.1 c1 ∧ PC A w b x.2 c2
  | .st a, x, cs => PC A w a x cs
  | .sl e, xs, cs => ∃ ad cap, cs = [.slice ad (List.length xs) cap] ∧ List.length xs ≤ cap ∧
      (xs ≠ [] → ∃ a : Addr, ad = some a ∧ a.spot = none ∧ A a.block ∧ ∃ cells, RowsL (fun x c => PC A w e x c) xs cells ∧ At w a cells)
  | .ptr e, x, cs => match x with
    | none => cs = [.pointer none]
    | some x => ∃ (a : Addr) (c : List Value), cs = [.pointer (some a)] ∧ a.spot = none ∧ A a.block ∧ PC A w e x c ∧ At w a c

theorem RowsL.imp {T : Type} {R R' : T → List Value → Prop} (h : ∀ x c, R x c → R' x c) : ∀ {xs : List T} {cs : List Value}, RowsL R xs cs → RowsL R' xs cs
  | [], _, hr => hr
  | _ :: _, _, ⟨c, r, e, h1, h2⟩ => ⟨c, r, e, h _ _ h1, RowsL.imp h h2⟩
theorem RowsL.append {T : Type} {R : T → List Value → Prop} : ∀ {xs ys : List T} {cs ds : List Value}, RowsL R xs cs → RowsL R ys ds → RowsL R (xs ++ ys) (cs ++ ds)
  | [], _, _, _, hx, hy => by cases hx; exact hy
  | _ :: _, _, _, _, ⟨c, r, e, h1, h2⟩, hy => ⟨c, r ++ _, by rw [e, List.append_assoc], h1, RowsL.append h2 hy⟩
theorem RowsL.length {T : Type} {R : T → List Value → Prop} {n : Nat} (hn : ∀ x c, R x c → c.length = n) : ∀ {xs : List T} {cs : List Value}, RowsL R xs cs → cs.length = xs.length * n
  | [], _, h => by cases h; simp
  | _ :: xs, _, ⟨c, r, e, h1, h2⟩ => by rw [e, List.length_append, hn _ _ h1, RowsL.length hn h2, List.length_cons, Nat.succ_mul, Nat.add_comm]
/-- The cells of the i-th one. -/
theorem RowsL.get {T : Type} {R : T → List Value → Prop} {n : Nat} (hn : ∀ x c, R x c → c.length = n) : ∀ {xs : List T} {cs : List Value} (i : Nat) (x : T), RowsL R xs cs → xs[i]? = some x →
    ∃ c, R x c ∧ ∀ j v, c[j]? = some v → cs[i * n + j]? = some v
  | [], _, i, x, _, hx => by simp at hx
  | y :: xs, _, i, x, ⟨c, r, e, h1, h2⟩, hx => by
    cases i with
    | zero =>
      simp at hx
      subst hx
      refine ⟨c, h1, fun j v hv => ?_⟩
      have hj : j < c.length := (List.getElem?_eq_some_iff.1 hv).1
      rw [e, Nat.zero_mul, Nat.zero_add, List.getElem?_append_left hj]
      exact hv
    | succ i =>
      simp at hx
      obtain ⟨c', h3, h4⟩ := RowsL.get hn i x h2 hx
      refine ⟨c', h3, fun j v hv => ?_⟩
      have := h4 j v hv
      rw [e, List.getElem?_append_right (by rw [hn _ _ h1, Nat.succ_mul]; omega), hn _ _ h1, show (i + 1) * n + j - n = i * n + j by rw [Nat.succ_mul]; omega]
      exact this
theorem RowsL.set {T : Type} {R : T → List Value → Prop} {n : Nat} (hn : ∀ x c, R x c → c.length = n) : ∀ {xs : List T} {cs : List Value} (i : Nat) (x : T) (c : List Value), RowsL R xs cs → i < xs.length → R x c →
    RowsL R (xs.set i x) (cs.take (i * n) ++ c ++ cs.drop (i * n + n))
  | [], _, i, x, _, _, hx, _ => by simp at hx
  | y :: xs, _, i, x, c', ⟨c, r, e, h1, h2⟩, hx, hc => by
    cases i with
    | zero =>
      refine ⟨c', r, ?_, hc, h2⟩
      have hl := hn _ _ h1
      rw [e, Nat.zero_mul, Nat.zero_add, List.take_zero, List.nil_append, ← hl, List.drop_left]
    | succ i =>
      have hl := hn _ _ h1
      have := RowsL.set hn i x c' h2 (by simpa using hx) hc
      refine ⟨c, _, ?_, h1, this⟩
      have e1 : (i + 1) * n = c.length + i * n := by rw [Nat.succ_mul, hl]; omega
      rw [e, e1, List.take_append, show c.length + i * n + n = c.length + (i * n + n) by omega, List.drop_append]
      simp [List.take_of_length_le (l := c) (Nat.le_add_right c.length (i * n)), List.drop_eq_nil_of_le (as := c) (Nat.le_add_right c.length (i * n + n))]
theorem PC.length {A : Nat → Prop} {w : World} : ∀ {s : Sh} {x : s.T} {cs : List Value}, PC A w s x cs → cs.length = s.size
  | .int _, _, _, h => by rw [h]; rfl
  | .bool, _, _, h => by rw [h]; rfl
  | .str, _, _, h => by rw [h]; rfl
  | .unit, _, _, h => by rw [h]; rfl
  | .pair a b, _, _, ⟨_, _, e, h1, h2⟩ => by rw [e, List.length_append, PC.length h1, PC.length h2]; rfl
  | .st a, _, _, h => PC.length (s := a) h
  | .sl _, _, _, ⟨_, _, e, _⟩ => by rw [e]; rfl
  | .ptr _, x, _, h => by
    cases x with
    | none => rw [show _ = _ from h]; rfl
    | some x => obtain ⟨_, _, e, _⟩ := h; rw [e]; rfl

theorem At.mono {w w' : World} {a : Addr} {cs : List Value} (h : ∀ o v, w.cell? ⟨a.block, o, none⟩ = some v → w'.cell? ⟨a.block, o, none⟩ = some v) (hc : At w a cs) : At w' a cs :=
  fun j v hv => h _ _ (hc j v hv)
theorem PC.mono {A A' : Nat → Prop} {w w' : World} (hA : ∀ b, A b → A' b) (hw : ∀ b, A b → ∀ o v, w.cell? ⟨b, o, none⟩ = some v → w'.cell? ⟨b, o, none⟩ = some v) :
    ∀ {s : Sh} {x : s.T} {cs : List Value}, PC A w s x cs → PC A' w' s x cs
  | .int _, _, _, h => h
  | .bool, _, _, h => h
  | .str, _, _, h => h
  | .unit, _, _, h => h
  | .pair a b, _, _, ⟨c1, c2, e, h1, h2⟩ => ⟨c1, c2, e, PC.mono hA hw h1, PC.mono hA hw h2⟩
  | .st a, _, _, h => PC.mono (s := a) hA hw h
  | .sl e, _, _, ⟨ad, cap, e1, h1, h2⟩ => ⟨ad, cap, e1, h1, fun hx => by
      obtain ⟨a, e2, h3, h4, cells, h5, h6⟩ := h2 hx
      exact ⟨a, e2, h3, hA _ h4, cells, h5.imp (fun x c hc => PC.mono (s := e) hA hw hc), h6.mono (hw _ h4)⟩⟩
  | .ptr e, x, _, h => by
    cases x with
    | none => exact h
    | some x =>
      obtain ⟨a, c, e1, h1, h2, h3, h4⟩ := h
      exact ⟨a, c, e1, h1, hA _ h2, PC.mono (s := e) hA hw h3, h4.mono (hw _ h2)⟩

/-! ### Values -/
structure Env where
  β : Nat → Nat
  sl : Nat → Option Addr × Nat × Nat
  ln : Nat → Nat
/-- The slice that a growing list is. -/
def Env.σ (E : Env) (id : Nat) : Value := .slice (E.sl id).1 (E.sl id).2.1 (E.sl id).2.2
mutual
def RepV (D : Nat → Prop) (E : Env) (A : Nat → Prop) (w : World) : AV → Value → Prop
  | .unk, _ => True
  | .undef, v => v = undef
  | .anyB, v => ∃ b, v = .bool b
  | .zb n, v => v = .agg (List.toArray (List.replicate n (.bool false)))
  | .int k n, v => v = .int k n
  | .bool b, v => v = .bool b
  | .str s, v => v = .string s
  | .nilsl, v => v = .slice none 0 0
  | .nilptr, v => v = .pointer none
  | .glob g, v => v = .pointer (some ⟨g, 0, none⟩)
  | .psl e xs, v => PC A w (.sl e) xs [v]
  | .ppt e x, v => PC A w (.ptr e) x [v]
  | .own id, v => D id ∧ v = E.σ id
  | .optr id off, v => D id ∧ v = .pointer (some ⟨E.β id, off, none⟩)
  | .oel id sz i off, v => D id ∧ i < E.ln id ∧ v = .pointer (some ⟨E.β id, i * sz + off, none⟩)
  | .otl id sz lo, v => D id ∧ ∃ ad c, v = .slice ad (E.ln id - lo) c ∧ (lo < E.ln id → ad = some ⟨E.β id, lo * sz, none⟩)
  | .pel e xs i off, v => ∃ (a : Addr) (cells : List Value), A a.block ∧ RowsL (fun x c => PC A w e x c) xs cells ∧ At w a cells ∧ i < xs.length ∧
      v = .pointer (some ⟨a.block, a.off + (i * e.size + off), none⟩)
  | .pfl e x off, v => ∃ (a : Addr) (c : List Value), A a.block ∧ PC A w e x c ∧ At w a c ∧ v = .pointer (some ⟨a.block, a.off + off, none⟩)
  | .fn f first caps, v => ∃ fs cs, v = .func (.func f) (List.toArray fs) (List.toArray cs) ∧ RepL D E A w first fs ∧ RepL D E A w caps cs
  | .agg l, v => ∃ vs, v = .agg (List.toArray vs) ∧ RepL D E A w l vs
  | .tup l, v => ∃ vs, v = .tuple (List.toArray vs) ∧ RepL D E A w l vs
def RepL (D : Nat → Prop) (E : Env) (A : Nat → Prop) (w : World) : List AV → List Value → Prop
  | [], l => l = []
  | v :: r, l => ∃ x t, l = x :: t ∧ RepV D E A w v x ∧ RepL D E A w r t
end
def RepO (D : Nat → Prop) (E : Env) (A : Nat → Prop) (w : World) (id : Nat) : Obj → Prop
  | .gone => True
  | .grow _ e et xs => E.ln id = xs.length ∧ ((E.σ id = .slice none 0 0 ∧ xs = []) ∨
      ∃ cap cur cells, E.σ id = .slice (some ⟨E.β id, 0, none⟩) xs.length cap ∧ w.heap[E.β id]? = some (.cells cur et (0, 0)) ∧ xs.length ≤ cap ∧ cap ≤ maxLen ∧ cur.size = cap * e.size ∧
        RowsL (fun x c => PC A w e x c) xs cells ∧ cur.toList.take (xs.length * e.size) = cells)
  | .froz e xs => E.ln id = xs.length ∧ PC A w (.sl e) xs [E.σ id] ∧ (xs ≠ [] → ∃ cap, E.σ id = .slice (some ⟨E.β id, 0, none⟩) xs.length cap)
  | .cells cs => ∃ vs et, w.heap[E.β id]? = some (.cells (List.toArray vs) et (0, 0)) ∧ RepL D E A w cs vs
  | .arr e xs => E.ln id = xs.length ∧ ∃ cells et, w.heap[E.β id]? = some (.cells (List.toArray cells) et (0, 0)) ∧ RowsL (fun x c => PC A w e x c) xs cells
def Owns (E : Env) (id : Nat) : Obj → Prop
  | .grow _ _ _ _ => E.σ id ≠ .slice none 0 0
  | .cells _ => True
  | .arr _ _ => True
  | _ => False

structure Ctx where
  P : Program
  w0 : World
  A0 : Nat → Prop
  /-- blocks that came in to be written -/
  O0 : Nat → Prop
  m : Nat
  E0 : Env
  N : Nat
  gl : Nat → Option Tab
/-- Memory that stays: what was there and may be read, and what has come and is nobody's. -/
def Al (C : Ctx) (S : AS) (E : Env) (w : World) (b : Nat) : Prop :=
  C.A0 b ∨ (C.w0.heap.size ≤ b ∧ b < w.heap.size ∧ ∀ id o, S.obj id = some o → Owns E id o → E.β id ≠ b)
/-- May an object lie in memory that came in? -/
def Entry (C : Ctx) (id : Nat) : Obj → Prop
  | .grow en _ _ _ => en = true
  | _ => id < C.m
def Dom (S : AS) (id : Nat) : Prop := S.obj id ≠ none
/-- The rest of the world stands: no more than new blocks, none of them frozen. -/
structure Later (w w' : World) : Prop where
  sz : w.heap.size ≤ w'.heap.size
  os : w'.os = w.os
  out : w'.output = w.output
  fz : ∀ a, w'.frozen? a = w.frozen? a
theorem Later.refl (w : World) : Later w w := ⟨Nat.le_refl _, rfl, rfl, fun _ => rfl⟩
theorem Later.trans {w w' w'' : World} (h : Later w w') (h' : Later w' w'') : Later w w'' := ⟨Nat.le_trans h.sz h'.sz, h'.os.trans h.os, h'.out.trans h.out, fun a => (h'.fz a).trans (h.fz a)⟩
theorem later_alloc (w : World) (c : Array Value) (t : TypeId) : Later w (w.alloc (.cells c t)) := ⟨by show _ ≤ (w.heap.push _).size; simp, rfl, rfl, fun a => RowKit.frozen?_alloc_cells w c t a⟩
theorem later_drew (w : World) : Later w w.drew := ⟨Nat.le_refl _, rfl, rfl, fun _ => rfl⟩
theorem later_setRow (w : World) (g : Nat) (cs : Array Value) : Later w (w.setRow g cs) := by
  refine ⟨by simp [World.setRow], rfl, rfl, fun a => ?_⟩
  unfold World.frozen? World.setRow
  simp only [Array.getElem?_modify]
  by_cases q : g = a.block
  · rw [if_pos q]
    cases hq : w.heap[a.block]? with
    | none => rfl
    | some o => cases o <;> rfl
  · rw [if_neg q]
structure RepH (C : Ctx) (S : AS) (E : Env) (w : World) : Prop where
  a0 : ∀ b, C.A0 b → b < C.w0.heap.size ∧ ¬ C.O0 b
  gl : ∀ g e xs, C.gl g = some ⟨e, xs⟩ → C.A0 g ∧ ∃ cells, RowsL (fun x c => PC C.A0 C.w0 e x c) xs cells ∧ At C.w0 ⟨g, 0, none⟩ cells
  lat : Later C.w0 w
  keep : ∀ b, b < C.w0.heap.size → ¬ C.O0 b → w.heap[b]? = C.w0.heap[b]?
  pin : ∀ i, i < C.m → S.obj i ≠ none ∧ E.β i = C.E0.β i ∧ E.σ i = C.E0.σ i ∧ E.ln i = C.E0.ln i
  fresh : ∀ id o, S.obj id = some o → Owns E id o → E.β id < w.heap.size ∧ (C.w0.heap.size ≤ E.β id ∨ C.O0 (E.β id) ∧ Entry C id o)
  inj : ∀ i j o o', S.obj i = some o → Owns E i o → S.obj j = some o' → Owns E j o' → E.β i = E.β j → i = j
  objs : ∀ id o, S.obj id = some o → RepO (Dom S) E (Al C S E w) w id o
theorem RepH.size {C : Ctx} {S : AS} {E : Env} {w : World} (h : RepH C S E w) : C.w0.heap.size ≤ w.heap.size := h.lat.sz
structure RepE (C : Ctx) (S : AS) (E : Env) (a : Act) (w : World) : Prop where
  n : a.tmps.size = C.N
  d : a.defers = []
  h : RepH C S E w
  t : ∀ t, RepV (Dom S) E (Al C S E w) w (S.get t) (a.tmps.getD t undef)
def Rep (C : Ctx) (S : AS) (a : Act) (w : World) : Prop := ∃ E, RepE C S E a w

/-! ### What is kept -/
structure Ext (D : Nat → Prop) (E : Env) (A : Nat → Prop) (w : World) (D' : Nat → Prop) (E' : Env) (A' : Nat → Prop) (w' : World) : Prop where
  d : ∀ id, D id → D' id ∧ E'.β id = E.β id ∧ E'.σ id = E.σ id ∧ E'.ln id = E.ln id
  a : ∀ b, A b → A' b ∧ ∀ o v, w.cell? ⟨b, o, none⟩ = some v → w'.cell? ⟨b, o, none⟩ = some v
theorem Ext.pc {D D' : Nat → Prop} {E E' : Env} {A A' : Nat → Prop} {w w' : World} (h : Ext D E A w D' E' A' w') {s : Sh} {x : s.T} {cs : List Value} (hp : PC A w s x cs) : PC A' w' s x cs :=
  hp.mono (fun b hb => (h.a b hb).1) (fun b hb => (h.a b hb).2)
mutual
theorem Ext.repV {D D' : Nat → Prop} {E E' : Env} {A A' : Nat → Prop} {w w' : World} (h : Ext D E A w D' E' A' w') : ∀ {v : AV} {x : Value}, RepV D E A w v x → RepV D' E' A' w' v x
  | .unk, _, _ => by simp [RepV]
  | .undef, _, q => by simpa [RepV] using q
  | .anyB, _, q => by simpa [RepV] using q
  | .zb _, _, q => by simpa [RepV] using q
  | .int _ _, _, q => by simpa [RepV] using q
  | .bool _, _, q => by simpa [RepV] using q
  | .str _, _, q => by simpa [RepV] using q
  | .nilsl, _, q => by simpa [RepV] using q
  | .nilptr, _, q => by simpa [RepV] using q
  | .glob _, _, q => by simpa [RepV] using q
  | .psl _ _, _, q => by simp only [RepV] at q ⊢; exact h.pc q
  | .ppt _ _, _, q => by simp only [RepV] at q ⊢; exact h.pc q
  | .own id, _, q => by simp only [RepV] at q ⊢; exact ⟨(h.d _ q.1).1, by rw [(h.d _ q.1).2.2.1]; exact q.2⟩
  | .optr id _, _, q => by simp only [RepV] at q ⊢; exact ⟨(h.d _ q.1).1, by rw [(h.d _ q.1).2.1]; exact q.2⟩
  | .oel id _ _ _, _, q => by simp only [RepV] at q ⊢; exact ⟨(h.d _ q.1).1, by rw [(h.d _ q.1).2.2.2]; exact q.2.1, by rw [(h.d _ q.1).2.1]; exact q.2.2⟩
  | .otl id _ _, _, q => by simp only [RepV] at q ⊢; exact ⟨(h.d _ q.1).1, by rw [(h.d _ q.1).2.2.2, (h.d _ q.1).2.1]; exact q.2⟩
  | .pel _ _ _ _, _, q => by
    simp only [RepV] at q ⊢
    obtain ⟨a, cells, h1, h2, h3, h4⟩ := q
    exact ⟨a, cells, (h.a _ h1).1, h2.imp (fun _ _ => h.pc), h3.mono (h.a _ h1).2, h4⟩
  | .pfl _ _ _, _, q => by
    simp only [RepV] at q ⊢
    obtain ⟨a, c, h1, h2, h3, h4⟩ := q
    exact ⟨a, c, (h.a _ h1).1, h.pc h2, h3.mono (h.a _ h1).2, h4⟩
  | .fn _ first caps, _, q => by
    simp only [RepV] at q ⊢
    obtain ⟨fs, cs, h1, h2, h3⟩ := q
    exact ⟨fs, cs, h1, h.repL h2, h.repL h3⟩
  | .agg l, _, q => by
    simp only [RepV] at q ⊢
    obtain ⟨vs, h1, h2⟩ := q
    exact ⟨vs, h1, h.repL h2⟩
  | .tup l, _, q => by
    simp only [RepV] at q ⊢
    obtain ⟨vs, h1, h2⟩ := q
    exact ⟨vs, h1, h.repL h2⟩
theorem Ext.repL {D D' : Nat → Prop} {E E' : Env} {A A' : Nat → Prop} {w w' : World} (h : Ext D E A w D' E' A' w') : ∀ {l : List AV} {vs : List Value}, RepL D E A w l vs → RepL D' E' A' w' l vs
  | [], _, q => by simpa [RepL] using q
  | v :: r, _, q => by
    simp only [RepL] at q ⊢
    obtain ⟨x, t, h1, h2, h3⟩ := q
    exact ⟨x, t, h1, h.repV h2, h.repL h3⟩
end
theorem Ext.repO {D D' : Nat → Prop} {E E' : Env} {A A' : Nat → Prop} {w w' : World} (h : Ext D E A w D' E' A' w') {id : Nat} (hd : D id) {o : Obj} (hb : Owns E id o → w'.heap[E.β id]? = w.heap[E.β id]?) (q : RepO D E A w id o) : RepO D' E' A' w' id o := by
  obtain ⟨h0, h1, h2, h3⟩ := h.d id hd
  cases o with
  | gone => trivial
  | grow en e et xs =>
    obtain ⟨q1, q2⟩ := q
    refine ⟨by rw [h3]; exact q1, ?_⟩
    rcases q2 with ⟨q2, q3⟩ | ⟨cap, cur, cells, q2, q3, q4, q5, q6, q7, q8⟩
    · exact .inl ⟨by rw [h2]; exact q2, q3⟩
    · refine .inr ⟨cap, cur, cells, by rw [h1, h2]; exact q2, ?_, q4, q5, q6, q7.imp (fun _ _ => h.pc), q8⟩
      rw [h1, hb (by simp only [Owns]; rw [q2]; simp)]
      exact q3
  | froz e xs =>
    obtain ⟨q1, q2, q3⟩ := q
    exact ⟨by rw [h3]; exact q1, by rw [h2]; exact h.pc q2, by rw [h1, h2]; exact q3⟩
  | cells cs =>
    obtain ⟨vs, et, q1, q2⟩ := q
    exact ⟨vs, et, by rw [h1, hb trivial]; exact q1, h.repL q2⟩
  | arr e xs =>
    obtain ⟨q1, cells, et, q2, q3⟩ := q
    exact ⟨by rw [h3]; exact q1, cells, et, by rw [h1, hb trivial]; exact q2, q3.imp (fun _ _ => h.pc)⟩
theorem Owns.env {E E' : Env} {id : Nat} (h : E'.σ id = E.σ id) {o : Obj} : Owns E' id o ↔ Owns E id o := by
  cases o <;> simp [Owns, h]
theorem cell_of_heap {w w' : World} {b : Nat} (h : w'.heap[b]? = w.heap[b]?) (o : Nat) (v : Value) (hc : w.cell? ⟨b, o, none⟩ = some v) : w'.cell? ⟨b, o, none⟩ = some v := by
  simp only [World.cell?] at hc ⊢
  rw [h]
  exact hc
end Go.Rx
/-! Rx, part 4: new memory, writes, and what is given up: what an abstract state tells is kept. -/
namespace Go.Rx
set_option linter.unusedVariables false

theorem look_cons {α : Type} (k : Nat) (v : α) (l : List (Nat × α)) (n : Nat) : look ((k, v) :: l) n = if n = k then some v else look l n := by
  have e : look ((k, v) :: l) n = match Nat.beq k n with | true => some v | false => look l n := rfl
  rw [e]
  by_cases h : n = k
  · subst h; simp [Nat.beq_refl]
  · have : Nat.beq k n = false := by
      cases hb : Nat.beq k n with
      | false => rfl
      | true => exact absurd (Nat.eq_of_beq_eq_true hb).symm h
    simp [this, h]
theorem obj_cons (S : AS) (k : Nat) (o : Obj) (l : List (Nat × Obj)) (id : Nat) : (S.setObjs ((k, o) :: l)).obj id = if id = k then some o else (S.setObjs l).obj id := by
  simp only [AS.setObjs, AS.obj, List.cons_append, look_cons]
theorem obj_nil (S : AS) (id : Nat) : (S.setObjs []).obj id = S.obj id := rfl
theorem get_setObjs (S : AS) (l : List (Nat × Obj)) (t : Nat) : (S.setObjs l).get t = S.get t := rfl
theorem get_put (S : AS) (d : Nat) (v : AV) (t : Nat) : (S.put (some d) v).get t = if t = d then v else S.get t := by
  simp only [AS.put, AS.get, look_cons]
  by_cases h : t = d <;> simp [h]
theorem obj_put (S : AS) (d : Option Nat) (v : AV) (id : Nat) : (S.put d v).obj id = S.obj id := by
  cases d <;> rfl

def Env.upd (E : Env) (id b : Nat) (s : Option Addr × Nat × Nat) (n : Nat) : Env :=
  ⟨fun i => if i = id then b else E.β i, fun i => if i = id then s else E.sl i, fun i => if i = id then n else E.ln i⟩
@[simp] theorem upd_β (E : Env) (id b : Nat) (s : Option Addr × Nat × Nat) (n : Nat) : (E.upd id b s n).β id = b := by simp [Env.upd]
@[simp] theorem upd_σ (E : Env) (id b : Nat) (s : Option Addr × Nat × Nat) (n : Nat) : (E.upd id b s n).σ id = .slice s.1 s.2.1 s.2.2 := by simp [Env.upd, Env.σ]
@[simp] theorem upd_ln (E : Env) (id b : Nat) (s : Option Addr × Nat × Nat) (n : Nat) : (E.upd id b s n).ln id = n := by simp [Env.upd]
theorem upd_ne (E : Env) {id b : Nat} {s : Option Addr × Nat × Nat} {n i : Nat} (h : i ≠ id) : (E.upd id b s n).β i = E.β i ∧ (E.upd id b s n).σ i = E.σ i ∧ (E.upd id b s n).ln i = E.ln i := by simp [Env.upd, Env.σ, h]

section
variable {C : Ctx} {S S' : AS} {E E' : Env} {a : Act} {w w' : World}

theorem Al.ext (hsz : w.heap.size ≤ w'.heap.size)
    (hown : ∀ b, C.w0.heap.size ≤ b → b < w.heap.size → (∀ id o, S.obj id = some o → Owns E id o → E.β id ≠ b) → ∀ id o, S'.obj id = some o → Owns E' id o → E'.β id ≠ b)
    {b : Nat} (h : Al C S E w b) : Al C S' E' w' b := by
  rcases h with h | ⟨h1, h2, h3⟩
  · exact .inl h
  · exact .inr ⟨h1, Nat.lt_of_lt_of_le h2 hsz, hown b h1 h2 h3⟩

theorem RepE.step (h : RepE C S E a w) (ht : ∀ t, S'.get t = S.get t) (hlat : Later w w')
    (hkeep : ∀ b, b < C.w0.heap.size → ¬ C.O0 b → w'.heap[b]? = w.heap[b]?)
    (hd : ∀ id, Dom S id → Dom S' id ∧ E'.β id = E.β id ∧ E'.σ id = E.σ id ∧ E'.ln id = E.ln id)
    (hown : ∀ b, C.w0.heap.size ≤ b → b < w.heap.size → (∀ id o, S.obj id = some o → Owns E id o → E.β id ≠ b) → ∀ id o, S'.obj id = some o → Owns E' id o → E'.β id ≠ b)
    (hAw : ∀ b, Al C S E w b → w'.heap[b]? = w.heap[b]?)
    (hobj : Ext (Dom S) E (Al C S E w) w (Dom S') E' (Al C S' E' w') w' → ∀ id o, S'.obj id = some o →
      (S.obj id = some o ∧ (Owns E id o → w'.heap[E.β id]? = w.heap[E.β id]?)) ∨
      (RepO (Dom S') E' (Al C S' E' w') w' id o ∧ (Owns E' id o → E'.β id < w'.heap.size ∧ (C.w0.heap.size ≤ E'.β id ∨ C.O0 (E'.β id) ∧ Entry C id o))))
    (hinj : ∀ i j o o', S'.obj i = some o → Owns E' i o → S'.obj j = some o' → Owns E' j o' → E'.β i = E'.β j → i = j) :
    RepE C S' E' a w' ∧ Ext (Dom S) E (Al C S E w) w (Dom S') E' (Al C S' E' w') w' := by
  have hsz := hlat.sz
  have ext : Ext (Dom S) E (Al C S E w) w (Dom S') E' (Al C S' E' w') w' :=
    ⟨hd, fun b hb => ⟨Al.ext hsz hown hb, fun o v => cell_of_heap (hAw b hb) o v⟩⟩
  have hobj := hobj ext
  refine ⟨⟨h.n, h.d, ⟨h.h.a0, h.h.gl, h.h.lat.trans hlat, ?_, ?_, ?_, hinj, ?_⟩, ?_⟩, ext⟩
  · intro b h1 h2
    rw [hkeep b h1 h2]
    exact h.h.keep b h1 h2
  · intro i hi
    obtain ⟨p1, p2, p3, p4⟩ := h.h.pin i hi
    obtain ⟨q1, q2, q3, q4⟩ := hd i p1
    exact ⟨q1, q2.trans p2, q3.trans p3, q4.trans p4⟩
  · intro id o ho hw
    rcases hobj id o ho with ⟨h1, _⟩ | ⟨_, h2⟩
    · obtain ⟨_, q2, q3, _⟩ := hd id (by simp [Dom, h1])
      have := h.h.fresh id o h1 ((Owns.env q3).1 hw)
      rw [q2]
      exact ⟨Nat.lt_of_lt_of_le this.1 hsz, this.2⟩
    · exact h2 hw
  · intro id o ho
    rcases hobj id o ho with ⟨h1, h2⟩ | ⟨h1, _⟩
    · exact ext.repO (by simp [Dom, h1]) h2 (h.h.objs id o h1)
    · exact h1
  · intro t
    rw [ht]
    exact ext.repV (h.t t)

/-- Owned blocks are not memory that stays. -/
theorem RepH.apart (h : RepH C S E w) {id : Nat} {o : Obj} (ho : S.obj id = some o) (hw : Owns E id o) {b : Nat} (hb : Al C S E w b) : E.β id ≠ b := by
  rcases hb with hb | ⟨_, _, hb⟩
  · intro e
    obtain ⟨h1, h2⟩ := h.a0 b hb
    rcases (h.fresh id o ho hw).2 with h3 | h3
    · omega
    · exact h2 (e ▸ h3.1)
  · exact hb id o ho hw
theorem RepH.lt (h : RepH C S E w) {id : Nat} {o : Obj} (ho : S.obj id = some o) (hw : Owns E id o) : E.β id < w.heap.size := (h.fresh id o ho hw).1
theorem RepH.al_lt (h : RepH C S E w) {b : Nat} (hb : Al C S E w b) : b < w.heap.size := by
  rcases hb with hb | ⟨_, hb, _⟩
  · exact Nat.lt_of_lt_of_le (h.a0 b hb).1 h.size
  · exact hb
/-- Blocks that came in and may not be written are no object's. -/
theorem RepH.away (h : RepH C S E w) {id : Nat} {o : Obj} (ho : S.obj id = some o) (hw : Owns E id o) {b : Nat} (hb : b < C.w0.heap.size) (hO : ¬ C.O0 b) : b ≠ E.β id := by
  intro e
  rcases (h.fresh id o ho hw).2 with h3 | h3
  · omega
  · exact hO (e ▸ h3.1)

/-- A new block. -/
theorem RepE.alloc (h : RepE C S E a w) {id : Nat} (hid : S.obj id = none) (o : Obj) (b : Go.Obj) (hbc : ∃ c t, b = .cells c t) (s : Option Addr × Nat × Nat) (n : Nat)
    (ho : ∀ (D' A' : Nat → Prop), Ext (Dom S) E (Al C S E w) w D' (E.upd id w.heap.size s n) A' (w.alloc b) → D' id → RepO D' (E.upd id w.heap.size s n) A' (w.alloc b) id o) :
    RepE C (S.setObjs [(id, o)]) (E.upd id w.heap.size s n) a (w.alloc b) ∧ Ext (Dom S) E (Al C S E w) w (Dom (S.setObjs [(id, o)])) (E.upd id w.heap.size s n) (Al C (S.setObjs [(id, o)]) (E.upd id w.heap.size s n) (w.alloc b)) (w.alloc b) := by
  have hsz : (w.alloc b).heap.size = w.heap.size + 1 := by simp
  have hold : ∀ k, k < w.heap.size → (w.alloc b).heap[k]? = w.heap[k]? := fun k hk => heap_alloc_old w b k hk
  have hne : ∀ i, Dom S i → i ≠ id := fun i hi e => hi (e ▸ hid)
  refine h.step (fun t => rfl) (by obtain ⟨c, t, rfl⟩ := hbc; exact later_alloc w c t) ?_ ?_ ?_ ?_ ?_ ?_
  · intro k hk _
    exact hold k (Nat.lt_of_lt_of_le hk h.h.size)
  · intro i hi
    exact ⟨by unfold Dom at *; rw [obj_cons]; split <;> simp [obj_nil, hi], upd_ne E (hne i hi)⟩
  · intro k hk1 hk2 hk3 i o' hi hw
    rw [obj_cons] at hi
    split at hi
    · rename_i e
      subst e
      simp
      omega
    · rename_i e
      rw [obj_nil] at hi
      rw [(upd_ne E e).1]
      exact hk3 i o' hi ((Owns.env (upd_ne E e).2.1).1 hw)
  · intro k hk
    exact hold k (h.h.al_lt hk)
  · intro ext i o' hi
    rw [obj_cons] at hi
    split at hi
    · rename_i e
      subst e
      simp at hi
      subst hi
      refine .inr ⟨ho _ _ ext (by unfold Dom; rw [obj_cons]; simp), fun _ => ?_⟩
      simp
      exact .inl h.h.size
    · rw [obj_nil] at hi
      exact .inl ⟨hi, fun hw => hold _ (h.h.lt hi hw)⟩
  · intro i j o1 o2 hi hwi hj hwj hβ
    rw [obj_cons] at hi hj
    split at hi <;> split at hj
    · omega
    · rename_i e1 e2
      subst e1
      rw [obj_nil] at hj
      rw [(upd_ne E e2).1] at hβ
      simp at hβ
      have := h.h.lt hj ((Owns.env (upd_ne E e2).2.1).1 hwj)
      omega
    · rename_i e1 e2
      subst e2
      rw [obj_nil] at hi
      rw [(upd_ne E e1).1] at hβ
      simp at hβ
      have := h.h.lt hi ((Owns.env (upd_ne E e1).2.1).1 hwi)
      omega
    · rename_i e1 e2
      rw [obj_nil] at hi hj
      rw [(upd_ne E e1).1, (upd_ne E e2).1] at hβ
      exact h.h.inj i j o1 o2 hi ((Owns.env (upd_ne E e1).2.1).1 hwi) hj ((Owns.env (upd_ne E e2).2.1).1 hwj) hβ

/-- A block of one's own is written. -/
theorem RepE.write (h : RepE C S E a w) {id : Nat} {o o' : Obj} (hid : S.obj id = some o) (hO : Owns E id o) (hen : Entry C id o → Entry C id o')
    (hlat : Later w w') (hsz : w'.heap.size = w.heap.size) (hw : ∀ k, k ≠ E.β id → w'.heap[k]? = w.heap[k]?)
    (ho : ∀ (D' A' : Nat → Prop), Ext (Dom S) E (Al C S E w) w D' E A' w' → RepO D' E A' w' id o') :
    RepE C (S.setObjs [(id, o')]) E a w' ∧ Ext (Dom S) E (Al C S E w) w (Dom (S.setObjs [(id, o')])) E (Al C (S.setObjs [(id, o')]) E w') w' := by
  have hb : ∀ k, Al C S E w k → w'.heap[k]? = w.heap[k]? := fun k hk => hw k (Ne.symm (h.h.apart hid hO hk))
  have old : ∀ i o1, (S.setObjs [(id, o')]).obj i = some o1 → Owns E i o1 → ∃ o2, S.obj i = some o2 ∧ Owns E i o2 := by
    intro i o1 hi hw
    rw [obj_cons] at hi
    split at hi
    · rename_i e; subst e; exact ⟨o, hid, hO⟩
    · exact ⟨o1, hi, hw⟩
  refine h.step (fun t => rfl) hlat ?_ ?_ ?_ hb ?_ ?_
  · intro k hk hk2
    exact hw k (h.h.away hid hO hk hk2)
  · intro i hi
    exact ⟨by unfold Dom at *; rw [obj_cons]; split <;> simp [obj_nil, hi], rfl, rfl, rfl⟩
  · intro k hk1 hk2 hk3 i o1 hi hwi
    obtain ⟨o2, h2, h3⟩ := old i o1 hi hwi
    exact hk3 i o2 h2 h3
  · intro ext i o1 hi
    rw [obj_cons] at hi
    split at hi
    · rename_i e
      subst e
      simp at hi
      subst hi
      refine .inr ⟨ho _ _ ext, fun _ => ?_⟩
      have := h.h.fresh i o hid hO
      rw [hsz]
      exact ⟨this.1, this.2.imp id (fun q => ⟨q.1, hen q.2⟩)⟩
    · rename_i e
      rw [obj_nil] at hi
      refine .inl ⟨hi, fun hwi => hw _ ?_⟩
      intro e2
      exact e (h.h.inj i id o1 o hi hwi hid hO e2)
  · intro i j o1 o2 hi hwi hj hwj hβ
    obtain ⟨o3, h3, h4⟩ := old i o1 hi hwi
    obtain ⟨o5, h5, h6⟩ := old j o2 hj hwj
    exact h.h.inj i j o3 o5 h3 h4 h5 h6 hβ

/-! ### Objects given up -/
def isIn (l : List Nat) (n : Nat) : Prop := n ∈ l
theorem frz_look (hh : Nat → Option Obj) (l : List (Nat × Obj)) : ∀ (vis : List Nat) (id : Nat), look (frz hh vis ++ l) id =
    if id ∈ vis then (match hh id with | some (.grow _ e _ xs) => some (.froz e xs) | some (.cells _) => some .gone | _ => look l id) else look l id
  | [], id => by simp [frz]
  | v :: r, id => by
    have ih := frz_look hh l r id
    by_cases e : id = v
    · subst e
      cases ho : hh id with
      | none => simp only [frz, ho, ih]; simp
      | some o =>
        cases o <;> simp only [frz, ho, List.cons_append, look_cons, ih] <;> simp
    · cases ho : hh v with
      | none => simp only [frz, ho, ih]; simp [e]
      | some o =>
        cases o <;> simp only [frz, ho, List.cons_append, look_cons, ih] <;> simp [e]
theorem obj_frz (S : AS) (vis : List Nat) (id : Nat) : (S.setObjs (frz S.obj vis)).obj id =
    if id ∈ vis then (match S.obj id with | some (.grow _ e _ xs) => some (.froz e xs) | some (.cells _) => some .gone | o => o) else S.obj id := by
  show look (frz S.obj vis ++ S.h) id = _
  rw [frz_look]
  split
  · cases h : S.obj id with
    | none => exact h
    | some o => cases o <;> first | rfl | exact h
  · rfl
/-- May an object be given up? -/
def Free (C : Ctx) (id : Nat) : Obj → Prop
  | .grow en _ _ _ => en = false
  | .cells _ => C.m ≤ id
  | _ => True
theorem RepE.release (h : RepE C S E a w) (vis : List Nat) (hf : ∀ id o, id ∈ vis → S.obj id = some o → Free C id o) :
    RepE C (S.setObjs (frz S.obj vis)) E a w ∧ Ext (Dom S) E (Al C S E w) w (Dom (S.setObjs (frz S.obj vis))) E (Al C (S.setObjs (frz S.obj vis)) E w) w ∧
      ∀ id o, id ∈ vis → S.obj id = some o → Owns E id o → (∀ e xs, o ≠ .arr e xs) → Al C (S.setObjs (frz S.obj vis)) E w (E.β id) := by
  have old : ∀ i o1, (S.setObjs (frz S.obj vis)).obj i = some o1 → Owns E i o1 → S.obj i = some o1 ∧ (i ∈ vis → ∃ e xs, o1 = .arr e xs) := by
    intro i o1 hi hw
    rw [obj_frz] at hi
    split at hi
    · rename_i hv
      split at hi
      · cases hi; exact hw.elim
      · cases hi; exact hw.elim
      · rename_i n1 n2
        refine ⟨hi, fun _ => ?_⟩
        cases o1 with
        | arr e xs => exact ⟨e, xs, rfl⟩
        | grow en e et xs => exact absurd hi (n1 en e et xs)
        | cells cs => exact absurd hi (n2 cs)
        | gone => exact hw.elim
        | froz e xs => exact hw.elim
    · rename_i hv
      exact ⟨hi, fun q => absurd q hv⟩
  have key : ∀ id o, id ∈ vis → S.obj id = some o → Owns E id o → (∀ e xs, o ≠ .arr e xs) → Al C (S.setObjs (frz S.obj vis)) E w (E.β id) := by
    intro id o hv ho hw ha
    have hfr := h.h.fresh id o ho hw
    have hfree := hf id o hv ho
    refine .inr ⟨?_, hfr.1, ?_⟩
    · rcases hfr.2 with q | ⟨_, q⟩
      · exact q
      · cases o with
        | grow en e et xs => simp only [Free, Entry] at hfree q; rw [hfree] at q; cases q
        | cells cs => simp only [Free, Entry] at hfree q; omega
        | arr e xs => exact absurd rfl (ha e xs)
        | gone => exact hw.elim
        | froz e xs => exact hw.elim
    · intro j o2 hj hwj hβ
      obtain ⟨hj1, hj2⟩ := old j o2 hj hwj
      have := h.h.inj j id o2 o hj1 hwj ho hw hβ
      subst this
      obtain ⟨e, xs, he⟩ := hj2 hv
      rw [hj1] at ho
      cases ho
      exact ha e xs he
  have main := h.step (S' := S.setObjs (frz S.obj vis)) (E' := E) (w' := w) (fun t => rfl) (Later.refl _) (fun _ _ _ => rfl)
    (fun id hd => ⟨by
      unfold Dom at *
      rw [obj_frz]
      split
      · split <;> simp_all
      · exact hd, rfl, rfl, rfl⟩)
    (fun b h1 h2 h3 id o ho hw => h3 id o (old id o ho hw).1 hw) (fun _ _ => rfl)
    (fun ext id o ho => by
      by_cases hv : id ∈ vis
      · rw [obj_frz, if_pos hv] at ho
        split at ho
        · rename_i en e et xs hg
          cases ho
          refine .inr ⟨?_, fun q => q.elim⟩
          have hr := h.h.objs id _ hg
          obtain ⟨h1, h2⟩ := hr
          refine ⟨h1, ?_, ?_⟩
          · rcases h2 with ⟨h2, h3⟩ | ⟨cap, cur, cells, h2, h3, h4, h5, h6, h7, h8⟩
            · subst h3
              exact ⟨none, 0, by rw [h2]; rfl, Nat.le_refl _, fun q => absurd rfl q⟩
            · refine ⟨some ⟨E.β id, 0, none⟩, cap, by rw [h2], h4, fun _ => ⟨_, rfl, rfl, key id _ hv hg (by simp only [Owns]; rw [h2]; simp) (by simp), cells, h7.imp (fun _ _ => ext.pc), ?_⟩⟩
              intro j v hv
              have : cur[j]? = some v := by
                rw [← h8, List.getElem?_take] at hv
                split at hv
                · simpa using hv
                · cases hv
              simp [World.cell?, h3, this]
          · intro hx
            rcases h2 with ⟨h2, h3⟩ | ⟨cap, cur, cells, h2, _⟩
            · exact absurd h3 hx
            · exact ⟨cap, h2⟩
        · cases ho
          exact .inr ⟨trivial, fun q => q.elim⟩
        · exact .inl ⟨ho, fun _ => rfl⟩
      · rw [obj_frz, if_neg hv] at ho
        exact .inl ⟨ho, fun _ => rfl⟩)
    (fun i j o1 o2 hi hwi hj hwj hβ => h.h.inj i j o1 o2 (old i o1 hi hwi).1 hwi (old j o2 hj hwj).1 hwj hβ)
  exact ⟨main.1, main.2, key⟩
end
end Go.Rx
/-! Rx, part 5: cells read as data hold these data. -/
namespace Go.Rx
set_option linter.unusedVariables false

theorem repL_append {D : Nat → Prop} {E : Env} {A : Nat → Prop} {w : World} : ∀ {l r : List AV} {vs : List Value}, RepL D E A w (l ++ r) vs ↔ ∃ a b, vs = a ++ b ∧ RepL D E A w l a ∧ RepL D E A w r b
  | [], r, vs => by
    simp only [RepL, List.nil_append]
    exact ⟨fun h => ⟨[], vs, rfl, rfl, h⟩, fun ⟨a, b, h1, h2, h3⟩ => by rw [h1, h2]; exact h3⟩
  | v :: l, r, vs => by
    simp only [List.cons_append, RepL]
    constructor
    · rintro ⟨x, t, rfl, h1, h2⟩
      obtain ⟨a, b, rfl, h3, h4⟩ := repL_append.1 h2
      exact ⟨x :: a, b, rfl, ⟨x, a, rfl, h1, h3⟩, h4⟩
    · rintro ⟨a, b, rfl, ⟨x, t, rfl, h1, h3⟩, h4⟩
      exact ⟨x, t ++ b, rfl, h1, repL_append.2 ⟨t, b, rfl, h3, h4⟩⟩
theorem repL_length {D : Nat → Prop} {E : Env} {A : Nat → Prop} {w : World} : ∀ {l : List AV} {vs : List Value}, RepL D E A w l vs → vs.length = l.length
  | [], _, h => by simp only [RepL] at h; subst h; rfl
  | _ :: _, _, h => by
    simp only [RepL] at h
    obtain ⟨_, _, rfl, _, h⟩ := h
    simp [repL_length h]
theorem repL_get {D : Nat → Prop} {E : Env} {A : Nat → Prop} {w : World} : ∀ {l : List AV} {vs : List Value} {i : Nat} {v : AV}, RepL D E A w l vs → l[i]? = some v → ∃ x, vs[i]? = some x ∧ RepV D E A w v x
  | [], _, i, v, _, h => by simp at h
  | u :: l, _, i, v, h, hv => by
    simp only [RepL] at h
    obtain ⟨x, t, rfl, h1, h2⟩ := h
    cases i with
    | zero => simp at hv; subst hv; exact ⟨x, rfl, h1⟩
    | succ i => simp at hv; simpa using repL_get h2 hv
theorem repL_take {D : Nat → Prop} {E : Env} {A : Nat → Prop} {w : World} {l : List AV} {vs : List Value} (n : Nat) (h : RepL D E A w l vs) : RepL D E A w (l.take n) (vs.take n) ∧ RepL D E A w (l.drop n) (vs.drop n) := by
  have e : l = l.take n ++ l.drop n := (List.take_append_drop n l).symm
  rw [e] at h
  obtain ⟨a, b, rfl, h1, h2⟩ := repL_append.1 h
  by_cases hn : n ≤ l.length
  · have hl : a.length = n := by rw [repL_length h1, List.length_take]; omega
    rw [← hl, List.take_left, List.drop_left, hl]
    exact ⟨h1, h2⟩
  · have h3 : l.drop n = [] := List.drop_eq_nil_of_le (by omega)
    rw [h3] at h2
    simp only [RepL] at h2
    subst h2
    have hl : a.length ≤ n := by rw [repL_length h1, List.length_take]; omega
    rw [List.append_nil, List.take_of_length_le hl, List.drop_eq_nil_of_le hl, h3]
    exact ⟨h1, by simp [RepL]⟩

theorem castL_rfl {e : Sh} (xs : List e.T) : castL rfl xs = xs := rfl
theorem castO_rfl {e : Sh} (xs : Option e.T) : castO rfl xs = xs := rfl
def FreeM (m : Nat) (id : Nat) : Obj → Prop
  | .grow en _ _ _ => en = false
  | .cells _ => m ≤ id
  | _ => True

section
variable {m : Nat} {S : AS} {E : Env} {A A' : Nat → Prop} {w : World}

theorem data_sound (hR : ∀ id o, S.obj id = some o → RepO (Dom S) E A w id o) (hA : ∀ b, A b → A' b) : ∀ (e : Sh) (l : List AV) (vs : List Value) (d : DC e),
    dataC m S.obj e l = some d → RepL (Dom S) E A w l vs →
    (∀ id o, id ∈ d.vis → S.obj id = some o → Owns E id o → (∀ e xs, o ≠ .arr e xs) → A' (E.β id)) →
    (∃ c r, vs = c ++ r ∧ RepL (Dom S) E A w d.rest r ∧ PC A' w e d.x c) := by
  have up : ∀ {s : Sh} {x : s.T} {cs : List Value}, PC A w s x cs → PC A' w s x cs := fun h => h.mono hA (fun _ _ _ _ q => q)
  intro e
  induction e with
  | int k =>
    intro l vs d h hl _
    cases l with
    | nil => cases h
    | cons v r =>
      cases v <;> first | (cases h; done) | skip
      rename_i k' n
      simp only [dataC] at h
      split at h
      · rename_i q _
        cases h
        simp only [RepL, RepV] at hl
        obtain ⟨x, t, rfl, rfl, h2⟩ := hl
        exact ⟨[_], t, rfl, h2, by rw [q]; rfl⟩
      · cases h
  | bool =>
    intro l vs d h hl _
    cases l with
    | nil => cases h
    | cons v r =>
      cases v <;> first | (cases h; done) | skip
      cases h
      simp only [RepL, RepV] at hl
      obtain ⟨x, t, rfl, rfl, h2⟩ := hl
      exact ⟨[_], t, rfl, h2, rfl⟩
  | str =>
    intro l vs d h hl _
    cases l with
    | nil => cases h
    | cons v r =>
      cases v <;> first | (cases h; done) | skip
      cases h
      simp only [RepL, RepV] at hl
      obtain ⟨x, t, rfl, rfl, h2⟩ := hl
      exact ⟨[_], t, rfl, h2, rfl⟩
  | unit =>
    intro l vs d h hl _
    have h' : some (⟨(), l, []⟩ : DC .unit) = some d := by
      cases l with
      | nil => exact h
      | cons v r => exact h
    cases h'
    exact ⟨[], vs, rfl, hl, rfl⟩
  | pair a b iha ihb =>
    intro l vs d h hl hv
    have h' : (match dataC m S.obj a l with
      | some d => match dataC m S.obj b d.rest with
        | some d' => some (⟨(d.x, d'.x), d'.rest, d.vis ++ d'.vis⟩ : DC (.pair a b))
        | none => none
      | none => none) = some d := by
      cases l with
      | nil => exact h
      | cons v r => exact h
    split at h'
    · rename_i d1 h1
      split at h'
      · rename_i d2 h2
        cases h'
        obtain ⟨c1, r1, rfl, hr1, p1⟩ := iha l vs d1 h1 hl (fun id o hi => hv id o (by simp [hi]))
        obtain ⟨c2, r2, rfl, hr2, p2⟩ := ihb _ _ d2 h2 hr1 (fun id o hi => hv id o (by simp [hi]))
        exact ⟨c1 ++ c2, r2, by rw [List.append_assoc], hr2, c1, c2, rfl, p1, p2⟩
      · cases h'
    · cases h'
  | st a iha =>
    intro l vs d h hl hv
    have h' : (match dataC m S.obj a l with | some d => some (⟨d.x, d.rest, d.vis⟩ : DC (.st a)) | none => none) = some d := by
      cases l with
      | nil => exact h
      | cons v r => exact h
    split at h'
    · rename_i d1 h1
      cases h'
      obtain ⟨c1, r1, rfl, hr1, p1⟩ := iha l vs d1 h1 hl hv
      exact ⟨c1, r1, rfl, hr1, p1⟩
    · cases h'
  | sl e ihe =>
    intro l vs d h hl hv
    cases l with
    | nil => cases h
    | cons v r =>
      cases v <;> first | (cases h; done) | skip
      case nilsl =>
        cases h
        simp only [RepL, RepV] at hl
        obtain ⟨x, t, rfl, rfl, h2⟩ := hl
        exact ⟨[_], t, rfl, h2, none, 0, rfl, Nat.le_refl _, fun q => absurd rfl q⟩
      case psl e' xs =>
        simp only [dataC] at h
        split at h
        · rename_i q _
          subst q
          cases h
          simp only [RepL, RepV] at hl
          obtain ⟨x, t, rfl, h1, h2⟩ := hl
          exact ⟨[x], t, rfl, h2, up h1⟩
        · cases h
      case own id =>
        simp only [RepL, RepV] at hl
        obtain ⟨x, t, rfl, ⟨_, rfl⟩, h2⟩ := hl
        simp only [dataC] at h
        split at h
        · rename_i e' et xs ho
          split at h
          · rename_i q _
            subst q
            cases h
            refine ⟨[_], t, rfl, h2, ?_⟩
            obtain ⟨_, hr⟩ := hR id _ ho
            rcases hr with ⟨h3, h4⟩ | ⟨cap, cur, cells, h3, h4, h5, h6, h7, h8, h9⟩
            · subst h4
              exact ⟨none, 0, by rw [h3]; rfl, Nat.le_refl _, fun q => absurd rfl q⟩
            · refine ⟨some ⟨E.β id, 0, none⟩, cap, by rw [h3]; rfl, h5, fun _ => ⟨_, rfl, rfl, hv id _ (by simp) ho (by simp only [Owns]; rw [h3]; simp) (by simp), cells, h8.imp (fun _ _ => up), ?_⟩⟩
              intro j v hj
              have : cur[j]? = some v := by
                rw [← h9, List.getElem?_take] at hj
                split at hj
                · simpa using hj
                · cases hj
              simp [World.cell?, h4, this]
          · cases h
        · rename_i e' xs ho
          split at h
          · rename_i q _
            subst q
            cases h
            obtain ⟨_, hr, _⟩ := hR id _ ho
            exact ⟨[_], t, rfl, h2, up hr⟩
          · cases h
        · cases h
  | ptr e ihe =>
    intro l vs d h hl hv
    cases l with
    | nil => cases h
    | cons v r =>
      cases v <;> first | (cases h; done) | skip
      case nilptr =>
        cases h
        simp only [RepL, RepV] at hl
        obtain ⟨x, t, rfl, rfl, h2⟩ := hl
        exact ⟨[_], t, rfl, h2, rfl⟩
      case ppt e' y =>
        simp only [dataC] at h
        split at h
        · rename_i q _
          subst q
          cases h
          simp only [RepL, RepV] at hl
          obtain ⟨x, t, rfl, h1, h2⟩ := hl
          exact ⟨[x], t, rfl, h2, up h1⟩
        · cases h
      case optr id off =>
        cases off with
        | succ n => cases h
        | zero =>
          simp only [RepL, RepV] at hl
          obtain ⟨x, t, rfl, ⟨_, rfl⟩, h2⟩ := hl
          simp only [dataC] at h
          split at h
          · rename_i cs hm ho
            split at h
            · rename_i x vis hd
              cases h
              obtain ⟨ws, et, h3, h4⟩ := hR id _ ho
              obtain ⟨c, r', e1, h5, h6⟩ := ihe cs ws _ hd h4 (fun id' o hi => hv id' o (by simp [hi]))
              simp only [RepL] at h5
              subst h5
              rw [List.append_nil] at e1
              subst e1
              refine ⟨[_], t, rfl, h2, ⟨E.β id, 0, none⟩, ws, rfl, rfl, hv id _ (by simp) ho trivial (by simp), h6, ?_⟩
              intro j v hj
              simp [World.cell?, h3, hj]
            · cases h
          · cases h
/-- What is looked at may be given up. -/
theorem data_free {m : Nat} {h : Nat → Option Obj} : ∀ (e : Sh) (l : List AV) (d : DC e), dataC m h e l = some d → ∀ id o, id ∈ d.vis → h id = some o → FreeM m id o := by
  intro e
  induction e with
  | int k =>
    intro l d q
    cases l with
    | nil => cases q
    | cons v r =>
      cases v <;> first | (cases q; done) | skip
      simp only [dataC] at q
      split at q <;> cases q
      intro id o hi; cases hi
  | bool =>
    intro l d q
    cases l with
    | nil => cases q
    | cons v r =>
      cases v <;> first | (cases q; done) | skip
      cases q
      intro id o hi; cases hi
  | str =>
    intro l d q
    cases l with
    | nil => cases q
    | cons v r =>
      cases v <;> first | (cases q; done) | skip
      cases q
      intro id o hi; cases hi
  | unit =>
    intro l d q
    have q' : some (⟨(), l, []⟩ : DC .unit) = some d := by
      cases l with
      | nil => exact q
      | cons v r => exact q
    cases q'
    intro id o hi; cases hi
  | pair a b iha ihb =>
    intro l d q
    have q' : (match dataC m h a l with
      | some d => match dataC m h b d.rest with
        | some d' => some (⟨(d.x, d'.x), d'.rest, d.vis ++ d'.vis⟩ : DC (.pair a b))
        | none => none
      | none => none) = some d := by
      cases l with
      | nil => exact q
      | cons v r => exact q
    split at q'
    · rename_i d1 h1
      split at q'
      · rename_i d2 h2
        cases q'
        intro id o hi ho
        rcases List.mem_append.1 hi with hi | hi
        · exact iha l d1 h1 id o hi ho
        · exact ihb _ d2 h2 id o hi ho
      · cases q'
    · cases q'
  | st a iha =>
    intro l d q
    have q' : (match dataC m h a l with | some d => some (⟨d.x, d.rest, d.vis⟩ : DC (.st a)) | none => none) = some d := by
      cases l with
      | nil => exact q
      | cons v r => exact q
    split at q'
    · rename_i d1 h1
      cases q'
      exact iha l d1 h1
    · cases q'
  | sl e ihe =>
    intro l d q
    cases l with
    | nil => cases q
    | cons v r =>
      cases v <;> first | (cases q; done) | skip
      case nilsl => cases q; intro id o hi; cases hi
      case psl e' xs =>
        simp only [dataC] at q
        split at q
        · cases q; intro id o hi; cases hi
        · cases q
      case own id0 =>
        simp only [dataC] at q
        split at q
        · rename_i e' et xs ho
          split at q
          · cases q
            intro id o hi hio
            simp at hi
            subst hi
            rw [ho] at hio
            cases hio
            rfl
          · cases q
        · rename_i e' xs ho
          split at q
          · cases q
            intro id o hi hio
            simp at hi
            subst hi
            rw [ho] at hio
            cases hio
            trivial
          · cases q
        · cases q
  | ptr e ihe =>
    intro l d q
    cases l with
    | nil => cases q
    | cons v r =>
      cases v <;> first | (cases q; done) | skip
      case nilptr => cases q; intro id o hi; cases hi
      case ppt e' y =>
        simp only [dataC] at q
        split at q
        · cases q; intro id o hi; cases hi
        · cases q
      case optr id0 off =>
        cases off with
        | succ n => cases q
        | zero =>
          simp only [dataC] at q
          split at q
          · rename_i cs hm ho
            split at q
            · rename_i x vis hd
              cases q
              intro id o hi hio
              rcases List.mem_cons.1 hi with hi | hi
              · subst hi
                rw [ho] at hio
                cases hio
                exact Nat.le_of_ble_eq_true hm
              · exact ihe cs _ hd id o hi hio
            · cases q
          · cases q
end
/-- The same is read where the same objects stand. -/
theorem data_agree {m : Nat} {h h' : Nat → Option Obj} : ∀ (e : Sh) (l : List AV) (d : DC e), dataC m h e l = some d → (∀ id, id ∈ d.vis → h' id = h id) → dataC m h' e l = some d := by
  intro e
  induction e with
  | int k =>
    intro l d q _
    cases l with
    | nil => cases q
    | cons v r => cases v <;> exact q
  | bool =>
    intro l d q _
    cases l with
    | nil => cases q
    | cons v r => cases v <;> exact q
  | str =>
    intro l d q _
    cases l with
    | nil => cases q
    | cons v r => cases v <;> exact q
  | unit => intro l d q _; cases l <;> exact q
  | pair a b iha ihb =>
    intro l d q hv
    have q' : (match dataC m h a l with
      | some d => match dataC m h b d.rest with
        | some d' => some (⟨(d.x, d'.x), d'.rest, d.vis ++ d'.vis⟩ : DC (.pair a b))
        | none => none
      | none => none) = some d := by
      cases l with
      | nil => exact q
      | cons v r => exact q
    have goal : (match dataC m h' a l with
      | some d => match dataC m h' b d.rest with
        | some d' => some (⟨(d.x, d'.x), d'.rest, d.vis ++ d'.vis⟩ : DC (.pair a b))
        | none => none
      | none => none) = some d := by
      split at q'
      · rename_i d1 h1
        split at q'
        · rename_i d2 h2
          cases q'
          rw [iha l d1 h1 (fun id hi => hv id (by simp [hi]))]
          simp only
          rw [ihb _ d2 h2 (fun id hi => hv id (by simp [hi]))]
        · cases q'
      · cases q'
    cases l with
    | nil => exact goal
    | cons v r => exact goal
  | st a iha =>
    intro l d q hv
    have q' : (match dataC m h a l with | some d => some (⟨d.x, d.rest, d.vis⟩ : DC (.st a)) | none => none) = some d := by
      cases l with
      | nil => exact q
      | cons v r => exact q
    have goal : (match dataC m h' a l with | some d => some (⟨d.x, d.rest, d.vis⟩ : DC (.st a)) | none => none) = some d := by
      split at q'
      · rename_i d1 h1
        cases q'
        rw [iha l d1 h1 hv]
      · cases q'
    cases l with
    | nil => exact goal
    | cons v r => exact goal
  | sl e ihe =>
    intro l d q hv
    cases l with
    | nil => cases q
    | cons v r =>
      cases v <;> first | exact q | (cases q; done) | skip
      case own id0 =>
        simp only [dataC] at q ⊢
        have hid : h' id0 = h id0 := by
          split at q
          · split at q <;> cases q
            exact hv _ (by simp)
          · split at q <;> cases q
            exact hv _ (by simp)
          · cases q
        rw [hid]
        exact q
  | ptr e ihe =>
    intro l d q hv
    cases l with
    | nil => cases q
    | cons v r =>
      cases v <;> first | exact q | (cases q; done) | skip
      case optr id0 off =>
        cases off with
        | succ n => cases q
        | zero =>
          simp only [dataC] at q ⊢
          split at q
          · rename_i cs hm ho
            split at q
            · rename_i x vis hd
              cases q
              rw [hm, hv id0 (by simp), ho]
              simp only
              rw [ihe cs _ hd (fun id hi => hv id (by simp [hi]))]
            · cases q
          · cases q
end Go.Rx

/- Rx, part 2: how a state is read as plain data, and made of it; what is asked of a function's and a loop's plain Lean function. -/
import Derived.Test.YtlncjconodmjjaaDoorCore
namespace Go.Rx
noncomputable section

inductive SD where
  | d (e : Sh)
  | fn (f : FuncId) (a b : List SD)
  | agg (l : List SD)
  | own (j : Nat)
  | ptr (j off : Nat)
  | unk
inductive OS where
  | grow (en : Bool) (e : Sh) (et : TypeId)
  | arr (e : Sh)
  | cells (l : List SD)
  | gone
inductive Loc where
  | pin (i : Nat)
  | tmp (t : Nat)
  | cell (j c : Nat)
structure Descr where
  os : List (Loc × OS)
  ss : List (Nat × SD)
mutual
@[reducible] def SD.shs : SD → List Sh
  | .d e => [e]
  | .fn _ a b => shsL a ++ shsL b
  | .agg l => shsL l
  | .own _ => []
  | .ptr _ _ => []
  | .unk => []
@[reducible] def shsL : List SD → List Sh
  | [] => []
  | s :: r => s.shs ++ shsL r
end
@[reducible] def OS.shs : OS → List Sh
  | .grow _ e _ => [.sl e]
  | .arr e => [.sl e]
  | .cells l => shsL l
  | .gone => []
@[reducible] def shsO : List (Loc × OS) → List Sh
  | [] => []
  | o :: r => o.2.shs ++ shsO r
@[reducible] def shsS : List (Nat × SD) → List Sh
  | [] => []
  | s :: r => s.2.shs ++ shsS r
@[reducible] def Descr.shs (D : Descr) : List Sh := shsO D.os ++ shsS D.ss
@[reducible] def tupT : List Sh → Type
  | [] => Unit
  | [e] => e.T
  | e :: e' :: r => e.T × tupT (e' :: r)
def ofTup : (l : List Sh) → tupT l → List Dat
  | [], _ => []
  | [e], x => [⟨e, x⟩]
  | e :: e' :: r, x => ⟨e, x.1⟩ :: ofTup (e' :: r) x.2
def toTup : (l : List Sh) → List Dat → Option (tupT l)
  | [], [] => some ()
  | [e], [d] => match decEq d.e e with | isTrue q => some (castT q d.x) | isFalse _ => none
  | e :: e' :: r, d :: l => match decEq d.e e with
    | isTrue q => (match toTup (e' :: r) l with | some y => some (castT q d.x, y) | none => none)
    | isFalse _ => none
  | _, _ => none

/-! ### A state made of data -/
mutual
def takeSD : SD → List Dat → AV × List Dat
  | .d _, d :: r => (valAV d.e d.x, r)
  | .d _, [] => (.unk, [])
  | .fn f a b, l => (.fn f (takeSDs a l).1 (takeSDs b (takeSDs a l).2).1, (takeSDs b (takeSDs a l).2).2)
  | .agg s, l => (.agg (takeSDs s l).1, (takeSDs s l).2)
  | .own j, l => (.own j, l)
  | .ptr j off, l => (.optr j off, l)
  | .unk, l => (.unk, l)
def takeSDs : List SD → List Dat → List AV × List Dat
  | [], l => ([], l)
  | s :: r, l => ((takeSD s l).1 :: (takeSDs r (takeSD s l).2).1, (takeSDs r (takeSD s l).2).2)
end
def takeOS : OS → List Dat → Obj × List Dat
  | .grow en _ et, ⟨.sl e, xs⟩ :: r => (.grow en e et xs, r)
  | .arr _, ⟨.sl e, xs⟩ :: r => (.arr e xs, r)
  | .cells l, r => (.cells (takeSDs l r).1, (takeSDs l r).2)
  | _, r => (.gone, r)
def takeO : List (Loc × OS) → Nat → List Dat → List (Nat × Obj) × List Dat
  | [], _, l => ([], l)
  | o :: r, j, l => ((j, (takeOS o.2 l).1) :: (takeO r (j + 1) (takeOS o.2 l).2).1, (takeO r (j + 1) (takeOS o.2 l).2).2)
def takeS : List (Nat × SD) → List Dat → List (Nat × AV)
  | [], _ => []
  | s :: r, l => (s.1, (takeSD s.2 l).1) :: takeS r (takeSD s.2 l).2
def head (D : Descr) (l : List Dat) : AS := ⟨takeS D.ss (takeO D.os 0 l).2, (takeO D.os 0 l).1, D.os.length, []⟩

/-! ### A state read as data -/
def idOf (sh : OS) : AV → Option (Option Nat)
  | .own id => some (some id)
  | .optr id 0 => some (some id)
  | .nilsl => match sh with | .grow _ _ _ => some none | _ => none
  | _ => none
def locate (S : AS) (acc : List (Option Nat)) : Loc → OS → Option (Option Nat)
  | .pin i, _ => some (some i)
  | .tmp t, sh => idOf sh (S.get t)
  | .cell j c, sh => match acc[j]? with
    | some (some id) => match S.obj id with
      | some (.cells cs) => match cs[c]? with | some v => idOf sh v | none => none
      | _ => none
    | _ => none
def idsOf (S : AS) : List (Loc × OS) → List (Option Nat) → Option (List (Option Nat))
  | [], acc => some acc
  | o :: r, acc => match locate S acc o.1 o.2 with | some i => idsOf S r (acc ++ [i]) | none => none
def beqO : Option (Option Nat) → Option Nat → Bool
  | some (some a), some b => Nat.beq a b
  | some none, none => true
  | _, _ => false
mutual
def projSD (m : Nat) (S : AS) (ids : List (Option Nat)) : SD → AV → Option (List Dat × List Nat)
  | .d e, v => match dataV m S.obj e v with | some d => some ([⟨e, d.x⟩], d.vis) | none => none
  | .fn f a b, .fn f' va vb => match Nat.beq f f', projSDs m S ids a va, projSDs m S ids b vb with
    | true, some (d, v), some (d', v') => some (d ++ d', v ++ v')
    | _, _, _ => none
  | .agg l, .agg vs => projSDs m S ids l vs
  | .own j, .own id => match beqO ids[j]? (some id) with | true => some ([], []) | false => none
  | .own j, .nilsl => match beqO ids[j]? none with | true => some ([], []) | false => none
  | .ptr j off, .optr id off' => match beqO ids[j]? (some id), Nat.beq off off' with | true, true => some ([], []) | _, _ => none
  | .unk, _ => some ([], [])
  | _, _ => none
def projSDs (m : Nat) (S : AS) (ids : List (Option Nat)) : List SD → List AV → Option (List Dat × List Nat)
  | [], [] => some ([], [])
  | s :: r, v :: l => match projSD m S ids s v, projSDs m S ids r l with
    | some (d, a), some (d', a') => some (d ++ d', a ++ a')
    | _, _ => none
  | _, _ => none
end
def projOS (m : Nat) (S : AS) (ids : List (Option Nat)) : OS → Option Nat → Option (List Dat × List Nat)
  | .grow _ e _, none => some ([⟨.sl e, ([] : List e.T)⟩], [])
  | .grow en e et, some id => match S.obj id with
    | some (.grow en' e' et' xs) => match decEq e' e, Nat.beq et' et, (!en' || en) with | isTrue q, true, true => some ([⟨.sl e, castL q xs⟩], []) | _, _, _ => none
    | _ => none
  | .arr e, some id => match S.obj id with
    | some (.arr e' xs) => match decEq e' e with | isTrue q => some ([⟨.sl e, castL q xs⟩], []) | _ => none
    | _ => none
  | .cells l, some id => match S.obj id with
    | some (.cells cs) => projSDs m S ids l cs
    | _ => none
  | .gone, some id => match S.obj id with
    | some .gone => some ([], [])
    | some (.grow _ _ _ _) => some ([], [])
    | _ => none
  | _, none => none
def projO (m : Nat) (S : AS) (ids : List (Option Nat)) : List (Loc × OS) → List (Option Nat) → Option (List Dat × List Nat)
  | [], [] => some ([], [])
  | o :: r, i :: is => match projOS m S ids o.2 i, projO m S ids r is with
    | some (d, a), some (d', a') => some (d ++ d', a ++ a')
    | _, _ => none
  | _, _ => none
def projS (m : Nat) (S : AS) (ids : List (Option Nat)) : List (Nat × SD) → Option (List Dat × List Nat)
  | [] => some ([], [])
  | s :: r => match projSD m S ids s.2 (S.get s.1), projS m S ids r with
    | some (d, a), some (d', a') => some (d ++ d', a ++ a')
    | _, _ => none
def hasO : List (Option Nat) → Nat → Bool
  | [], _ => false
  | some a :: r, n => match Nat.beq a n with | true => true | false => hasO r n
  | none :: r, n => hasO r n
def nodupO : List (Option Nat) → Bool
  | [] => true
  | some a :: r => match hasO r a with | true => false | false => nodupO r
  | none :: r => nodupO r
/-- The objects' ids, but of those that are given up. -/
def liveO : List (Loc × OS) → List (Option Nat) → List (Option Nat)
  | o :: r, i :: is => (match o.2 with | .gone => none | _ => i) :: liveO r is
  | _, _ => []
def pinned (ids : List (Option Nat)) : Nat → Bool
  | 0 => true
  | m + 1 => match beqO ids[m]? (some m) with | true => pinned ids m | false => false
def apartO (ids : List (Option Nat)) (m : Nat) : List Nat → Bool
  | [] => true
  | v :: r => match hasO ids v, Nat.ble m v with | false, true => apartO ids m r | _, _ => false
/-- The state's data, if it is of that make: objects below m stand where they stood. -/
def proj (D : Descr) (m : Nat) (S : AS) : Option (List Dat) :=
  match idsOf S D.os [] with
  | none => none
  | some ids => match projO m S ids D.os ids, projS m S ids D.ss with
    | some (d, a), some (d', a') => match nodupO (liveO D.os ids), pinned ids m, apartO ids m (a ++ a') with
      | true, true, true => some (d ++ d')
      | _, _, _ => none
    | _, _ => none
def projT (D : Descr) (m : Nat) (S : AS) : Option (tupT D.shs) :=
  match proj D m S with | some l => toTup D.shs l | none => none

/-! ### Functions and loops -/
structure Sig where
  ps : Descr
  rs : Descr
  F : tupT ps.shs → Option (tupT rs.shs)
def zipI {α : Type} : Nat → List α → List (Nat × α)
  | _, [] => []
  | i, a :: r => (i, a) :: zipI (i + 1) r
def resAV (ss : List (Nat × AV)) : AV :=
  match ss with
  | [p] => p.2
  | l => .tup (l.map (·.2))
def argsState (args : List AV) (H : List Obj) : AS := ⟨zipI 0 args, zipI 0 H, H.length, []⟩
def strictIds : List (Option Nat) → Nat → Bool
  | [], _ => true
  | some a :: r, n => match Nat.beq a n with | true => strictIds r (n + 1) | false => false
  | none :: _, _ => false
/-- The arguments of a call as data; no object is handed over but as it is. -/
def projArgs (D : Descr) (args : List AV) (H : List Obj) : Option (List Dat) :=
  let S := argsState args H
  match Nat.beq D.ss.length args.length, Nat.beq D.os.length H.length with
  | true, true => match idsOf S D.os [] with
    | none => none
    | some ids => match projO H.length S ids D.os ids, projS H.length S ids D.ss with
      | some (d, []), some (d', []) => match strictIds ids 0 with | true => some (d ++ d') | false => none
      | _, _ => none
  | _, _ => none
def Sig.cs (s : Sig) (args : List AV) (H : List Obj) : Option CS :=
  match projArgs s.ps args H with
  | none => none
  | some l => match toTup s.ps.shs l with
    | none => none
    | some x => some ⟨tupT s.rs.shs, s.F x, fun y => (resAV (head s.rs (ofTup s.rs.shs y)).t, (head s.rs (ofTup s.rs.shs y)).h)⟩
def fnTab : List (FuncId × Sig) → FuncId → List AV → List Obj → Option CS
  | [], _, _, _ => none
  | p :: r, f, args, H => match Nat.beq p.1 f with
    | true => match p.2.cs args H with | some c => some c | none => fnTab r f args H
    | false => fnTab r f args H
@[reducible] def exT : List (AE × Descr) → Type
  | [] => Empty
  | [p] => tupT p.2.shs
  | p :: q :: r => tupT p.2.shs ⊕ exT (q :: r)
def beqE : AE → AE → Bool
  | .norm, .norm => true
  | .ret, .ret => true
  | .exit a, .exit b => Nat.beq a b
  | _, _ => false
def exProj (m : Nat) : (l : List (AE × Descr)) → AE → AS → Option (exT l)
  | [], _, _ => none
  | [p], e, S => match beqE p.1 e with | true => projT p.2 m S | false => none
  | p :: q :: r, e, S => match beqE p.1 e with
    | true => match projT p.2 m S with | some y => some (.inl y) | none => none
    | false => match exProj m (q :: r) e S with | some y => some (.inr y) | none => none
def exOut : (l : List (AE × Descr)) → exT l → AE × AS
  | [], y => nomatch y
  | [p], y => (p.1, head p.2 (ofTup p.2.shs y))
  | p :: q :: r, y => match y with
    | .inl y => (p.1, head p.2 (ofTup p.2.shs y))
    | .inr y => exOut (q :: r) y
def exTr : (l : List (AE × Descr)) → exT l → Tree (AE × AS)
  | [], y => nomatch y
  | [p], y => .leaf (p.1, head p.2 (ofTup p.2.shs y))
  | p :: q :: r, y => .alt (tupT p.2.shs) (exT (q :: r)) y (fun y => .leaf (p.1, head p.2 (ofTup p.2.shs y))) (fun y => exTr (q :: r) y)
structure LSig where
  hd : Descr
  ex : List (AE × Descr)
  F : tupT hd.shs → Option (exT ex)
def LSig.ls (m : Nat) (s : LSig) (S : AS) : Option LS :=
  match projT s.hd m S with
  | none => none
  | some x => some ⟨exT s.ex, s.F x, exTr s.ex⟩
def lpTab (m : Nat) : List (Nat × LSig) → Nat → AS → Option LS
  | [], _, _ => none
  | p :: r, k, S => match Nat.beq p.1 k with
    | true => p.2.ls m S
    | false => lpTab m r k S
/-- A round's end: once more, or out. -/
def roundEnd (m : Nat) (s : LSig) (p : AE × AS) : Option (exT s.ex) :=
  match p.1 with
  | .norm => (projT s.hd m p.2).bind s.F
  | e => exProj m s.ex e p.2
/-- A result variable's value. -/
def resOf (G : Gl) (S : AS) : List ResultVar → Option (List AV)
  | [] => some []
  | .tmp t :: r => match resOf G S r with | some l => some (S.get t :: l) | none => none
  | .cell a t :: r => match G.ty t, S.get a with
    | some ti, .optr id off => match S.obj id with
      | some (.cells cs) => match pickCells ti.td.isAgg ti.size off cs, resOf G S r with | some v, some l => some (v :: l) | _, _ => none
      | _ => none
    | _, _ => none
def funEnd (G : Gl) (rvs : List ResultVar) (m : Nat) (rs : Descr) (p : AE × AS) : Option (tupT rs.shs) :=
  match p.1 with
  | .exit _ => none
  | _ => match resOf G p.2 rvs with
    | some l => match Nat.beq l.length rs.ss.length with | true => projT rs m ⟨zipI 0 l, p.2.h, p.2.nx, []⟩ | false => none
    | none => none
def tyTab : List (TypeId × TI) → TypeId → Option TI := look
end
end Go.Rx

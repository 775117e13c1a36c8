/- Rx, part 24: '==' of structs of two ints. -/
import Derived.Test.YtlncjconodmjjaaDoorChk
namespace Go.Rx
set_option linter.unusedVariables false
set_option linter.unusedSimpArgs false
theorem equal_int {P : Program} {t : TypeId} {k : IntKind} (hd : P.underlying t = some (.int k)) (n : Nat) (a b : Int) (k' : IntKind) (w : World) : (Op.equalIn (n + 1) t (.int k' a) (.int k' b)).run P w = .ok (a == b) w := by
  simp [Op.equalIn, run_underlying hd]
theorem equal_two {P : Program} {t : TypeId} {f1 f2 : Field} {k1 k2 : IntKind} (hd : P.underlying t = some (.struct #[f1, f2])) (hs : P.stoodInHeld t = false) (n1 : f1.name ≠ "_") (n2 : f2.name ≠ "_") (o1 : f1.offset = 0) (o2 : f2.offset = 1)
    (h1 : P.underlying f1.type = some (.int k1)) (h2 : P.underlying f2.type = some (.int k2)) (k k' : IntKind) (a b a' b' : Int) (w : World) :
    (Op.equal t (.agg #[.int k a, .int k' b]) (.agg #[.int k a', .int k' b'])).run P w = .ok ((a == a') && (b == b')) w := by
  have : ∀ n, (Op.equalIn (n + 2) t (.agg #[.int k a, .int k' b]) (.agg #[.int k a', .int k' b'])).run P w = .ok ((a == a') && (b == b')) w := by
    intro n
    rw [Op.equalIn]
    simp [run_underlying hd, hs, n1, n2, part, isAgg, run_underlying h1, run_underlying h2, o1, o2, equal_int h1, equal_int h2]
    by_cases q : a = a' <;> by_cases r : b = b' <;> simp [q, r]
  exact this 9998
def EqGoal (P : Program) (t : TypeId) (n : Nat) : Prop :=
  P.eqGuardType P.depth t = false ∧ ∀ w (l r : List Value) c, EqInts l r c → l.length = n → (Op.equal t (.agg l.toArray) (.agg r.toArray)).run P w = .ok c w
theorem eqs_two {P : Program} {t : TypeId} {f1 f2 : Field} {k1 k2 : IntKind} (hg : P.eqGuardType P.depth t = false) (hd : P.underlying t = some (.struct #[f1, f2])) (hs : P.stoodInHeld t = false) (n1 : (f1.name == "_") = false) (n2 : (f2.name == "_") = false)
    (o1 : f1.offset = 0) (o2 : f2.offset = 1) (h1 : P.underlying f1.type = some (.int k1)) (h2 : P.underlying f2.type = some (.int k2)) :
    EqGoal P t 2 := by
  refine ⟨hg, fun w l r c h hl => ?_⟩
  cases h with
  | one k a b => simp at hl
  | cons k a b l r c h =>
    cases h with
    | one k' a' b' => exact equal_two hd hs (by simpa using n1) (by simpa using n2) o1 o2 h1 h2 k k' a a' b b' w
    | cons k' a' b' l r c h => cases h <;> simp at hl
end Go.Rx

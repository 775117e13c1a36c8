/- Lists of the numbers that a test lets by, rising, in plain Lean: of runs, of words. -/
import Derived.Test.YtlncjconodmjjaaDoorRunsC
import Derived.Test.YtlncjconodmjjaaDoorBitsT
namespace Go.Rx.Plain
set_option linter.unusedVariables false
set_option linter.unusedSimpArgs false
def memI (f : Int → Bool) (a : Int) (n : Nat) : List Int := ((List.range n).filter fun (j : Nat) => f (a + (j : Int))).map fun (j : Nat) => a + (j : Int)
theorem memI_split (f : Int → Bool) (a : Int) (n m : Nat) : memI f a (n + m) = memI f a n ++ memI f (a + (n : Int)) m := by
  unfold memI
  rw [List.range_add, List.filter_append, List.map_append, List.filter_map, List.map_map]
  have e1 : ((fun (j : Nat) => f (a + (j : Int))) ∘ fun x => n + x) = fun (j : Nat) => f (a + (n : Int) + (j : Int)) := by
    funext j
    simp [Int.add_assoc]
  have e2 : ((fun (j : Nat) => a + (j : Int)) ∘ fun x => n + x) = fun (j : Nat) => a + (n : Int) + (j : Int) := by
    funext j
    simp [Int.add_assoc]
  rw [e1, e2]
theorem memI_congr {f g : Int → Bool} {a : Int} {n : Nat} (h : ∀ x, a ≤ x → x < a + (n : Int) → f x = g x) : memI f a n = memI g a n := by
  unfold memI
  congr 1
  apply List.filter_congr
  intro j hj
  have := List.mem_range.1 hj
  exact h _ (by omega) (by omega)
theorem memI_none {f : Int → Bool} {a : Int} {n : Nat} (h : ∀ x, a ≤ x → x < a + (n : Int) → f x = false) : memI f a n = [] := by
  unfold memI
  rw [List.filter_eq_nil_iff.2, List.map_nil]
  intro j hj
  have := List.mem_range.1 hj
  rw [h _ (by omega) (by omega)]
  simp
theorem memI_all {f : Int → Bool} {a : Int} {n : Nat} (h : ∀ x, a ≤ x → x < a + (n : Int) → f x = true) : memI f a n = (List.range n).map fun (j : Nat) => a + (j : Int) := by
  unfold memI
  rw [List.filter_eq_self.2]
  intro j hj
  have := List.mem_range.1 hj
  exact h _ (by omega) (by omega)
def listR : List Run → List Int
  | [] => []
  | p :: t => ((List.range (p.2 + 1).toNat).map fun (j : Nat) => p.1 + (j : Int)) ++ listR t
theorem listR_len : ∀ {r : List Run}, wfR r → ((listR r).length : Int) = lenF r
  | [], _ => rfl
  | p :: t, h => by
    have hp := wfR_head h
    have ih := listR_len (wfR_tail h)
    simp only [listR, lenF, List.length_append, List.length_map, List.length_range]
    omega
theorem listR_mem : ∀ {r : List Run} {m : Int}, mayF m r = true → wfR r → m ≤ 65537 → listR r = memI (hasB r) m (65537 - m).toNat
  | [], m, _, _, _ => by
    rw [memI_none (f := hasB []) fun x _ _ => rfl]
    rfl
  | p :: t, m, h, hw, hm => by
    obtain ⟨h1, h2, h3⟩ := mayF_cons.1 h
    have hp := wfR_head hw
    have ih := listR_mem h3 (wfR_tail hw) (by omega)
    have lo := fun x => may_low (x := x) h3 (wfR_tail hw)
    have e : (65537 - m).toNat = (p.1 - m).toNat + ((p.2 + 1).toNat + (1 + (65537 - (p.1 + p.2 + 2)).toNat)) := by omega
    rw [e, memI_split, memI_split, memI_split]
    have a1 : m + ((p.1 - m).toNat : Int) = p.1 := by omega
    have a2 : p.1 + (((p.2 + 1).toNat : Nat) : Int) = p.1 + p.2 + 1 := by omega
    have a3 : p.1 + p.2 + 1 + ((1 : Nat) : Int) = p.1 + p.2 + 2 := by omega
    rw [a1, a2, a3]
    rw [memI_none (n := (p.1 - m).toNat) fun x q1 q2 => may_low (x := x) (m := p.1) (mayF_cons.2 ⟨Int.le_refl _, h2, h3⟩) hw (by omega)]
    rw [memI_all (a := p.1) fun x q1 q2 => by
      rw [hasB_cons]
      have : x ≤ p.1 + p.2 := by omega
      simp [q1, this]]
    rw [memI_none (a := p.1 + p.2 + 1) fun x q1 q2 => by
      rw [hasB_cons, lo x (by omega)]
      simp
      omega]
    rw [listR, ih, List.nil_append, List.nil_append]
    congr 1
    apply memI_congr
    intro x q1 q2
    rw [hasB_cons]
    have : ¬ x ≤ p.1 + p.2 := by omega
    simp [this]
def startI (f : Int → Bool) (x : Int) : Bool := f x && !f (x - 1)
theorem starts_mem : ∀ {r : List Run} {m : Int}, mayF m r = true → wfR r → m ≤ 65537 → r.map (·.1) = memI (startI (hasB r)) m (65537 - m).toNat
  | [], m, _, _, _ => by
    rw [memI_none (f := startI (hasB [])) fun x _ _ => rfl]
    rfl
  | p :: t, m, h, hw, hm => by
    obtain ⟨h1, h2, h3⟩ := mayF_cons.1 h
    have hp := wfR_head hw
    have ih := starts_mem h3 (wfR_tail hw) (by omega)
    have lo := fun x => may_low (x := x) h3 (wfR_tail hw)
    have low := fun x (hx : x < p.1) => may_low (x := x) (m := p.1) (mayF_cons.2 ⟨Int.le_refl _, h2, h3⟩) hw hx
    have e : (65537 - m).toNat = (p.1 - m).toNat + (1 + ((p.2 + 1).toNat + (65537 - (p.1 + p.2 + 2)).toNat)) := by omega
    rw [e, memI_split, memI_split, memI_split]
    have a1 : m + ((p.1 - m).toNat : Int) = p.1 := by omega
    have a2 : p.1 + ((1 : Nat) : Int) = p.1 + 1 := by omega
    have a3 : p.1 + 1 + (((p.2 + 1).toNat : Nat) : Int) = p.1 + p.2 + 2 := by omega
    rw [a1, a2, a3]
    have inn : ∀ x, p.1 ≤ x → x ≤ p.1 + p.2 → hasB (p :: t) x = true := by
      intro x q1 q2
      rw [hasB_cons]
      simp [q1, q2]
    rw [memI_none (n := (p.1 - m).toNat) fun x q1 q2 => by unfold startI; rw [low x (by omega)]; rfl]
    rw [memI_all (a := p.1) fun x q1 q2 => by
      unfold startI
      rw [inn x (by omega) (by omega), low (x - 1) (by omega)]
      rfl]
    rw [memI_none (a := p.1 + 1) fun x q1 q2 => by
      unfold startI
      by_cases c : x ≤ p.1 + p.2
      · rw [inn (x - 1) (by omega) (by omega)]
        simp
      · rw [hasB_cons, lo x (by omega)]
        simp [c]]
    rw [List.map_cons, ih, List.nil_append, List.nil_append]
    have : (List.range 1).map (fun (j : Nat) => p.1 + (j : Int)) = [p.1] := by simp [List.range_succ]
    rw [this, List.singleton_append]
    congr 1
    apply memI_congr
    intro x q1 q2
    unfold startI
    rw [hasB_cons, hasB_cons]
    have c1 : ¬ x ≤ p.1 + p.2 := by omega
    have c2 : ¬ x - 1 ≤ p.1 + p.2 := by omega
    simp [c1, c2]
/-! ### Words -/
def up (W : List Nat) : List Int := W.map fun (n : Nat) => (n : Int)
def wfW (W : List Nat) : Prop := W.length = 1024 ∧ ∀ n, n ∈ W → n < 18446744073709551616
def hasW (W : List Nat) (x : Nat) : Bool := (W.getD (x / 64) 0).testBit (x % 64)
theorem up_len (W : List Nat) : (up W).length = W.length := by simp [up]
theorem up_get (W : List Nat) (i : Nat) : (up W).getD i (0 : Int) = ((W.getD i 0 : Nat) : Int) := by
  unfold up
  simp only [List.getD_eq_getElem?_getD, List.getElem?_map]
  cases W[i]? <;> rfl
theorem up_set (W : List Nat) (i n : Nat) : (up W).set i (n : Int) = up (W.set i n) := by
  unfold up
  rw [List.map_set]
theorem wfW_get {W : List Nat} (h : ∀ n, n ∈ W → n < 18446744073709551616) (i : Nat) : W.getD i 0 < 18446744073709551616 := by
  rw [List.getD_eq_getElem?_getD]
  cases e : W[i]? with
  | none => simp
  | some n => exact h n (List.mem_of_getElem? e)
def listW : Nat → List Nat → List Nat
  | _, [] => []
  | i, x :: t => ((bitsL 64 x).map fun j => 64 * i + j) ++ listW (i + 1) t
theorem hasW_head (x : Nat) (t : List Nat) {j : Nat} (h : j < 64) : hasW (x :: t) j = x.testBit j := by
  unfold hasW
  rw [Nat.div_eq_of_lt h, Nat.mod_eq_of_lt h]
  rfl
theorem hasW_tail (x : Nat) (t : List Nat) (j : Nat) : hasW (x :: t) (64 + j) = hasW t j := by
  unfold hasW
  have e1 : (64 + j) / 64 = j / 64 + 1 := by omega
  have e2 : (64 + j) % 64 = j % 64 := by omega
  rw [e1, e2, List.getD_cons_succ]
theorem listW_eq : ∀ (W : List Nat) (i : Nat), listW i W = ((List.range (64 * W.length)).filter (hasW W)).map fun j => 64 * i + j
  | [], i => rfl
  | x :: t, i => by
    rw [listW, listW_eq t (i + 1), List.length_cons, show 64 * (t.length + 1) = 64 + 64 * t.length by omega, List.range_add, List.filter_append, List.map_append, List.filter_map, List.map_map]
    congr 1
    · have e0 : (List.range 64).filter (fun j => x.testBit j) = (List.range 64).filter (hasW (x :: t)) := by
        apply List.filter_congr
        intro j hj
        exact (hasW_head x t (List.mem_range.1 hj)).symm
      rw [bitsL_eq, e0]
    · have e1 : (hasW (x :: t) ∘ fun x => 64 + x) = hasW t := by
        funext j
        exact hasW_tail x t j
      rw [e1]
      apply List.map_congr_left
      intro j _
      show 64 * (i + 1) + j = 64 * i + (64 + j)
      omega
def lenW : List Nat → Nat
  | [] => 0
  | x :: t => pc 64 x + lenW t
theorem lenW_eq : ∀ (W : List Nat) (i : Nat), lenW W = (listW i W).length
  | [], _ => rfl
  | x :: t, i => by
    rw [lenW, listW, List.length_append, List.length_map, ← lenW_eq t (i + 1)]
    rfl
def runsW : Nat → List Nat → Nat
  | _, [] => 0
  | l, x :: t => pc 64 (notAnd x ((x <<< 1 % 18446744073709551616) ||| l)) + runsW (x >>> 63) t
def startW (l : Nat) (W : List Nat) (j : Nat) : Bool := hasW W j && !(match j with | 0 => decide (l = 1) | j + 1 => hasW W j)
theorem runsW_eq : ∀ (W : List Nat) (l : Nat), l < 2 → (∀ n, n ∈ W → n < 18446744073709551616) → runsW l W = ((List.range (64 * W.length)).filter (startW l W)).length
  | [], _, _, _ => rfl
  | x :: t, l, hl, hW => by
    have hx := hW x (by simp)
    have hl2 : x >>> 63 < 2 := by rw [Nat.shiftRight_eq_div_pow]; omega
    rw [runsW, runsW_eq t _ hl2 (fun n hn => hW n (by simp [hn])), List.length_cons, show 64 * (t.length + 1) = 64 + 64 * t.length by omega, List.range_add, List.filter_append, List.length_append, List.filter_map, List.length_map]
    congr 1
    · unfold pc
      rw [bitsL_eq]
      congr 1
      apply List.filter_congr
      intro j hj
      have hj := List.mem_range.1 hj
      have hb : (x <<< 1 % 18446744073709551616) ||| l < 18446744073709551616 := or_lt64 (Nat.mod_lt _ (by omega)) (by omega)
      rw [testBit_notAnd hb hj]
      unfold startW
      rw [hasW_head x t hj]
      congr 2
      have hm : (x <<< 1 % 18446744073709551616).testBit j = (x <<< 1).testBit j := by
        rw [show (18446744073709551616 : Nat) = 2 ^ 64 from rfl, Nat.testBit_mod_two_pow]
        simp [hj]
      rw [Nat.testBit_or, hm, Nat.testBit_shiftLeft]
      cases j with
      | zero =>
        simp [Nat.testBit_zero]
        omega
      | succ j =>
        have : l.testBit (j + 1) = false := Nat.testBit_lt_two_pow (Nat.lt_of_lt_of_le hl (by rw [Nat.pow_succ]; have := Nat.two_pow_pos j; omega))
        simp only [this, Bool.or_false]
        rw [hasW_head x t (by omega)]
        simp
    · congr 1
      apply List.filter_congr
      intro j _
      show _ = startW l (x :: t) (64 + j)
      unfold startW
      rw [hasW_tail]
      congr 2
      cases j with
      | zero =>
        show decide (x >>> 63 = 1) = hasW (x :: t) 63
        rw [hasW_head x t (by omega)]
        rw [Nat.shiftRight_eq_div_pow, Nat.testBit_eq_decide_div_mod_eq]
        rw [Bool.eq_iff_iff]
        simp
        omega
      | succ j =>
        show hasW t j = hasW (x :: t) (64 + j)
        rw [hasW_tail]
end Go.Rx.Plain

/- Runs counted: how many numbers, how many below a place, the k-th; in plain Lean. -/
import Derived.Test.YtlncjconodmjjaaDoorRunsT
namespace Go.Rx.Plain
set_option linter.unusedVariables false
def cnt (f : Int → Bool) : Nat → Int
  | 0 => 0
  | n + 1 => cnt f n + cond (f n) 1 0
def lenF : List Run → Int
  | [] => 0
  | p :: t => (p.2 + 1) + lenF t
def rankF : List Run → Int → Int
  | [], _ => 0
  | p :: t, x => min (max (x - p.1) 0) (p.2 + 1) + rankF t x
def selF : List Run → Int → List Run × Int
  | [], k => ([], k)
  | p :: t, k => if k ≤ p.2 then (p :: t, k) else selF t (k - (p.2 + 1))
theorem cnt_congr {f g : Int → Bool} (n : Nat) (h : ∀ i : Int, f i = g i) : cnt f n = cnt g n := by
  induction n with
  | zero => rfl
  | succ n ih => simp only [cnt, ih, h]
theorem cnt_or {f g : Int → Bool} (n : Nat) (h : ∀ i, f i = true → g i = true → False) : cnt (fun i => f i || g i) n = cnt f n + cnt g n := by
  induction n with
  | zero => rfl
  | succ n ih =>
    simp only [cnt, ih]
    have := h n
    generalize f (n : Int) = x at *
    generalize g (n : Int) = y at *
    cases x <;> cases y <;> simp at * <;> omega
theorem cnt_one (a b : Int) (h0 : 0 ≤ a) (hb : 0 ≤ b) (n : Nat) : cnt (fun i => decide (a ≤ i) && decide (i ≤ a + b)) n = min (max ((n : Int) - a) 0) (b + 1) := by
  induction n with
  | zero => simp only [cnt]; omega
  | succ n ih =>
    simp only [cnt, ih]
    by_cases q1 : a ≤ (n : Int) <;> by_cases q2 : (n : Int) ≤ a + b <;> simp [q1, q2] <;> omega
theorem cnt_false (n : Nat) : cnt (fun _ => false) n = 0 := by
  induction n with
  | zero => rfl
  | succ n ih => simp [cnt, ih]
theorem rank_cnt : ∀ {r : List Run} {m : Int} (n : Nat), mayF m r = true → wfR r → rankF r n = cnt (hasB r) n
  | [], _, n, _, _ => by
    rw [cnt_congr (f := hasB []) n (g := fun _ => false) (fun i => rfl), cnt_false]
    rfl
  | p :: t, m, n, h, hw => by
    obtain ⟨h1, h2, h3⟩ := mayF_cons.1 h
    have hp := wfR_head hw
    have e : ∀ i, hasB (p :: t) i = ((decide (p.1 ≤ i) && decide (i ≤ p.1 + p.2)) || hasB t i) := fun i => rfl
    rw [cnt_congr n e, cnt_or n (g := hasB t), cnt_one _ _ hp.1 hp.2.2.1, rankF, rank_cnt n h3 (wfR_tail hw)]
    intro i hi hj
    simp at hi
    rw [may_low (x := i) h3 (wfR_tail hw) (by omega)] at hj
    cases hj
theorem rank_len : ∀ {r : List Run} {m x : Int}, mayF m r = true → wfR r → 65536 ≤ x → rankF r x = lenF r
  | [], _, _, _, _, _ => rfl
  | p :: t, m, x, h, hw, hx => by
    obtain ⟨h1, h2, h3⟩ := mayF_cons.1 h
    have hp := wfR_head hw
    rw [rankF, lenF, rank_len h3 (wfR_tail hw) hx]
    congr 1
    omega
theorem len_cnt {r : List Run} {m : Int} (h : mayF m r = true) (hw : wfR r) : lenF r = cnt (hasB r) 65536 := by
  rw [← rank_len h hw (x := ((65536 : Nat) : Int)) (by omega), rank_cnt 65536 h hw]
theorem rank_low : ∀ {r : List Run} {m x : Int}, mayF m r = true → wfR r → x ≤ m → rankF r x = 0
  | [], _, _, _, _, _ => rfl
  | p :: t, m, x, h, hw, hx => by
    obtain ⟨h1, h2, h3⟩ := mayF_cons.1 h
    have hp := wfR_head hw
    rw [rankF, rank_low h3 (wfR_tail hw) (by omega)]
    omega
theorem len_nonneg : ∀ {r : List Run}, wfR r → 0 ≤ lenF r
  | [], _ => by simp [lenF]
  | p :: t, hw => by
    have := len_nonneg (wfR_tail hw)
    have hp := wfR_head hw
    rw [lenF]
    omega
theorem len_le : ∀ {r : List Run}, wfR r → lenF r ≤ 65536 * (r.length : Int)
  | [], _ => by simp [lenF]
  | p :: t, hw => by
    have := len_le (wfR_tail hw)
    have hp := wfR_head hw
    rw [lenF]
    simp only [List.length_cons]
    omega
theorem rank_le : ∀ {r : List Run} {x : Int}, wfR r → 0 ≤ rankF r x ∧ rankF r x ≤ lenF r
  | [], _, _ => by simp [lenF, rankF]
  | p :: t, x, hw => by
    have := rank_le (x := x) (wfR_tail hw)
    have hp := wfR_head hw
    rw [lenF, rankF]
    omega
/-- What the k-th number is: so many are below it; it is there; one more is below what follows it. -/
theorem sel_ok : ∀ {r : List Run} {m k : Int}, mayF m r = true → wfR r → 0 ≤ k → ∀ (p : Run) (t : List Run) (k' : Int), selF r k = (p :: t, k') →
    0 ≤ k' ∧ k' ≤ p.2 ∧ m ≤ p.1 ∧ p.1 + p.2 < 65536 ∧ 0 ≤ p.1 ∧ rankF r (p.1 + k') = k ∧ rankF r (p.1 + k' + 1) = k + 1 ∧ hasB r (p.1 + k') = true
  | [], m, k, _, _, _, p, t, k', h => by cases h
  | q :: s, m, k, hm, hw, hk, p, t, k', h => by
    obtain ⟨h1, h2, h3⟩ := mayF_cons.1 hm
    have hq := wfR_head hw
    rw [selF] at h
    split at h
    · rename_i c
      cases h
      refine ⟨hk, c, h1, h2, hq.1, ?_, ?_, ?_⟩
      · rw [rankF, rank_low h3 (wfR_tail hw) (by omega)]
        omega
      · rw [rankF, rank_low h3 (wfR_tail hw) (by omega)]
        omega
      · rw [hasB_cons]
        simp
        omega
    · rename_i c
      obtain ⟨i1, i2, i3, i4, i5, i6, i7, i8⟩ := sel_ok h3 (wfR_tail hw) (by omega) p t k' h
      refine ⟨i1, i2, by omega, i4, i5, ?_, ?_, ?_⟩
      · rw [rankF, i6]
        omega
      · rw [rankF, i7]
        omega
      · rw [hasB_cons, i8]
        simp
theorem sel_neg {r : List Run} {k : Int} (hw : wfR r) (hk : k < 0) : selF r k = (r, k) := by
  cases r with
  | nil => rfl
  | cons p t =>
    have hp := wfR_head hw
    rw [selF, if_pos (by omega)]
def headIs (s : List Run) (x : Int) : Bool := match s with | q :: _ => decide (q.1 = x) | [] => false
def lastIn (l : List Run) (x : Int) : Bool := match l.getLast? with | some p => decide (x < p.1 + p.2 + 1) | none => false
/-- A number, by the runs that begin below it and those that do not. -/
theorem has_split {x : Int} : ∀ {l s : List Run} {m : Int}, mayF m (l ++ s) = true → wfR (l ++ s) → (∀ p, p ∈ l → p.1 < x) → (∀ q, q ∈ s → x ≤ q.1) →
    hasB (l ++ s) x = (headIs s x || lastIn l x)
  | [], [], m, _, _, _, _ => rfl
  | [], q :: t, m, h, hw, hl, hs => by
    obtain ⟨h1, h2, h3⟩ := mayF_cons.1 h
    have hq := wfR_head hw
    have := hs q (by simp)
    have hw' : wfR t := wfR_tail hw
    have h3' : mayF (q.1 + q.2 + 2) t = true := h3
    rw [List.nil_append, hasB_cons, may_low h3' hw' (by omega)]
    rw [Bool.eq_iff_iff]
    simp [headIs, lastIn]
    omega
  | [p], s, m, h, hw, hl, hs => by
    obtain ⟨h1, h2, h3⟩ := mayF_cons.1 h
    have hp := wfR_head hw
    have := hl p (by simp)
    have ih := has_split (x := x) (l := []) (s := s) h3 (wfR_tail hw) (fun p hp => nomatch hp) hs
    rw [List.nil_append] at ih
    rw [List.singleton_append, hasB_cons, ih]
    rw [Bool.eq_iff_iff]
    simp [lastIn]
    have e : (p.1 ≤ x ∧ x ≤ p.1 + p.2) ↔ x < p.1 + p.2 + 1 := by omega
    rw [e]
    exact Or.comm
  | p :: p' :: l, s, m, h, hw, hl, hs => by
    obtain ⟨h1, h2, h3⟩ := mayF_cons.1 h
    obtain ⟨h4, h5, h6⟩ := mayF_cons.1 h3
    have hp := wfR_head hw
    have := hl p (by simp)
    have := hl p' (by simp)
    have ih := has_split (x := x) (l := p' :: l) (s := s) h3 (wfR_tail hw) (fun q hq => hl q (by simp [hq])) hs
    have e : (p :: p' :: l) ++ s = p :: ((p' :: l) ++ s) := rfl
    rw [e, hasB_cons, ih]
    have : ¬ x ≤ p.1 + p.2 := by omega
    simp [this, lastIn]
end Go.Rx.Plain

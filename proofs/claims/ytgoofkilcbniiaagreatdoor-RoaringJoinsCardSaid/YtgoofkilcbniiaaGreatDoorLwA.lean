/- LwA: texts of one kind, laid side by side. -/
import Derived.IntWalk
import Derived.Test.YtgoofkilcbniiaaGreatDoorRxA
import Derived.Laws.Bits64
/-! Runs, in plain Lean: what a right list of runs is, when two are the same, and what a walk over the edges of two gives. -/
namespace Go.Rx.Plain
set_option linter.unusedVariables false
abbrev Run := Int × Int
def wfR (r : List Run) : Prop := ∀ p, p ∈ r → 0 ≤ p.1 ∧ p.1 < 65536 ∧ 0 ≤ p.2 ∧ p.2 < 65536
def mayF : Int → List Run → Bool
  | _, [] => true
  | m, p :: t => decide (m ≤ p.1) && (decide (p.1 + p.2 < 65536) && mayF (p.1 + p.2 + 2) t)
def hasB (r : List Run) (x : Int) : Bool := r.any fun p => decide (p.1 ≤ x) && decide (x ≤ p.1 + p.2)
def par : List Int → Int → Bool
  | [], _ => false
  | a :: t, x => (decide (a ≤ x)) != par t x
def rowL : List Run → List Int
  | [] => []
  | p :: t => p.1 :: (p.1 + p.2 + 1) :: rowL t
def srt : Int → List Int → Prop
  | _, [] => True
  | m, a :: t => m ≤ a ∧ a ≤ 65536 ∧ srt (a + 1) t
theorem mayF_cons {m : Int} {p : Run} {t : List Run} : mayF m (p :: t) = true ↔ m ≤ p.1 ∧ p.1 + p.2 < 65536 ∧ mayF (p.1 + p.2 + 2) t = true := by
  simp [mayF]
theorem hasB_nil (x : Int) : hasB [] x = false := rfl
theorem hasB_cons (p : Run) (t : List Run) (x : Int) : hasB (p :: t) x = ((decide (p.1 ≤ x) && decide (x ≤ p.1 + p.2)) || hasB t x) := rfl
theorem hasB_append (r s : List Run) (x : Int) : hasB (r ++ s) x = (hasB r x || hasB s x) := by simp [hasB]
theorem wfR_tail {p : Run} {t : List Run} (h : wfR (p :: t)) : wfR t := fun q hq => h q (by simp [hq])
theorem wfR_head {p : Run} {t : List Run} (h : wfR (p :: t)) : 0 ≤ p.1 ∧ p.1 < 65536 ∧ 0 ≤ p.2 ∧ p.2 < 65536 := h p (by simp)
theorem may_low {x : Int} : ∀ {r : List Run} {m : Int}, mayF m r = true → wfR r → x < m → hasB r x = false
  | [], _, _, _, _ => rfl
  | p :: t, m, h, hw, hx => by
    obtain ⟨h1, h2, h3⟩ := mayF_cons.1 h
    have := wfR_head hw
    rw [hasB_cons, may_low h3 (wfR_tail hw) (by omega)]
    simp
    omega
theorem may_mono : ∀ {r : List Run} {m n : Int}, mayF m r = true → n ≤ m → mayF n r = true
  | [], _, _, _, _ => rfl
  | p :: t, m, n, h, hx => by
    obtain ⟨h1, h2, h3⟩ := mayF_cons.1 h
    exact mayF_cons.2 ⟨by omega, h2, h3⟩
theorem par_row (x : Int) : ∀ {r : List Run} {m : Int}, mayF m r = true → wfR r → par (rowL r) x = hasB r x
  | [], _, _, _ => rfl
  | p :: t, m, h, hw => by
    obtain ⟨h1, h2, h3⟩ := mayF_cons.1 h
    have hp := wfR_head hw
    have ih := par_row x h3 (wfR_tail hw)
    simp only [rowL, par, hasB_cons, ih]
    by_cases q1 : p.1 ≤ x
    · by_cases q2 : x ≤ p.1 + p.2
      · have q3 := may_low (x := x) h3 (wfR_tail hw) (by omega)
        simp [q1, q2, q3]
        omega
      · have q4 : p.1 + p.2 + 1 ≤ x := by omega
        simp [q1, q2, q4]
    · have q3 := may_low (x := x) h3 (wfR_tail hw) (by omega)
      have q4 : ¬ p.1 + p.2 + 1 ≤ x := by omega
      simp [q1, q3, q4]
theorem srt_row : ∀ {r : List Run} {m : Int}, mayF m r = true → wfR r → srt m (rowL r)
  | [], _, _, _ => trivial
  | p :: t, m, h, hw => by
    obtain ⟨h1, h2, h3⟩ := mayF_cons.1 h
    have hp := wfR_head hw
    exact ⟨h1, by omega, by omega, by omega, by have := srt_row h3 (wfR_tail hw); rwa [show p.1 + p.2 + 1 + 1 = p.1 + p.2 + 2 by omega]⟩
theorem len_row : ∀ r : List Run, (rowL r).length = 2 * r.length
  | [] => rfl
  | p :: t => by simp [rowL, len_row t]; omega
theorem srt_mono : ∀ {l : List Int} {m n : Int}, srt m l → n ≤ m → srt n l
  | [], _, _, _, _ => trivial
  | a :: t, m, n, ⟨h1, h2, h3⟩, h => ⟨by omega, h2, h3⟩
theorem par_low {x : Int} : ∀ {l : List Int} {m : Int}, srt m l → x < m → par l x = false
  | [], _, _, _ => rfl
  | a :: t, m, ⟨h1, h2, h3⟩, h => by
    simp only [par]
    rw [par_low h3 (by omega)]
    simp
    omega
/-- Two right lists of the same numbers are the same. -/
theorem may_ext : ∀ {a b : List Run} {m n : Int}, mayF m a = true → mayF n b = true → wfR a → wfR b → (∀ x, hasB a x = hasB b x) → a = b
  | [], [], _, _, _, _, _, _, _ => rfl
  | [], p :: t, _, n, _, _, _, hb, h => by
    have := h p.1
    have hp := wfR_head hb
    rw [hasB_nil, hasB_cons] at this
    simp at this
    omega
  | p :: t, [], _, n, _, _, ha, _, h => by
    have := h p.1
    have hp := wfR_head ha
    rw [hasB_nil, hasB_cons] at this
    simp at this
    omega
  | p :: s, q :: t, m, n, ha, hb, wa, wb, h => by
    obtain ⟨a1, a2, a3⟩ := mayF_cons.1 ha
    obtain ⟨b1, b2, b3⟩ := mayF_cons.1 hb
    have hp := wfR_head wa
    have hq := wfR_head wb
    have la := fun x => may_low (x := x) a3 (wfR_tail wa)
    have lb := fun x => may_low (x := x) b3 (wfR_tail wb)
    have e1 : p.1 = q.1 := by
      by_cases c : p.1 < q.1
      · have := h p.1
        rw [hasB_cons, hasB_cons, lb p.1 (by omega)] at this
        have k1 : ¬ q.1 ≤ p.1 := by omega
        have k2 : 0 ≤ p.2 := by omega
        simp [k1] at this
        omega
      · by_cases c2 : q.1 < p.1
        · have := h q.1
          rw [hasB_cons, hasB_cons, la q.1 (by omega)] at this
          have k1 : ¬ p.1 ≤ q.1 := by omega
          have k2 : 0 ≤ q.2 := by omega
          simp [k1] at this
          omega
        · omega
    have e2 : p.2 = q.2 := by
      by_cases c : p.2 < q.2
      · have := h (p.1 + p.2 + 1)
        rw [hasB_cons, hasB_cons, la _ (by omega)] at this
        have k1 : ¬ p.1 + p.2 + 1 ≤ p.1 + p.2 := by omega
        have k2 : q.1 ≤ p.1 + p.2 + 1 := by omega
        have k3 : p.1 + p.2 + 1 ≤ q.1 + q.2 := by omega
        simp [k1, k2, k3] at this
      · by_cases c2 : q.2 < p.2
        · have := h (q.1 + q.2 + 1)
          rw [hasB_cons, hasB_cons, lb _ (by omega)] at this
          have k1 : ¬ q.1 + q.2 + 1 ≤ q.1 + q.2 := by omega
          have k2 : p.1 ≤ q.1 + q.2 + 1 := by omega
          have k3 : q.1 + q.2 + 1 ≤ p.1 + p.2 := by omega
          simp [k1, k2, k3] at this
        · omega
    have e : p = q := Prod.ext e1 e2
    subst e
    congr 1
    refine may_ext a3 b3 (wfR_tail wa) (wfR_tail wb) fun x => ?_
    by_cases c : x < p.1 + p.2 + 2
    · rw [la x c, lb x c]
    · have := h x
      rw [hasB_cons, hasB_cons] at this
      have c2 : ¬ x ≤ p.1 + p.2 := by omega
      simpa [c2] using this
theorem may_append : ∀ {r : List Run} {m : Int} {q : Run}, mayF m r = true → (∀ p, p ∈ r → p.1 + p.2 + 2 ≤ q.1) → m ≤ q.1 → q.1 + q.2 < 65536 → mayF m (r ++ [q]) = true
  | [], m, q, _, _, h1, h2 => mayF_cons.2 ⟨h1, h2, rfl⟩
  | p :: t, m, q, h, hb, h1, h2 => by
    obtain ⟨a1, a2, a3⟩ := mayF_cons.1 h
    exact mayF_cons.2 ⟨a1, a2, may_append a3 (fun p' hp => hb p' (by simp [hp])) (hb p (by simp)) h2⟩
theorem drop_nil {α : Type} {a : List α} {i : Nat} (h : a.drop i = []) (hi : i ≤ a.length) : i = a.length := by
  have := congrArg List.length h
  simp at this
  omega
theorem drop_cons {α : Type} {a : List α} {i : Nat} {x : α} {t : List α} (h : a.drop i = x :: t) (d : α) : i < a.length ∧ a.getD i d = x ∧ a.drop (i + 1) = t := by
  have hi : i < a.length := by
    have := congrArg List.length h
    simp at this
    omega
  rw [List.drop_eq_getElem_cons hi] at h
  simp only [List.cons.injEq] at h
  refine ⟨hi, ?_, h.2⟩
  simp [List.getD, hi, h.1]
def od (i : Nat) : Bool := i % 2 == 1
theorem od_succ (i : Nat) : od (i + 1) = !od i := by
  unfold od
  rcases Nat.mod_two_eq_zero_or_one i with h | h
  · have : (i + 1) % 2 = 1 := by omega
    simp [h, this]
  · have : (i + 1) % 2 = 0 := by omega
    simp [h, this]
theorem od_tmod (i : Nat) : decide (((i : Int).tmod 2) = 1) = od i := by
  unfold od
  have : (i : Int).tmod 2 = ((i % 2 : Nat) : Int) := by rw [Int.tmod_eq_emod_of_nonneg (by omega)]; omega
  rw [this]
  rcases Nat.mod_two_eq_zero_or_one i with h | h <;> simp [h]
def edgeAt : List Int → List Int → Int
  | x :: _, y :: _ => min x y
  | x :: _, [] => x
  | [], y :: _ => y
  | [], [] => 65537
def adv : List Int → Int → Nat
  | [], _ => 0
  | x :: _, t => if x ≤ t then 1 else 0
/-- One turn of the walk over two rows of edges. -/
def Turn (op : Bool → Bool → Bool) (a b : List Int) (L : Nat → List Run → Bool → Int → Nat → Nat → Option (List Run)) (k : Nat) (r : List Run) (on : Bool) (fr : Int) (i j : Nat) : Option (List Run) :=
  match a.drop i, b.drop j with
  | [], [] => some r
  | ra, rb =>
    let t := edgeAt ra rb
    let i' := i + adv ra t
    let j' := j + adv rb t
    let now := op (od i') (od j')
    bif now == on then L k r on fr i' j' else bif on then L k (r ++ [(fr, t - fr - 1)]) now t i' j' else L k r now t i' j'
structure EInv (op : Bool → Bool → Bool) (a b : List Int) (m : Int) (r : List Run) (on : Bool) (fr : Int) (i j : Nat) : Prop where
  m0 : 0 ≤ m
  m1 : m ≤ 65537
  ia : i ≤ a.length
  jb : j ≤ b.length
  sa : srt m (a.drop i)
  sb : srt m (b.drop j)
  pa : ∀ x, m - 1 ≤ x → par a x = (od i != par (a.drop i) x)
  pb : ∀ x, m - 1 ≤ x → par b x = (od j != par (b.drop j) x)
  on' : on = op (od i) (od j)
  fr' : on = true → 0 ≤ fr ∧ fr < m ∧ fr < 65536
  may : mayF 0 r = true
  wf : wfR r
  top : ∀ p, p ∈ r → p.1 + p.2 + 2 ≤ (if on then fr else m)
  has : ∀ x, x < m → (hasB r x || (on && decide (fr ≤ x))) = op (par a x) (par b x)
  len : r.length ≤ i + j
theorem has_top {r : List Run} {x : Int} (h : ∀ p, p ∈ r → p.1 + p.2 < x) : hasB r x = false := by
  unfold hasB
  rw [List.any_eq_false]
  intro p hp
  have := h p hp
  simp
  omega
theorem srt_at {m : Int} {l : List Int} (h : srt m l) (t : Int) (ht : ∀ x s, l = x :: s → t ≤ x) : srt (t + 1) (l.drop (adv l t)) ∧ adv l t ≤ l.length ∧ (∀ y, t ≤ y → par l y = (od (adv l t) != par (l.drop (adv l t)) y)) := by
  cases l with
  | nil => simp [adv, od, srt, par]
  | cons x s =>
    have := ht x s rfl
    obtain ⟨h1, h2, h3⟩ := h
    simp only [adv]
    split
    · have : x = t := by omega
      subst this
      refine ⟨by simpa using h3, by simp, fun y hy => ?_⟩
      simp [par, od, hy]
    · refine ⟨by simp; exact ⟨by omega, h2, h3⟩, by simp, fun y hy => ?_⟩
      simp [od]
theorem srt_low {m x : Int} {s : List Int} (h : srt m (x :: s)) : m ≤ x ∧ x ≤ 65536 := ⟨h.1, h.2.1⟩
theorem od_add (i j : Nat) : od (i + j) = (od i != od j) := by
  unfold od
  rcases Nat.mod_two_eq_zero_or_one i with h | h <;> rcases Nat.mod_two_eq_zero_or_one j with h' | h'
  · have : (i + j) % 2 = 0 := by omega
    simp [h, h', this]
  · have : (i + j) % 2 = 1 := by omega
    simp [h, h', this]
  · have : (i + j) % 2 = 1 := by omega
    simp [h, h', this]
  · have : (i + j) % 2 = 0 := by omega
    simp [h, h', this]
theorem xor3 (a b c : Bool) : (a != (b != c)) = ((a != b) != c) := by cases a <;> cases b <;> cases c <;> rfl
theorem par_high {x : Int} (hx : 65536 ≤ x) : ∀ {l : List Int} {m : Int}, srt m l → par l x = od l.length
  | [], _, _ => rfl
  | a :: t, m, ⟨h1, h2, h3⟩ => by
    have : a ≤ x := by omega
    simp only [par, par_high hx h3, List.length_cons, od_succ, this, decide_true]
    cases od t.length <;> rfl
/-- The invariant over one turn. -/
theorem EInv.turn {op : Bool → Bool → Bool} {a b : List Int} {m : Int} {r : List Run} {on : Bool} {fr : Int} {i j : Nat} (h : EInv op a b m r on fr i j)
    (hop : op false false = false) (za : srt 0 a) (zb : srt 0 b) (ea : od a.length = false) (eb : od b.length = false) (hne : ¬ (a.drop i = [] ∧ b.drop j = [])) :
    let t := edgeAt (a.drop i) (b.drop j)
    let i' := i + adv (a.drop i) t
    let j' := j + adv (b.drop j) t
    let now := op (od i') (od j')
    m ≤ t ∧ t ≤ 65536 ∧ i + j < i' + j' ∧ (now = on → EInv op a b (t + 1) r on fr i' j') ∧ (now ≠ on → on = true → EInv op a b (t + 1) (r ++ [(fr, t - fr - 1)]) now t i' j') ∧ (now ≠ on → on = false → EInv op a b (t + 1) r now t i' j') := by
  intro t i' j' now
  have hta : ∀ x s, a.drop i = x :: s → t ≤ x := by
    intro x s e
    show edgeAt (a.drop i) (b.drop j) ≤ x
    rw [e]
    cases b.drop j with
    | nil => exact Int.le_refl _
    | cons y u => exact Int.min_le_left _ _
  have htb : ∀ x s, b.drop j = x :: s → t ≤ x := by
    intro x s e
    show edgeAt (a.drop i) (b.drop j) ≤ x
    rw [e]
    cases a.drop i with
    | nil => exact Int.le_refl _
    | cons y u => exact Int.min_le_right _ _
  have ht : m ≤ t ∧ t ≤ 65536 ∧ 1 ≤ adv (a.drop i) t + adv (b.drop j) t := by
    have sa := h.sa
    have sb := h.sb
    show m ≤ edgeAt (a.drop i) (b.drop j) ∧ edgeAt (a.drop i) (b.drop j) ≤ 65536 ∧ 1 ≤ adv (a.drop i) (edgeAt (a.drop i) (b.drop j)) + adv (b.drop j) (edgeAt (a.drop i) (b.drop j))
    cases e1 : a.drop i with
    | nil =>
      cases e2 : b.drop j with
      | nil => exact absurd ⟨e1, e2⟩ hne
      | cons y u =>
        rw [e2] at sb
        have := srt_low sb
        simp only [edgeAt, adv]
        simp
        omega
    | cons x s =>
      rw [e1] at sa
      have := srt_low sa
      cases e2 : b.drop j with
      | nil =>
        simp only [edgeAt, adv]
        simp
        omega
      | cons y u =>
        rw [e2] at sb
        have := srt_low sb
        simp only [adv]
        have hT : edgeAt (x :: s) (y :: u) = min x y := rfl
        generalize edgeAt (x :: s) (y :: u) = T at hT
        refine ⟨by omega, by omega, ?_⟩
        by_cases c : x ≤ y
        · have : x ≤ T := by omega
          rw [if_pos this]
          omega
        · have : y ≤ T := by omega
          rw [if_pos this]
          omega
  obtain ⟨t0, t1, t2⟩ := ht
  obtain ⟨sa1, sa2, sa3⟩ := srt_at h.sa t hta
  obtain ⟨sb1, sb2, sb3⟩ := srt_at h.sb t htb
  have da : (a.drop i).drop (adv (a.drop i) t) = a.drop i' := by rw [List.drop_drop]
  have db : (b.drop j).drop (adv (b.drop j) t) = b.drop j' := by rw [List.drop_drop]
  rw [da] at sa1 sa3
  rw [db] at sb1 sb3
  have ia : i' ≤ a.length := by have := h.ia; simp at sa2; omega
  have jb : j' ≤ b.length := by have := h.jb; simp at sb2; omega
  have m0 := h.m0
  have pa : ∀ x, t + 1 - 1 ≤ x → par a x = (od i' != par (a.drop i') x) := by
    intro x hx
    rw [h.pa x (by omega), sa3 x (by omega), xor3, ← od_add]
  have pb : ∀ x, t + 1 - 1 ≤ x → par b x = (od j' != par (b.drop j') x) := by
    intro x hx
    rw [h.pb x (by omega), sb3 x (by omega), xor3, ← od_add]
  have pat : par a t = od i' := by
    rw [pa t (by omega), par_low sa1 (by omega)]
    simp
  have pbt : par b t = od j' := by
    rw [pb t (by omega), par_low sb1 (by omega)]
    simp
  have mid : ∀ x, m ≤ x → x < t → op (par a x) (par b x) = on := by
    intro x h1 h2
    have ea : par (a.drop i) x = false := by
      cases e : a.drop i with
      | nil => rfl
      | cons y s =>
        have := hta y s e
        have sa := h.sa
        rw [e] at sa
        exact par_low (m := y) ⟨Int.le_refl _, sa.2⟩ (by omega)
    have eb : par (b.drop j) x = false := by
      cases e : b.drop j with
      | nil => rfl
      | cons y s =>
        have := htb y s e
        have sb := h.sb
        rw [e] at sb
        exact par_low (m := y) ⟨Int.le_refl _, sb.2⟩ (by omega)
    rw [h.pa x (by omega), h.pb x (by omega), ea, eb, h.on']
    simp
  have lenI : r.length + 1 ≤ i' + j' := by have := h.len; omega
  refine ⟨t0, t1, by omega, fun hn => ?_, fun hn ho => ?_, fun hn ho => ?_⟩
  · refine ⟨by omega, by omega, ia, jb, sa1, sb1, pa, pb, hn.symm, fun ho => ?_, h.may, h.wf, fun p hp => ?_, fun x hx => ?_, by omega⟩
    · have := h.fr' ho
      omega
    · have q1 := h.top p hp
      cases on with
      | true => exact q1
      | false =>
        simp only [Bool.false_eq_true, if_false] at q1 ⊢
        omega
    · by_cases c : x < m
      · exact h.has x c
      · have hr : hasB r x = false := has_top fun p hp => by
          have q1 := h.top p hp
          have q2 := h.fr'
          cases on with
          | true =>
            have := q2 rfl
            simp only [if_true] at q1
            omega
          | false =>
            simp only [Bool.false_eq_true, if_false] at q1
            omega
        rw [hr]
        by_cases c2 : x < t
        · rw [mid x (by omega) c2]
          cases hon : on with
          | false => simp
          | true =>
            have := h.fr' hon
            simp
            omega
        · have : x = t := by omega
          subst this
          rw [pat, pbt]
          show _ = now
          rw [hn]
          cases hon : on with
          | false => simp
          | true =>
            have := h.fr' hon
            simp
            omega
  · subst ho
    have nf : now = false := by cases hnn : now <;> simp_all
    obtain ⟨f1, f2, f3⟩ := h.fr' rfl
    have top := h.top
    simp only [if_true] at top
    rw [nf]
    refine ⟨by omega, by omega, ia, jb, sa1, sb1, pa, pb, nf.symm, fun h => by simp at h, may_append h.may top f1 (by show fr + (t - fr - 1) < 65536; omega), ?_, ?_, fun x hx => ?_, by simp; omega⟩
    · intro p hp
      rw [List.mem_append] at hp
      rcases hp with hp | hp
      · exact h.wf p hp
      · simp at hp
        subst hp
        refine ⟨f1, f3, ?_, ?_⟩ <;> show _ <;> simp <;> omega
    · intro p hp
      rw [List.mem_append] at hp
      simp only [Bool.false_eq_true, if_false]
      rcases hp with hp | hp
      · have := top p hp
        omega
      · simp at hp
        subst hp
        simp
        omega
    · rw [hasB_append, hasB_cons, hasB_nil]
      simp only [Bool.or_false, Bool.false_and]
      by_cases c : x < m
      · rw [← h.has x c]
        congr 1
        simp only [Bool.true_and]
        have : x ≤ fr + (t - fr - 1) := by omega
        simp [this]
      · have hr : hasB r x = false := has_top fun p hp => by
          have := top p hp
          omega
        rw [hr]
        by_cases c2 : x < t
        · rw [mid x (by omega) c2]
          simp
          omega
        · have : x = t := by omega
          subst this
          rw [pat, pbt]
          show _ = now
          rw [nf]
          simp
          omega
  · subst ho
    have nt : now = true := by cases hnn : now <;> simp_all
    have top := h.top
    simp only [Bool.false_eq_true, if_false] at top
    rw [nt]
    have t3 : t < 65536 ∨ t = 65536 := by omega
    refine ⟨by omega, by omega, ia, jb, sa1, sb1, pa, pb, nt.symm, fun _ => ⟨by omega, by omega, ?_⟩, h.may, h.wf, fun p hp => ?_, fun x hx => ?_, by omega⟩
    · rcases t3 with t3 | t3
      · exact t3
      · exfalso
        have e1 : od i' = false := by rw [← pat, par_high (by omega) za, ea]
        have e2 : od j' = false := by rw [← pbt, par_high (by omega) zb, eb]
        have : now = op (od i') (od j') := rfl
        rw [e1, e2, hop, nt] at this
        cases this
    · have := top p hp
      simp
      omega
    · by_cases c : x < m
      · rw [← h.has x c]
        simp
        omega
      · have hr : hasB r x = false := has_top fun p hp => by
          have := top p hp
          omega
        rw [hr]
        by_cases c2 : x < t
        · rw [mid x (by omega) c2]
          simp
          omega
        · have : x = t := by omega
          subst this
          rw [pat, pbt]
          show _ = now
          rw [nt]
          simp
/-- The whole walk. -/
structure Good (op : Bool → Bool → Bool) (a b : List Int) (r : List Run) : Prop where
  may : mayF 0 r = true
  wf : wfR r
  has : ∀ x, hasB r x = op (par a x) (par b x)
  len : r.length ≤ a.length + b.length
theorem walk_good {op : Bool → Bool → Bool} {a b : List Int} (hop : op false false = false) (za : srt 0 a) (zb : srt 0 b) (ea : od a.length = false) (eb : od b.length = false)
    {L : Nat → List Run → Bool → Int → Nat → Nat → Option (List Run)} {K : Nat}
    (hL : ∀ k m r on fr i j, K ≤ k → EInv op a b m r on fr i j → L (k + 1) r on fr i j = Turn op a b L k r on fr i j) :
    ∀ (n : Nat) (k : Nat) (m : Int) (r : List Run) (on : Bool) (fr : Int) (i j : Nat), a.length + b.length - (i + j) ≤ n → K + n + 1 ≤ k → EInv op a b m r on fr i j → ∃ r', L k r on fr i j = some r' ∧ Good op a b r'
  | n, 0, m, r, on, fr, i, j, hn, hk, h => by omega
  | n, k + 1, m, r, on, fr, i, j, hn, hk, h => by
    rw [hL k m r on fr i j (by omega) h]
    by_cases hne : a.drop i = [] ∧ b.drop j = []
    · refine ⟨r, by unfold Turn; rw [hne.1, hne.2], h.may, h.wf, fun x => ?_, by have := h.len; have := h.ia; have := h.jb; omega⟩
      have i1 := drop_nil hne.1 h.ia
      have j1 := drop_nil hne.2 h.jb
      have on0 : on = false := by rw [h.on', i1, j1, ea, eb, hop]
      by_cases c : x < m
      · have := h.has x c
        rw [on0] at this
        simpa using this
      · have top := h.top
        rw [on0] at top
        simp only [Bool.false_eq_true, if_false] at top
        rw [h.pa x (by omega), h.pb x (by omega), hne.1, hne.2, i1, j1, ea, eb]
        show _ = op (false != false) (false != false)
        rw [show (false != false) = false from rfl, hop]
        exact has_top fun p hp => by
          have := top p hp
          omega
    · obtain ⟨t0, t1, t2, q1, q2, q3⟩ := h.turn hop za zb ea eb hne
      have ia := h.ia
      have jb := h.jb
      have hT : Turn op a b L k r on fr i j =
          (bif (op (od (i + adv (a.drop i) (edgeAt (a.drop i) (b.drop j)))) (od (j + adv (b.drop j) (edgeAt (a.drop i) (b.drop j)))) == on) then L k r on fr (i + adv (a.drop i) (edgeAt (a.drop i) (b.drop j))) (j + adv (b.drop j) (edgeAt (a.drop i) (b.drop j)))
           else bif on then L k (r ++ [(fr, edgeAt (a.drop i) (b.drop j) - fr - 1)]) (op (od (i + adv (a.drop i) (edgeAt (a.drop i) (b.drop j)))) (od (j + adv (b.drop j) (edgeAt (a.drop i) (b.drop j))))) (edgeAt (a.drop i) (b.drop j)) (i + adv (a.drop i) (edgeAt (a.drop i) (b.drop j))) (j + adv (b.drop j) (edgeAt (a.drop i) (b.drop j)))
           else L k r (op (od (i + adv (a.drop i) (edgeAt (a.drop i) (b.drop j)))) (od (j + adv (b.drop j) (edgeAt (a.drop i) (b.drop j))))) (edgeAt (a.drop i) (b.drop j)) (i + adv (a.drop i) (edgeAt (a.drop i) (b.drop j))) (j + adv (b.drop j) (edgeAt (a.drop i) (b.drop j)))) := by
        unfold Turn
        split
        · rename_i e1 e2
          exact absurd ⟨e1, e2⟩ hne
        · rfl
      rw [hT]
      generalize edgeAt (a.drop i) (b.drop j) = t at *
      generalize i + adv (a.drop i) t = i' at *
      generalize j + adv (b.drop j) t = j' at *
      generalize op (od i') (od j') = now at *
      cases hn1 : (now == on) with
      | true =>
        have := q1 (by simpa using hn1)
        have l1 := this.ia
        have l2 := this.jb
        exact walk_good hop za zb ea eb hL (n - 1) k _ _ _ _ _ _ (by omega) (by omega) this
      | false =>
        have hn2 : now ≠ on := by simpa using hn1
        cases on with
        | true =>
          have := q2 hn2 rfl
          have l1 := this.ia
          have l2 := this.jb
          exact walk_good hop za zb ea eb hL (n - 1) k _ _ _ _ _ _ (by omega) (by omega) this
        | false =>
          have := q3 hn2 rfl
          have l1 := this.ia
          have l2 := this.jb
          exact walk_good hop za zb ea eb hL (n - 1) k _ _ _ _ _ _ (by omega) (by omega) this
theorem einv0 {op : Bool → Bool → Bool} {a b : List Int} (hop : op false false = false) (za : srt 0 a) (zb : srt 0 b) : EInv op a b 0 [] false 0 0 0 := by
  refine ⟨by omega, by omega, by omega, by omega, by simpa using za, by simpa using zb, fun x _ => by simp [od], fun x _ => by simp [od], by simp [od, hop], (fun h => nomatch h), rfl, (fun p hp => nomatch hp), (fun p hp => nomatch hp), fun x hx => ?_, by simp⟩
  rw [par_low za hx, par_low zb hx, hop]
  rfl
theorem walk_all {op : Bool → Bool → Bool} {a b : List Int} (hop : op false false = false) (za : srt 0 a) (zb : srt 0 b) (ea : od a.length = false) (eb : od b.length = false)
    {L : Nat → List Run → Bool → Int → Nat → Nat → Option (List Run)} {K : Nat}
    (hL : ∀ k m r on fr i j, K ≤ k → EInv op a b m r on fr i j → L (k + 1) r on fr i j = Turn op a b L k r on fr i j) (k : Nat) (hk : K + a.length + b.length + 1 ≤ k) :
    ∃ r', L k [] false 0 0 0 = some r' ∧ Good op a b r' :=
  walk_good hop za zb ea eb hL (a.length + b.length) k 0 [] false 0 0 0 (by omega) (by omega) (einv0 hop za zb)
end Go.Rx.Plain
/-! Runs counted: how many numbers, how many below a place, the k-th; in plain Lean. -/
namespace Go.Rx.Plain
set_option linter.unusedVariables false
def cnt (f : Int → Bool) : Nat → Int
  | 0 => 0
  | n + 1 => cnt f n + cond (f n) 1 0
def lenF : List Run → Int
  | [] => 0
  | p :: t => (p.2 + 1) + lenF t
def rankF : List Run → Int → Int
  | [], _ => 0
  | p :: t, x => min (max (x - p.1) 0) (p.2 + 1) + rankF t x
def selF : List Run → Int → List Run × Int
  | [], k => ([], k)
  | p :: t, k => if k ≤ p.2 then (p :: t, k) else selF t (k - (p.2 + 1))
theorem cnt_congr {f g : Int → Bool} (n : Nat) (h : ∀ i : Int, f i = g i) : cnt f n = cnt g n := by
  induction n with
  | zero => rfl
  | succ n ih => simp only [cnt, ih, h]
theorem cnt_or {f g : Int → Bool} (n : Nat) (h : ∀ i, f i = true → g i = true → False) : cnt (fun i => f i || g i) n = cnt f n + cnt g n := by
  induction n with
  | zero => rfl
  | succ n ih =>
    simp only [cnt, ih]
    have := h n
    generalize f (n : Int) = x at *
    generalize g (n : Int) = y at *
    cases x <;> cases y <;> simp at * <;> omega
theorem cnt_one (a b : Int) (h0 : 0 ≤ a) (hb : 0 ≤ b) (n : Nat) : cnt (fun i => decide (a ≤ i) && decide (i ≤ a + b)) n = min (max ((n : Int) - a) 0) (b + 1) := by
  induction n with
  | zero => simp only [cnt]; omega
  | succ n ih =>
    simp only [cnt, ih]
    by_cases q1 : a ≤ (n : Int) <;> by_cases q2 : (n : Int) ≤ a + b <;> simp [q1, q2] <;> omega
theorem cnt_false (n : Nat) : cnt (fun _ => false) n = 0 := by
  induction n with
  | zero => rfl
  | succ n ih => simp [cnt, ih]
theorem rank_cnt : ∀ {r : List Run} {m : Int} (n : Nat), mayF m r = true → wfR r → rankF r n = cnt (hasB r) n
  | [], _, n, _, _ => by
    rw [cnt_congr (f := hasB []) n (g := fun _ => false) (fun i => rfl), cnt_false]
    rfl
  | p :: t, m, n, h, hw => by
    obtain ⟨h1, h2, h3⟩ := mayF_cons.1 h
    have hp := wfR_head hw
    have e : ∀ i, hasB (p :: t) i = ((decide (p.1 ≤ i) && decide (i ≤ p.1 + p.2)) || hasB t i) := fun i => rfl
    rw [cnt_congr n e, cnt_or n (g := hasB t), cnt_one _ _ hp.1 hp.2.2.1, rankF, rank_cnt n h3 (wfR_tail hw)]
    intro i hi hj
    simp at hi
    rw [may_low (x := i) h3 (wfR_tail hw) (by omega)] at hj
    cases hj
theorem rank_len : ∀ {r : List Run} {m x : Int}, mayF m r = true → wfR r → 65536 ≤ x → rankF r x = lenF r
  | [], _, _, _, _, _ => rfl
  | p :: t, m, x, h, hw, hx => by
    obtain ⟨h1, h2, h3⟩ := mayF_cons.1 h
    have hp := wfR_head hw
    rw [rankF, lenF, rank_len h3 (wfR_tail hw) hx]
    congr 1
    omega
theorem len_cnt {r : List Run} {m : Int} (h : mayF m r = true) (hw : wfR r) : lenF r = cnt (hasB r) 65536 := by
  rw [← rank_len h hw (x := ((65536 : Nat) : Int)) (by omega), rank_cnt 65536 h hw]
theorem rank_low : ∀ {r : List Run} {m x : Int}, mayF m r = true → wfR r → x ≤ m → rankF r x = 0
  | [], _, _, _, _, _ => rfl
  | p :: t, m, x, h, hw, hx => by
    obtain ⟨h1, h2, h3⟩ := mayF_cons.1 h
    have hp := wfR_head hw
    rw [rankF, rank_low h3 (wfR_tail hw) (by omega)]
    omega
theorem len_nonneg : ∀ {r : List Run}, wfR r → 0 ≤ lenF r
  | [], _ => by simp [lenF]
  | p :: t, hw => by
    have := len_nonneg (wfR_tail hw)
    have hp := wfR_head hw
    rw [lenF]
    omega
theorem len_le : ∀ {r : List Run}, wfR r → lenF r ≤ 65536 * (r.length : Int)
  | [], _ => by simp [lenF]
  | p :: t, hw => by
    have := len_le (wfR_tail hw)
    have hp := wfR_head hw
    rw [lenF]
    simp only [List.length_cons]
    omega
theorem rank_le : ∀ {r : List Run} {x : Int}, wfR r → 0 ≤ rankF r x ∧ rankF r x ≤ lenF r
  | [], _, _ => by simp [lenF, rankF]
  | p :: t, x, hw => by
    have := rank_le (x := x) (wfR_tail hw)
    have hp := wfR_head hw
    rw [lenF, rankF]
    omega
/-- What the k-th number is: so many are below it; it is there; one more is below what follows it. -/
theorem sel_ok : ∀ {r : List Run} {m k : Int}, mayF m r = true → wfR r → 0 ≤ k → ∀ (p : Run) (t : List Run) (k' : Int), selF r k = (p :: t, k') →
    0 ≤ k' ∧ k' ≤ p.2 ∧ m ≤ p.1 ∧ p.1 + p.2 < 65536 ∧ 0 ≤ p.1 ∧ rankF r (p.1 + k') = k ∧ rankF r (p.1 + k' + 1) = k + 1 ∧ hasB r (p.1 + k') = true
  | [], m, k, _, _, _, p, t, k', h => by cases h
  | q :: s, m, k, hm, hw, hk, p, t, k', h => by
    obtain ⟨h1, h2, h3⟩ := mayF_cons.1 hm
    have hq := wfR_head hw
    rw [selF] at h
    split at h
    · rename_i c
      cases h
      refine ⟨hk, c, h1, h2, hq.1, ?_, ?_, ?_⟩
      · rw [rankF, rank_low h3 (wfR_tail hw) (by omega)]
        omega
      · rw [rankF, rank_low h3 (wfR_tail hw) (by omega)]
        omega
      · rw [hasB_cons]
        simp
        omega
    · rename_i c
      obtain ⟨i1, i2, i3, i4, i5, i6, i7, i8⟩ := sel_ok h3 (wfR_tail hw) (by omega) p t k' h
      refine ⟨i1, i2, by omega, i4, i5, ?_, ?_, ?_⟩
      · rw [rankF, i6]
        omega
      · rw [rankF, i7]
        omega
      · rw [hasB_cons, i8]
        simp
theorem sel_neg {r : List Run} {k : Int} (hw : wfR r) (hk : k < 0) : selF r k = (r, k) := by
  cases r with
  | nil => rfl
  | cons p t =>
    have hp := wfR_head hw
    rw [selF, if_pos (by omega)]
def headIs (s : List Run) (x : Int) : Bool := match s with | q :: _ => decide (q.1 = x) | [] => false
def lastIn (l : List Run) (x : Int) : Bool := match l.getLast? with | some p => decide (x < p.1 + p.2 + 1) | none => false
/-- A number, by the runs that begin below it and those that do not. -/
theorem has_split {x : Int} : ∀ {l s : List Run} {m : Int}, mayF m (l ++ s) = true → wfR (l ++ s) → (∀ p, p ∈ l → p.1 < x) → (∀ q, q ∈ s → x ≤ q.1) →
    hasB (l ++ s) x = (headIs s x || lastIn l x)
  | [], [], m, _, _, _, _ => rfl
  | [], q :: t, m, h, hw, hl, hs => by
    obtain ⟨h1, h2, h3⟩ := mayF_cons.1 h
    have hq := wfR_head hw
    have := hs q (by simp)
    have hw' : wfR t := wfR_tail hw
    have h3' : mayF (q.1 + q.2 + 2) t = true := h3
    rw [List.nil_append, hasB_cons, may_low h3' hw' (by omega)]
    rw [Bool.eq_iff_iff]
    simp [headIs, lastIn]
    omega
  | [p], s, m, h, hw, hl, hs => by
    obtain ⟨h1, h2, h3⟩ := mayF_cons.1 h
    have hp := wfR_head hw
    have := hl p (by simp)
    have ih := has_split (x := x) (l := []) (s := s) h3 (wfR_tail hw) (fun p hp => nomatch hp) hs
    rw [List.nil_append] at ih
    rw [List.singleton_append, hasB_cons, ih]
    rw [Bool.eq_iff_iff]
    simp [lastIn]
    have e : (p.1 ≤ x ∧ x ≤ p.1 + p.2) ↔ x < p.1 + p.2 + 1 := by omega
    rw [e]
    exact Or.comm
  | p :: p' :: l, s, m, h, hw, hl, hs => by
    obtain ⟨h1, h2, h3⟩ := mayF_cons.1 h
    obtain ⟨h4, h5, h6⟩ := mayF_cons.1 h3
    have hp := wfR_head hw
    have := hl p (by simp)
    have := hl p' (by simp)
    have ih := has_split (x := x) (l := p' :: l) (s := s) h3 (wfR_tail hw) (fun q hq => hl q (by simp [hq])) hs
    have e : (p :: p' :: l) ++ s = p :: ((p' :: l) ++ s) := rfl
    rw [e, hasB_cons, ih]
    have : ¬ x ≤ p.1 + p.2 := by omega
    simp [this, lastIn]
end Go.Rx.Plain
/-! Bits of words, in plain Lean: the bits that are set, how many, the lowest one. -/
namespace Go.Rx.Plain
set_option linter.unusedVariables false
set_option linter.unusedSimpArgs false
theorem land_split {k a b c d : Nat} (ha : a < 2 ^ k) (hc : c < 2 ^ k) : (a + 2 ^ k * b) &&& (c + 2 ^ k * d) = (a &&& c) + 2 ^ k * (b &&& d) := by
  apply Nat.eq_of_testBit_eq
  intro i
  rw [Nat.add_comm a, Nat.add_comm c, Nat.add_comm (a &&& c), Nat.testBit_and, Nat.testBit_two_pow_mul_add b ha, Nat.testBit_two_pow_mul_add d hc, Nat.testBit_two_pow_mul_add _ (Nat.lt_of_le_of_lt Nat.and_le_left ha)]
  split <;> simp
/-- The set bits among the n lowest ones, rising. -/
def bitsL : Nat → Nat → List Nat
  | 0, _ => []
  | n + 1, x => (if x % 2 = 1 then [0] else []) ++ (bitsL n (x / 2)).map (· + 1)
def pc (n x : Nat) : Nat := (bitsL n x).length
theorem pc_succ (n x : Nat) : pc (n + 1) x = x % 2 + pc n (x / 2) := by
  unfold pc
  simp only [bitsL, List.length_append, List.length_map]
  split
  · rename_i h; simp [h]
  · have : x % 2 = 0 := by omega
    simp [this]
theorem pc_le : ∀ n x, pc n x ≤ n
  | 0, _ => by simp [pc, bitsL]
  | n + 1, x => by
    have := pc_le n (x / 2)
    rw [pc_succ]
    omega
theorem pc_add (n : Nat) : ∀ (m x : Nat), pc (m + n) x = pc m x + pc n (x / 2 ^ m)
  | 0, x => by simp [pc, bitsL]
  | m + 1, x => by
    rw [show m + 1 + n = (m + n) + 1 by omega, pc_succ, pc_add n m, pc_succ, Nat.div_div_eq_div_mul, Nat.pow_succ, Nat.mul_comm 2]
    omega
theorem pc_mod : ∀ (n x : Nat), pc n (x % 2 ^ n) = pc n x
  | 0, _ => rfl
  | n + 1, x => by
    rw [pc_succ, pc_succ]
    have e1 : x % 2 ^ (n + 1) % 2 = x % 2 := Nat.mod_mod_of_dvd _ ⟨2 ^ n, by rw [Nat.pow_succ, Nat.mul_comm]⟩
    have e2 : x % 2 ^ (n + 1) / 2 = (x / 2) % 2 ^ n := by rw [Nat.pow_succ, Nat.mul_comm, Nat.mod_mul_right_div_self]
    rw [e1, e2, pc_mod n]
/-! ### How many: the well-known sum by parts, byte for byte -/
def msk (c : Nat) : Nat → Nat
  | 0 => 0
  | n + 1 => c + 256 * msk c n
def S1 (n x : Nat) : Nat := ((x / 2) &&& msk 0x55 n) + (x &&& msk 0x55 n)
def S2 (n x : Nat) : Nat := ((x / 4) &&& msk 0x33 n) + (x &&& msk 0x33 n)
def S3 (n x : Nat) : Nat := (x / 16 + x) &&& msk 0x0f n
def h1 (b : Nat) : Nat := ((b / 2) &&& 0x55) + (b &&& 0x55)
def h2 (b : Nat) : Nat := ((b / 4) &&& 0x33) + (b &&& 0x33)
theorem split256 {a b c d : Nat} (ha : a < 256) (hc : c < 256) : (a + 256 * b) &&& (c + 256 * d) = (a &&& c) + 256 * (b &&& d) := land_split (k := 8) ha hc
theorem dec1 : ∀ b, b < 256 → ∀ e, e < 2 → (b / 2 + 128 * e) &&& 0x55 = (b / 2) &&& 0x55 := by decide +kernel
theorem dec2 : ∀ b, b < 256 → ∀ e, e < 4 → (b / 4 + 64 * e) &&& 0x33 = (b / 4) &&& 0x33 := by decide +kernel
theorem dec3 : ∀ b, b < 256 → h1 b < 256 ∧ h2 (h1 b) < 256 ∧ h2 (h1 b) % 16 ≤ 4 ∧ h2 (h1 b) / 16 ≤ 4 ∧ (h2 (h1 b) / 16 + h2 (h1 b)) % 16 = pc 8 b ∧ h2 b < 256 := by decide +kernel
theorem S1_succ (n x : Nat) : S1 (n + 1) x = h1 (x % 256) + 256 * S1 n (x / 256) := by
  have em : msk 0x55 (n + 1) = 0x55 + 256 * msk 0x55 n := rfl
  unfold S1 h1
  rw [em]
  have e1 : x / 2 = (x % 256 / 2 + 128 * (x / 256 % 2)) + 256 * (x / 256 / 2) := by omega
  have e2 : x = x % 256 + 256 * (x / 256) := by omega
  have l1 : x % 256 / 2 + 128 * (x / 256 % 2) < 256 := by omega
  have l2 : x % 256 < 256 := by omega
  rw [e1, split256 l1 (by omega), dec1 _ l2 _ (by omega)]
  conv => lhs; rhs; lhs; rw [e2]
  rw [split256 l2 (by omega)]
  omega
theorem S2_succ (n x : Nat) : S2 (n + 1) x = h2 (x % 256) + 256 * S2 n (x / 256) := by
  have em : msk 0x33 (n + 1) = 0x33 + 256 * msk 0x33 n := rfl
  unfold S2 h2
  rw [em]
  have e1 : x / 4 = (x % 256 / 4 + 64 * (x / 256 % 4)) + 256 * (x / 256 / 4) := by omega
  have e2 : x = x % 256 + 256 * (x / 256) := by omega
  have l1 : x % 256 / 4 + 64 * (x / 256 % 4) < 256 := by omega
  have l2 : x % 256 < 256 := by omega
  rw [e1, split256 l1 (by omega), dec2 _ l2 _ (by omega)]
  conv => lhs; rhs; lhs; rw [e2]
  rw [split256 l2 (by omega)]
  omega
theorem S3_succ (n x : Nat) (h : x % 16 ≤ 4) (h2 : x % 256 / 16 ≤ 4) (h3 : x / 256 % 16 ≤ 4) : S3 (n + 1) x = (x % 256 / 16 + x % 256) % 16 + 256 * S3 n (x / 256) := by
  have em : msk 0x0f (n + 1) = 0x0f + 256 * msk 0x0f n := rfl
  unfold S3
  rw [em]
  have e1 : x / 16 + x = (x % 256 / 16 + 16 * (x / 256 % 16) + x % 256) + 256 * (x / 256 / 16 + x / 256) := by omega
  have l1 : x % 256 / 16 + 16 * (x / 256 % 16) + x % 256 < 256 := by omega
  rw [e1, split256 l1 (by omega)]
  have e3 : (x % 256 / 16 + 16 * (x / 256 % 16) + x % 256) &&& 15 = (x % 256 / 16 + x % 256) % 16 := by
    rw [show (15 : Nat) = 2 ^ 4 - 1 from rfl, Nat.and_two_pow_sub_one_eq_mod]
    omega
  rw [e3]
theorem S21 (n x : Nat) : S2 (n + 1) (S1 (n + 1) x) % 256 = h2 (h1 (x % 256)) ∧ S2 (n + 1) (S1 (n + 1) x) / 256 = S2 n (S1 n (x / 256)) := by
  have d := dec3 (x % 256) (by omega)
  rw [S1_succ, S2_succ]
  have e1 : (h1 (x % 256) + 256 * S1 n (x / 256)) % 256 = h1 (x % 256) := by omega
  have e2 : (h1 (x % 256) + 256 * S1 n (x / 256)) / 256 = S1 n (x / 256) := by omega
  rw [e1, e2]
  omega
theorem S21_low : ∀ n x, S2 n (S1 n x) % 16 ≤ 4
  | 0, x => by simp [S2, msk]
  | n + 1, x => by
    have := (S21 n x).1
    have d := dec3 (x % 256) (by omega)
    omega
theorem S321 (n x : Nat) : S3 (n + 1) (S2 (n + 1) (S1 (n + 1) x)) = pc 8 (x % 256) + 256 * S3 n (S2 n (S1 n (x / 256))) := by
  have d := dec3 (x % 256) (by omega)
  obtain ⟨q1, q2⟩ := S21 n x
  rw [S3_succ _ _ (S21_low _ _) (by rw [q1]; omega) (by rw [q2]; exact S21_low _ _), q1, q2]
  omega
theorem S3_zero (x : Nat) : S3 0 x = 0 := by simp [S3, msk]
theorem ones_eq (x : Nat) (hx : x < 2 ^ 64) : ∃ d0 d1 d2 d3 d4 d5 d6 d7 : Nat, S3 8 (S2 8 (S1 8 x)) = d0 + 256 * (d1 + 256 * (d2 + 256 * (d3 + 256 * (d4 + 256 * (d5 + 256 * (d6 + 256 * d7)))))) ∧
    d0 ≤ 8 ∧ d1 ≤ 8 ∧ d2 ≤ 8 ∧ d3 ≤ 8 ∧ d4 ≤ 8 ∧ d5 ≤ 8 ∧ d6 ≤ 8 ∧ d7 ≤ 8 ∧ d0 + d1 + d2 + d3 + d4 + d5 + d6 + d7 = pc 64 x := by
  refine ⟨pc 8 (x % 256), pc 8 (x / 256 % 256), pc 8 (x / 256 / 256 % 256), pc 8 (x / 256 / 256 / 256 % 256), pc 8 (x / 256 / 256 / 256 / 256 % 256), pc 8 (x / 256 / 256 / 256 / 256 / 256 % 256),
    pc 8 (x / 256 / 256 / 256 / 256 / 256 / 256 % 256), pc 8 (x / 256 / 256 / 256 / 256 / 256 / 256 / 256 % 256), ?_, pc_le _ _, pc_le _ _, pc_le _ _, pc_le _ _, pc_le _ _, pc_le _ _, pc_le _ _, pc_le _ _, ?_⟩
  · rw [S321, S321, S321, S321, S321, S321, S321, S321, S3_zero, Nat.mul_zero, Nat.add_zero]
  · have m : ∀ y, pc 8 (y % 256) = pc 8 y := pc_mod 8
    rw [m, m, m, m, m, m, m, m]
    have s : ∀ n y, pc (8 + n) y = pc 8 y + pc n (y / 256) := fun n y => pc_add n 8 y
    rw [show (64 : Nat) = 8 + (8 + (8 + (8 + (8 + (8 + (8 + 8)))))) from rfl, s, s, s, s, s, s, s]
    omega
theorem fold8 {d0 d1 d2 d3 d4 d5 d6 d7 v v2 v3 : Nat} (b0 : d0 ≤ 8) (b1 : d1 ≤ 8) (b2 : d2 ≤ 8) (b3 : d3 ≤ 8) (b4 : d4 ≤ 8) (b5 : d5 ≤ 8) (b6 : d6 ≤ 8) (b7 : d7 ≤ 8)
    (hv : d0 + 256 * (d1 + 256 * (d2 + 256 * (d3 + 256 * (d4 + 256 * (d5 + 256 * (d6 + 256 * d7)))))) = v) (hv2 : v + v / 256 = v2) (hv3 : v2 + v2 / 65536 = v3) :
    v < 1152921504606846976 ∧ v2 < 2305843009213693952 ∧ v3 < 4611686018427387904 ∧ (v3 + v3 / 4294967296) % 128 = d0 + d1 + d2 + d3 + d4 + d5 + d6 + d7 := by
  have k1 : v < 1152921504606846976 := by clear hv2 hv3; omega
  have k2 : v2 < 2305843009213693952 := by clear hv hv3; omega
  have k3 : v3 < 4611686018427387904 := by clear hv hv2; omega
  refine ⟨k1, k2, k3, ?_⟩
  clear k1 k2 k3
  have hA : v / 256 = d1 + 256 * (d2 + 256 * (d3 + 256 * (d4 + 256 * (d5 + 256 * (d6 + 256 * d7))))) := by clear hv2 hv3; omega
  rw [hA] at hv2
  have hB0 : v2 = (d0 + d1 + 256 * (d1 + d2)) + 65536 * (d2 + d3 + 256 * (d3 + d4) + 65536 * (d4 + d5 + 256 * (d5 + d6) + 65536 * (d6 + d7 + 256 * d7))) := by clear hA hv3; omega
  have hB : v2 / 65536 = d2 + d3 + 256 * (d3 + d4) + 65536 * (d4 + d5 + 256 * (d5 + d6) + 65536 * (d6 + d7 + 256 * d7)) := by
    rw [hB0]
    generalize d2 + d3 + 256 * (d3 + d4) + 65536 * (d4 + d5 + 256 * (d5 + d6) + 65536 * (d6 + d7 + 256 * d7)) = z
    clear hv hA hv2 hv3 hB0
    omega
  rw [hB] at hv3
  have hC0 : v3 = (d0 + d1 + d2 + d3 + 256 * (d1 + d2 + d3 + d4) + 65536 * (d2 + d3 + d4 + d5 + 256 * (d3 + d4 + d5 + d6))) + 4294967296 * (d4 + d5 + d6 + d7 + 256 * (d5 + d6 + d7) + 65536 * (d6 + d7 + 256 * d7)) := by clear hv hA hv2 hB; omega
  have hC : v3 / 4294967296 = d4 + d5 + d6 + d7 + 256 * (d5 + d6 + d7) + 65536 * (d6 + d7 + 256 * d7) := by
    rw [hC0]
    generalize d4 + d5 + d6 + d7 + 256 * (d5 + d6 + d7) + 65536 * (d6 + d7 + 256 * d7) = z
    clear hv hA hv2 hv3 hB0 hB hC0
    omega
  rw [hC, hC0]
  clear hv hA hv2 hv3 hB0 hB hC0 hC
  have e : (d0 + d1 + d2 + d3 + 256 * (d1 + d2 + d3 + d4) + 65536 * (d2 + d3 + d4 + d5 + 256 * (d3 + d4 + d5 + d6))) + 4294967296 * (d4 + d5 + d6 + d7 + 256 * (d5 + d6 + d7) + 65536 * (d6 + d7 + 256 * d7)) + (d4 + d5 + d6 + d7 + 256 * (d5 + d6 + d7) + 65536 * (d6 + d7 + 256 * d7)) =
      (d0 + d1 + d2 + d3 + d4 + d5 + d6 + d7) + 128 * (2 * (d1 + d2 + d3 + d4) + 512 * (d2 + d3 + d4 + d5 + 256 * (d3 + d4 + d5 + d6)) + 33554432 * (d4 + d5 + d6 + d7 + 256 * (d5 + d6 + d7) + 65536 * (d6 + d7 + 256 * d7)) + 2 * (d5 + d6 + d7) + 512 * (d6 + d7 + 256 * d7)) := by omega
  rw [e, Nat.add_mul_mod_self_left, Nat.mod_eq_of_lt (by omega)]
/-! ### The lowest bit -/
theorem even_land (x y : Nat) : (2 * x) &&& (2 * y) = 2 * (x &&& y) := by
  have := land_split (k := 1) (a := 0) (b := x) (c := 0) (d := y) (by omega) (by omega)
  simpa using this
theorem odd_land (x y : Nat) : (2 * x + 1) &&& (2 * y + 1) = 2 * (x &&& y) + 1 := by
  have := land_split (k := 1) (a := 1) (b := x) (c := 1) (d := y) (by omega) (by omega)
  simp at this
  rw [Nat.add_comm (2 * x), Nat.add_comm (2 * y), this]
  omega
theorem odd_even_land (x y : Nat) : (2 * x + 1) &&& (2 * y) = 2 * (x &&& y) := by
  have := land_split (k := 1) (a := 1) (b := x) (c := 0) (d := y) (by omega) (by omega)
  simp at this
  rw [Nat.add_comm (2 * x), this]
theorem land_not : ∀ (n x : Nat), x < 2 ^ n → x &&& (2 ^ n - 1 - x) = 0
  | 0, x, h => by
    have : x = 0 := by simpa using h
    subst this
    rfl
  | n + 1, x, h => by
    have ih := land_not n (x / 2) (by rw [Nat.pow_succ] at h; omega)
    have hp : 2 ^ (n + 1) = 2 * 2 ^ n := by rw [Nat.pow_succ, Nat.mul_comm]
    have h0 : 0 < 2 ^ n := Nat.two_pow_pos n
    rcases Nat.mod_two_eq_zero_or_one x with q | q
    · have e1 : x = 2 * (x / 2) := by omega
      have e2 : 2 ^ (n + 1) - 1 - x = 2 * (2 ^ n - 1 - x / 2) + 1 := by omega
      rw [e2, Nat.and_comm]
      conv => lhs; rhs; rw [e1]
      rw [odd_even_land, Nat.and_comm, ih]
    · have e1 : x = 2 * (x / 2) + 1 := by omega
      have e2 : 2 ^ (n + 1) - 1 - x = 2 * (2 ^ n - 1 - x / 2) := by omega
      rw [e2]
      conv => lhs; lhs; rw [e1]
      rw [odd_even_land, ih]
/-- A number that is not 0 has a lowest bit; without it, the other ones are there still. -/
theorem low_bit : ∀ (n x : Nat), x < 2 ^ n → x ≠ 0 → ∃ t, t < n ∧ x &&& (2 ^ n - x) = 2 ^ t ∧ bitsL n x = t :: bitsL n (x &&& (x - 1)) ∧ x &&& (x - 1) < x
  | 0, x, h, h0 => by simp at h; omega
  | n + 1, x, h, h0 => by
    have hp : 2 ^ (n + 1) = 2 * 2 ^ n := by rw [Nat.pow_succ, Nat.mul_comm]
    have hq : 0 < 2 ^ n := Nat.two_pow_pos n
    rcases Nat.mod_two_eq_zero_or_one x with q | q
    · have e1 : x = 2 * (x / 2) := by omega
      obtain ⟨t, t1, t2, t3, t4⟩ := low_bit n (x / 2) (by omega) (by omega)
      have e2 : 2 ^ (n + 1) - x = 2 * (2 ^ n - x / 2) := by omega
      have e3 : x &&& (x - 1) = 2 * (x / 2 &&& (x / 2 - 1)) := by
        have : x - 1 = 2 * (x / 2 - 1) + 1 := by omega
        rw [this, Nat.and_comm]
        conv => lhs; rhs; rw [e1]
        rw [odd_even_land, Nat.and_comm]
      refine ⟨t + 1, by omega, ?_, ?_, by rw [e3]; omega⟩
      · rw [e2]
        conv => lhs; lhs; rw [e1]
        rw [even_land, t2, Nat.pow_succ, Nat.mul_comm]
      · rw [e3]
        simp only [bitsL]
        have m1 : 2 * (x / 2 &&& (x / 2 - 1)) % 2 = 0 := by omega
        have m2 : 2 * (x / 2 &&& (x / 2 - 1)) / 2 = (x / 2 &&& (x / 2 - 1)) := by omega
        rw [m1, m2, q, t3]
        simp
    · have e1 : x = 2 * (x / 2) + 1 := by omega
      have e3 : x &&& (x - 1) = 2 * (x / 2) := by
        have : x - 1 = 2 * (x / 2) := by omega
        rw [this]
        conv => lhs; lhs; rw [e1]
        rw [odd_even_land, Nat.and_self]
      refine ⟨0, by omega, ?_, ?_, by rw [e3]; omega⟩
      · have : 2 ^ (n + 1) - x = 2 * (2 ^ n - 1 - x / 2) + 1 := by omega
        rw [this]
        conv => lhs; lhs; rw [e1]
        rw [odd_land, land_not n (x / 2) (by omega)]
      · rw [e3]
        simp only [bitsL]
        have m1 : 2 * (x / 2) % 2 = 0 := by omega
        have m2 : 2 * (x / 2) / 2 = x / 2 := by omega
        rw [m1, m2, q]
        simp
theorem bitsL_zero : ∀ n, bitsL n 0 = []
  | 0 => rfl
  | n + 1 => by simp [bitsL, bitsL_zero n]
theorem bitsL_eq : ∀ (n x : Nat), bitsL n x = (List.range n).filter fun j => x.testBit j
  | 0, x => rfl
  | n + 1, x => by
    rw [bitsL, bitsL_eq n, List.range_succ_eq_map, List.filter_cons, List.filter_map]
    have e : ((fun j => x.testBit j) ∘ Nat.succ) = fun j => (x / 2).testBit j := by
      funext j
      simp [Nat.testBit_succ]
    rw [e]
    have e2 : x.testBit 0 = decide (x % 2 = 1) := Nat.testBit_zero x
    rw [e2]
    split
    · rename_i h; simp [h]
    · rename_i h; simp [h]
/-! ### Operations on ints that are numbers below 2^64 -/
theorem ofInt_nat (n : Nat) : BitVec.ofInt 64 (n : Int) = BitVec.ofNat 64 n := by
  apply BitVec.eq_of_toNat_eq
  simp
theorem and64 {a b : Nat} (ha : a < 18446744073709551616) (hb : b < 18446744073709551616) : bitsI .and .u64 (a : Int) (b : Int) = ((a &&& b : Nat) : Int) := by
  have h := Nat.lt_of_le_of_lt (Nat.and_le_left (n := a) (m := b)) ha
  have e : (BitVec.ofInt 64 (a : Int) &&& BitVec.ofInt 64 (b : Int)).toNat = a &&& b := by
    rw [ofInt_nat, ofInt_nat, BitVec.toNat_and, BitVec.toNat_ofNat, BitVec.toNat_ofNat, Nat.mod_eq_of_lt ha, Nat.mod_eq_of_lt hb]
  rw [bitsI_eq]
  show IntKind.wrap .u64 (((BitVec.ofInt 64 (a : Int) &&& BitVec.ofInt 64 (b : Int)).toNat : Nat) : Int) = _
  rw [e, IntWalk.u64_in _ ⟨by omega, by omega⟩]
theorem or_lt64 {a b : Nat} (ha : a < 18446744073709551616) (hb : b < 18446744073709551616) : a ||| b < 18446744073709551616 := Nat.or_lt_two_pow (n := 64) ha hb
theorem xor_lt64 {a b : Nat} (ha : a < 18446744073709551616) (hb : b < 18446744073709551616) : a ^^^ b < 18446744073709551616 := Nat.xor_lt_two_pow (n := 64) ha hb
theorem or64 {a b : Nat} (ha : a < 18446744073709551616) (hb : b < 18446744073709551616) : bitsI .or .u64 (a : Int) (b : Int) = ((a ||| b : Nat) : Int) := by
  have h := or_lt64 ha hb
  have e : (BitVec.ofInt 64 (a : Int) ||| BitVec.ofInt 64 (b : Int)).toNat = a ||| b := by
    rw [ofInt_nat, ofInt_nat, BitVec.toNat_or, BitVec.toNat_ofNat, BitVec.toNat_ofNat, Nat.mod_eq_of_lt ha, Nat.mod_eq_of_lt hb]
  rw [bitsI_eq]
  show IntKind.wrap .u64 (((BitVec.ofInt 64 (a : Int) ||| BitVec.ofInt 64 (b : Int)).toNat : Nat) : Int) = _
  rw [e, IntWalk.u64_in _ ⟨by omega, by omega⟩]
theorem xor64 {a b : Nat} (ha : a < 18446744073709551616) (hb : b < 18446744073709551616) : bitsI .xor .u64 (a : Int) (b : Int) = ((a ^^^ b : Nat) : Int) := by
  have h := xor_lt64 ha hb
  have e : (BitVec.ofInt 64 (a : Int) ^^^ BitVec.ofInt 64 (b : Int)).toNat = a ^^^ b := by
    rw [ofInt_nat, ofInt_nat, BitVec.toNat_xor, BitVec.toNat_ofNat, BitVec.toNat_ofNat, Nat.mod_eq_of_lt ha, Nat.mod_eq_of_lt hb]
  rw [bitsI_eq]
  show IntKind.wrap .u64 (((BitVec.ofInt 64 (a : Int) ^^^ BitVec.ofInt 64 (b : Int)).toNat : Nat) : Int) = _
  rw [e, IntWalk.u64_in _ ⟨by omega, by omega⟩]
def notAnd (a b : Nat) : Nat := a &&& (18446744073709551615 - b)
theorem andNot64 {a b : Nat} (ha : a < 18446744073709551616) (hb : b < 18446744073709551616) : bitsI .andNot .u64 (a : Int) (b : Int) = ((notAnd a b : Nat) : Int) := by
  have h : notAnd a b < 18446744073709551616 := Nat.lt_of_le_of_lt Nat.and_le_left ha
  have e : (BitVec.ofInt 64 (a : Int) &&& ~~~BitVec.ofInt 64 (b : Int)).toNat = notAnd a b := by
    rw [ofInt_nat, ofInt_nat, BitVec.toNat_and, BitVec.toNat_not, BitVec.toNat_ofNat, BitVec.toNat_ofNat, Nat.mod_eq_of_lt ha, Nat.mod_eq_of_lt hb]
    rfl
  rw [bitsI_eq]
  show IntKind.wrap .u64 (((BitVec.ofInt 64 (a : Int) &&& ~~~BitVec.ofInt 64 (b : Int)).toNat : Nat) : Int) = _
  rw [e, IntWalk.u64_in _ ⟨by omega, by omega⟩]
theorem testBit_notAnd {a b : Nat} (hb : b < 18446744073709551616) {j : Nat} (hj : j < 64) : (notAnd a b).testBit j = (a.testBit j && !b.testBit j) := by
  unfold notAnd
  rw [Nat.testBit_and]
  have : (18446744073709551615 - b).testBit j = !b.testBit j := by
    have := Nat.testBit_two_pow_sub_succ (x := b) (n := 64) hb j
    rw [show (2 : Nat) ^ 64 - (b + 1) = 18446744073709551615 - b by omega] at this
    rw [this]
    simp [hj]
  rw [this]
theorem shr64 {a s : Nat} (hs : s ≤ 64) : shrI .u64 (a : Int) (s : Int) = ((a >>> s : Nat) : Int) := by
  unfold shrI
  have : min (Int.toNat (s : Int)) IntKind.u64.bits = s := by
    rw [Int.toNat_natCast]
    exact Nat.min_eq_left hs
  rw [this, Int.fdiv_eq_ediv_of_nonneg _ (Int.pow_nonneg (by omega)), Nat.shiftRight_eq_div_pow]
  simp
theorem shl64 {a s : Nat} (hs : s ≤ 64) : shlI .u64 (a : Int) (s : Int) = ((a <<< s % 18446744073709551616 : Nat) : Int) := by
  unfold shlI
  have : min (Int.toNat (s : Int)) IntKind.u64.bits = s := by
    rw [Int.toNat_natCast]
    exact Nat.min_eq_left hs
  rw [this, IntKind.wrap_u64, Nat.shiftLeft_eq]
  simp
end Go.Rx.Plain
/-! Lists of the numbers that a test lets by, rising, in plain Lean: of runs, of words. -/
namespace Go.Rx.Plain
set_option linter.unusedVariables false
set_option linter.unusedSimpArgs false
def memI (f : Int → Bool) (a : Int) (n : Nat) : List Int := ((List.range n).filter fun (j : Nat) => f (a + (j : Int))).map fun (j : Nat) => a + (j : Int)
theorem memI_split (f : Int → Bool) (a : Int) (n m : Nat) : memI f a (n + m) = memI f a n ++ memI f (a + (n : Int)) m := by
  unfold memI
  rw [List.range_add, List.filter_append, List.map_append, List.filter_map, List.map_map]
  have e1 : ((fun (j : Nat) => f (a + (j : Int))) ∘ fun x => n + x) = fun (j : Nat) => f (a + (n : Int) + (j : Int)) := by
    funext j
    simp [Int.add_assoc]
  have e2 : ((fun (j : Nat) => a + (j : Int)) ∘ fun x => n + x) = fun (j : Nat) => a + (n : Int) + (j : Int) := by
    funext j
    simp [Int.add_assoc]
  rw [e1, e2]
theorem memI_congr {f g : Int → Bool} {a : Int} {n : Nat} (h : ∀ x, a ≤ x → x < a + (n : Int) → f x = g x) : memI f a n = memI g a n := by
  unfold memI
  congr 1
  apply List.filter_congr
  intro j hj
  have := List.mem_range.1 hj
  exact h _ (by omega) (by omega)
theorem memI_none {f : Int → Bool} {a : Int} {n : Nat} (h : ∀ x, a ≤ x → x < a + (n : Int) → f x = false) : memI f a n = [] := by
  unfold memI
  rw [List.filter_eq_nil_iff.2, List.map_nil]
  intro j hj
  have := List.mem_range.1 hj
  rw [h _ (by omega) (by omega)]
  simp
theorem memI_all {f : Int → Bool} {a : Int} {n : Nat} (h : ∀ x, a ≤ x → x < a + (n : Int) → f x = true) : memI f a n = (List.range n).map fun (j : Nat) => a + (j : Int) := by
  unfold memI
  rw [List.filter_eq_self.2]
  intro j hj
  have := List.mem_range.1 hj
  exact h _ (by omega) (by omega)
def listR : List Run → List Int
  | [] => []
  | p :: t => ((List.range (p.2 + 1).toNat).map fun (j : Nat) => p.1 + (j : Int)) ++ listR t
theorem listR_len : ∀ {r : List Run}, wfR r → ((listR r).length : Int) = lenF r
  | [], _ => rfl
  | p :: t, h => by
    have hp := wfR_head h
    have ih := listR_len (wfR_tail h)
    simp only [listR, lenF, List.length_append, List.length_map, List.length_range]
    omega
theorem listR_mem : ∀ {r : List Run} {m : Int}, mayF m r = true → wfR r → m ≤ 65537 → listR r = memI (hasB r) m (65537 - m).toNat
  | [], m, _, _, _ => by
    rw [memI_none (f := hasB []) fun x _ _ => rfl]
    rfl
  | p :: t, m, h, hw, hm => by
    obtain ⟨h1, h2, h3⟩ := mayF_cons.1 h
    have hp := wfR_head hw
    have ih := listR_mem h3 (wfR_tail hw) (by omega)
    have lo := fun x => may_low (x := x) h3 (wfR_tail hw)
    have e : (65537 - m).toNat = (p.1 - m).toNat + ((p.2 + 1).toNat + (1 + (65537 - (p.1 + p.2 + 2)).toNat)) := by omega
    rw [e, memI_split, memI_split, memI_split]
    have a1 : m + ((p.1 - m).toNat : Int) = p.1 := by omega
    have a2 : p.1 + (((p.2 + 1).toNat : Nat) : Int) = p.1 + p.2 + 1 := by omega
    have a3 : p.1 + p.2 + 1 + ((1 : Nat) : Int) = p.1 + p.2 + 2 := by omega
    rw [a1, a2, a3]
    rw [memI_none (n := (p.1 - m).toNat) fun x q1 q2 => may_low (x := x) (m := p.1) (mayF_cons.2 ⟨Int.le_refl _, h2, h3⟩) hw (by omega)]
    rw [memI_all (a := p.1) fun x q1 q2 => by
      rw [hasB_cons]
      have : x ≤ p.1 + p.2 := by omega
      simp [q1, this]]
    rw [memI_none (a := p.1 + p.2 + 1) fun x q1 q2 => by
      rw [hasB_cons, lo x (by omega)]
      simp
      omega]
    rw [listR, ih, List.nil_append, List.nil_append]
    congr 1
    apply memI_congr
    intro x q1 q2
    rw [hasB_cons]
    have : ¬ x ≤ p.1 + p.2 := by omega
    simp [this]
def startI (f : Int → Bool) (x : Int) : Bool := f x && !f (x - 1)
theorem starts_mem : ∀ {r : List Run} {m : Int}, mayF m r = true → wfR r → m ≤ 65537 → r.map (·.1) = memI (startI (hasB r)) m (65537 - m).toNat
  | [], m, _, _, _ => by
    rw [memI_none (f := startI (hasB [])) fun x _ _ => rfl]
    rfl
  | p :: t, m, h, hw, hm => by
    obtain ⟨h1, h2, h3⟩ := mayF_cons.1 h
    have hp := wfR_head hw
    have ih := starts_mem h3 (wfR_tail hw) (by omega)
    have lo := fun x => may_low (x := x) h3 (wfR_tail hw)
    have low := fun x (hx : x < p.1) => may_low (x := x) (m := p.1) (mayF_cons.2 ⟨Int.le_refl _, h2, h3⟩) hw hx
    have e : (65537 - m).toNat = (p.1 - m).toNat + (1 + ((p.2 + 1).toNat + (65537 - (p.1 + p.2 + 2)).toNat)) := by omega
    rw [e, memI_split, memI_split, memI_split]
    have a1 : m + ((p.1 - m).toNat : Int) = p.1 := by omega
    have a2 : p.1 + ((1 : Nat) : Int) = p.1 + 1 := by omega
    have a3 : p.1 + 1 + (((p.2 + 1).toNat : Nat) : Int) = p.1 + p.2 + 2 := by omega
    rw [a1, a2, a3]
    have inn : ∀ x, p.1 ≤ x → x ≤ p.1 + p.2 → hasB (p :: t) x = true := by
      intro x q1 q2
      rw [hasB_cons]
      simp [q1, q2]
    rw [memI_none (n := (p.1 - m).toNat) fun x q1 q2 => by unfold startI; rw [low x (by omega)]; rfl]
    rw [memI_all (a := p.1) fun x q1 q2 => by
      unfold startI
      rw [inn x (by omega) (by omega), low (x - 1) (by omega)]
      rfl]
    rw [memI_none (a := p.1 + 1) fun x q1 q2 => by
      unfold startI
      by_cases c : x ≤ p.1 + p.2
      · rw [inn (x - 1) (by omega) (by omega)]
        simp
      · rw [hasB_cons, lo x (by omega)]
        simp [c]]
    rw [List.map_cons, ih, List.nil_append, List.nil_append]
    have : (List.range 1).map (fun (j : Nat) => p.1 + (j : Int)) = [p.1] := by simp [List.range_succ]
    rw [this, List.singleton_append]
    congr 1
    apply memI_congr
    intro x q1 q2
    unfold startI
    rw [hasB_cons, hasB_cons]
    have c1 : ¬ x ≤ p.1 + p.2 := by omega
    have c2 : ¬ x - 1 ≤ p.1 + p.2 := by omega
    simp [c1, c2]
/-! ### Words -/
def up (W : List Nat) : List Int := W.map fun (n : Nat) => (n : Int)
def wfW (W : List Nat) : Prop := W.length = 1024 ∧ ∀ n, n ∈ W → n < 18446744073709551616
def hasW (W : List Nat) (x : Nat) : Bool := (W.getD (x / 64) 0).testBit (x % 64)
theorem up_len (W : List Nat) : (up W).length = W.length := by simp [up]
theorem up_get (W : List Nat) (i : Nat) : (up W).getD i (0 : Int) = ((W.getD i 0 : Nat) : Int) := by
  unfold up
  simp only [List.getD_eq_getElem?_getD, List.getElem?_map]
  cases W[i]? <;> rfl
theorem up_set (W : List Nat) (i n : Nat) : (up W).set i (n : Int) = up (W.set i n) := by
  unfold up
  rw [List.map_set]
theorem wfW_get {W : List Nat} (h : ∀ n, n ∈ W → n < 18446744073709551616) (i : Nat) : W.getD i 0 < 18446744073709551616 := by
  rw [List.getD_eq_getElem?_getD]
  cases e : W[i]? with
  | none => simp
  | some n => exact h n (List.mem_of_getElem? e)
def listW : Nat → List Nat → List Nat
  | _, [] => []
  | i, x :: t => ((bitsL 64 x).map fun j => 64 * i + j) ++ listW (i + 1) t
theorem hasW_head (x : Nat) (t : List Nat) {j : Nat} (h : j < 64) : hasW (x :: t) j = x.testBit j := by
  unfold hasW
  rw [Nat.div_eq_of_lt h, Nat.mod_eq_of_lt h]
  rfl
theorem hasW_tail (x : Nat) (t : List Nat) (j : Nat) : hasW (x :: t) (64 + j) = hasW t j := by
  unfold hasW
  have e1 : (64 + j) / 64 = j / 64 + 1 := by omega
  have e2 : (64 + j) % 64 = j % 64 := by omega
  rw [e1, e2, List.getD_cons_succ]
theorem listW_eq : ∀ (W : List Nat) (i : Nat), listW i W = ((List.range (64 * W.length)).filter (hasW W)).map fun j => 64 * i + j
  | [], i => rfl
  | x :: t, i => by
    rw [listW, listW_eq t (i + 1), List.length_cons, show 64 * (t.length + 1) = 64 + 64 * t.length by omega, List.range_add, List.filter_append, List.map_append, List.filter_map, List.map_map]
    congr 1
    · have e0 : (List.range 64).filter (fun j => x.testBit j) = (List.range 64).filter (hasW (x :: t)) := by
        apply List.filter_congr
        intro j hj
        exact (hasW_head x t (List.mem_range.1 hj)).symm
      rw [bitsL_eq, e0]
    · have e1 : (hasW (x :: t) ∘ fun x => 64 + x) = hasW t := by
        funext j
        exact hasW_tail x t j
      rw [e1]
      apply List.map_congr_left
      intro j _
      show 64 * (i + 1) + j = 64 * i + (64 + j)
      omega
def lenW : List Nat → Nat
  | [] => 0
  | x :: t => pc 64 x + lenW t
theorem lenW_eq : ∀ (W : List Nat) (i : Nat), lenW W = (listW i W).length
  | [], _ => rfl
  | x :: t, i => by
    rw [lenW, listW, List.length_append, List.length_map, ← lenW_eq t (i + 1)]
    rfl
def runsW : Nat → List Nat → Nat
  | _, [] => 0
  | l, x :: t => pc 64 (notAnd x ((x <<< 1 % 18446744073709551616) ||| l)) + runsW (x >>> 63) t
def startW (l : Nat) (W : List Nat) (j : Nat) : Bool := hasW W j && !(match j with | 0 => decide (l = 1) | j + 1 => hasW W j)
theorem runsW_eq : ∀ (W : List Nat) (l : Nat), l < 2 → (∀ n, n ∈ W → n < 18446744073709551616) → runsW l W = ((List.range (64 * W.length)).filter (startW l W)).length
  | [], _, _, _ => rfl
  | x :: t, l, hl, hW => by
    have hx := hW x (by simp)
    have hl2 : x >>> 63 < 2 := by rw [Nat.shiftRight_eq_div_pow]; omega
    rw [runsW, runsW_eq t _ hl2 (fun n hn => hW n (by simp [hn])), List.length_cons, show 64 * (t.length + 1) = 64 + 64 * t.length by omega, List.range_add, List.filter_append, List.length_append, List.filter_map, List.length_map]
    congr 1
    · unfold pc
      rw [bitsL_eq]
      congr 1
      apply List.filter_congr
      intro j hj
      have hj := List.mem_range.1 hj
      have hb : (x <<< 1 % 18446744073709551616) ||| l < 18446744073709551616 := or_lt64 (Nat.mod_lt _ (by omega)) (by omega)
      rw [testBit_notAnd hb hj]
      unfold startW
      rw [hasW_head x t hj]
      congr 2
      have hm : (x <<< 1 % 18446744073709551616).testBit j = (x <<< 1).testBit j := by
        rw [show (18446744073709551616 : Nat) = 2 ^ 64 from rfl, Nat.testBit_mod_two_pow]
        simp [hj]
      rw [Nat.testBit_or, hm, Nat.testBit_shiftLeft]
      cases j with
      | zero =>
        simp [Nat.testBit_zero]
        omega
      | succ j =>
        have : l.testBit (j + 1) = false := Nat.testBit_lt_two_pow (Nat.lt_of_lt_of_le hl (by rw [Nat.pow_succ]; have := Nat.two_pow_pos j; omega))
        simp only [this, Bool.or_false]
        rw [hasW_head x t (by omega)]
        simp
    · congr 1
      apply List.filter_congr
      intro j _
      show _ = startW l (x :: t) (64 + j)
      unfold startW
      rw [hasW_tail]
      congr 2
      cases j with
      | zero =>
        show decide (x >>> 63 = 1) = hasW (x :: t) 63
        rw [hasW_head x t (by omega)]
        rw [Nat.shiftRight_eq_div_pow, Nat.testBit_eq_decide_div_mod_eq]
        rw [Bool.eq_iff_iff]
        simp
        omega
      | succ j =>
        show hasW t j = hasW (x :: t) (64 + j)
        rw [hasW_tail]
end Go.Rx.Plain
/-! Sets of numbers below 65536 as rising lists, as runs, as words, in plain Lean. -/
namespace Go.Rx.Plain
set_option linter.unusedVariables false
set_option linter.unusedSimpArgs false
theorem may_snoc : ∀ {r : List Run} {m : Int} {q : Run}, mayF m (r ++ [q]) = true → wfR (r ++ [q]) → mayF m r = true ∧ (∀ p, p ∈ r → p.1 + p.2 + 2 ≤ q.1) ∧ m ≤ q.1 ∧ q.1 + q.2 < 65536
  | [], m, q, h, _ => by
    obtain ⟨h1, h2, _⟩ := mayF_cons.1 h
    exact ⟨rfl, fun p hp => (nomatch hp), h1, h2⟩
  | p :: t, m, q, h, hw => by
    obtain ⟨h1, h2, h3⟩ := mayF_cons.1 h
    have hp := wfR_head hw
    obtain ⟨i1, i2, i3, i4⟩ := may_snoc h3 (wfR_tail hw)
    refine ⟨mayF_cons.2 ⟨h1, h2, i1⟩, fun p' hp' => ?_, by omega, i4⟩
    rcases List.mem_cons.1 hp' with e | e
    · subst e; exact i3
    · exact i2 p' e
theorem listR_append : ∀ (r s : List Run), listR (r ++ s) = listR r ++ listR s
  | [], s => rfl
  | p :: t, s => by simp [listR, listR_append t s]
theorem listR_one (p : Run) : listR [p] = (List.range (p.2 + 1).toNat).map fun (j : Nat) => p.1 + (j : Int) := by simp [listR]
theorem listR_more {p : Run} (h : 0 ≤ p.2) : listR [(p.1, p.2 + 1)] = listR [p] ++ [p.1 + p.2 + 1] := by
  rw [listR_one, listR_one]
  have e : (p.2 + 1 + 1).toNat = (p.2 + 1).toNat + 1 := by omega
  show (List.range (p.2 + 1 + 1).toNat).map _ = _
  rw [e, List.range_succ, List.map_append]
  simp
  omega
theorem hasB_listR {x : Int} : ∀ {r : List Run}, wfR r → (hasB r x = true ↔ x ∈ listR r)
  | [], _ => by simp [hasB_nil, listR]
  | p :: t, h => by
    have hp := wfR_head h
    have ih := hasB_listR (x := x) (wfR_tail h)
    rw [hasB_cons, listR, List.mem_append, Bool.or_eq_true, ih]
    apply or_congr_left
    simp only [Bool.and_eq_true, decide_eq_true_eq, List.mem_map, List.mem_range]
    constructor
    · intro ⟨h1, h2⟩
      exact ⟨(x - p.1).toNat, by omega, by omega⟩
    · rintro ⟨j, h1, rfl⟩
      omega
/-- Rising, from m on, below 65536. -/
def ris : Int → List Int → Prop
  | _, [] => True
  | m, a :: t => m ≤ a ∧ a < 65536 ∧ ris (a + 1) t
theorem ris_mono : ∀ {l : List Int} {m n : Int}, ris m l → n ≤ m → ris n l
  | [], _, _, _, _ => trivial
  | a :: t, m, n, ⟨h1, h2, h3⟩, h => ⟨by omega, h2, h3⟩
theorem ris_low : ∀ {l : List Int} {m x : Int}, ris m l → x ∈ l → m ≤ x ∧ x < 65536
  | a :: t, m, x, ⟨h1, h2, h3⟩, h => by
    rcases List.mem_cons.1 h with e | e
    · subst e; exact ⟨h1, h2⟩
    · have := ris_low h3 e
      omega
/-- A rising list is what it says, number by number. -/
theorem ris_mem : ∀ {l : List Int} {m : Int}, ris m l → m ≤ 65536 → l = memI (fun x => decide (x ∈ l)) m (65536 - m).toNat
  | [], m, _, _ => by rw [memI_none fun x _ _ => by simp]
  | a :: t, m, ⟨h1, h2, h3⟩, hm => by
    have ih := ris_mem h3 (by omega)
    have lo : ∀ x, x ∈ t → a + 1 ≤ x := fun x hx => (ris_low h3 hx).1
    have e : (65536 - m).toNat = (a - m).toNat + (1 + (65536 - (a + 1)).toNat) := by omega
    rw [e, memI_split, memI_split, show m + ((a - m).toNat : Int) = a by omega, show a + ((1 : Nat) : Int) = a + 1 by omega]
    rw [memI_none (n := (a - m).toNat) fun x q1 q2 => by
      have : ¬ x ∈ t := fun h => by have := lo x h; omega
      have h2 : ¬ x = a := by omega
      simp [this, h2]]
    rw [memI_all (a := a) fun x q1 q2 => by
      have : x = a := by omega
      simp [this]]
    rw [memI_congr (g := fun x => decide (x ∈ t)) fun x q1 q2 => by
      have : ¬ x = a := by omega
      simp [this], ← ih]
    simp [List.range_succ]
theorem ris_listR : ∀ {r : List Run} {m : Int}, mayF m r = true → wfR r → ris m (listR r) := by
  intro r m h hw
  have key : ∀ (n : Nat) (a b : Int) (t : List Int), a ≤ b → b + (n : Int) ≤ 65536 → ris (b + (n : Int)) t → ris a (((List.range n).map fun (j : Nat) => b + (j : Int)) ++ t) := by
    intro n
    induction n with
    | zero => intro a b t h1 h2 h3; simpa using ris_mono h3 (by omega)
    | succ n ih =>
      intro a b t h1 h2 h3
      rw [List.range_succ_eq_map, List.map_cons, List.map_map, List.cons_append]
      refine ⟨by simpa using h1, by simp; omega, ?_⟩
      have := ih (b + 1) (b + 1) t (Int.le_refl _) (by omega) (by rw [show b + 1 + (n : Int) = b + ((n + 1 : Nat) : Int) by omega]; exact h3)
      have e : ((fun (j : Nat) => b + (j : Int)) ∘ Nat.succ) = fun (j : Nat) => b + 1 + (j : Int) := by
        funext j
        simp
        omega
      rw [e]
      simpa using this
  induction r generalizing m with
  | nil => trivial
  | cons p t ih =>
    obtain ⟨h1, h2, h3⟩ := mayF_cons.1 h
    have hp := wfR_head hw
    refine key _ m p.1 _ h1 (by omega) ?_
    exact ris_mono (ih h3 (wfR_tail hw)) (by omega)
/-- What runs.Of has made of the numbers so far. -/
structure OfInv (r : List Run) (pre : List Int) : Prop where
  l : listR r = pre
  may : mayF 0 r = true
  wf : wfR r
theorem of_new {r : List Run} {pre : List Int} {x : Int} (h : OfInv r pre) (hx : 0 ≤ x ∧ x < 65536) (hl : ∀ y, y ∈ pre → y + 2 ≤ x) : OfInv (r ++ [(x, 0)]) (pre ++ [x]) := by
  refine ⟨by rw [listR_append, h.l, listR_one]; simp [List.range_succ], may_append h.may (fun p hp => ?_) hx.1 (by show x + 0 < 65536; omega), fun q hq => ?_⟩
  · have hw := h.wf p hp
    have : hasB r (p.1 + p.2) = true := by
      unfold hasB
      rw [List.any_eq_true]
      exact ⟨p, hp, by simp; omega⟩
    have := (hasB_listR h.wf).1 this
    rw [h.l] at this
    exact hl _ this
  · rcases List.mem_append.1 hq with e | e
    · exact h.wf q e
    · simp at e
      subst e
      exact ⟨hx.1, hx.2, by show (0 : Int) ≤ 0; omega, by show (0 : Int) < 65536; omega⟩
theorem of_more {r : List Run} {pre : List Int} {p : Run} (h : OfInv (r ++ [p]) pre) (hx : p.1 + p.2 + 1 < 65536) : OfInv (r ++ [(p.1, p.2 + 1)]) (pre ++ [p.1 + p.2 + 1]) := by
  obtain ⟨h1, h2, h3, h4⟩ := may_snoc h.may h.wf
  have hp := h.wf p (by simp)
  refine ⟨?_, may_append h1 h2 h3 (by show p.1 + (p.2 + 1) < 65536; omega), fun q hq => ?_⟩
  · rw [listR_append, listR_more hp.2.2.1, ← List.append_assoc, ← listR_append, h.l]
  · rcases List.mem_append.1 hq with e | e
    · exact h.wf q (by simp [e])
    · simp at e
      subst e
      exact ⟨hp.1, hp.2.1, by show (0 : Int) ≤ p.2 + 1; omega, by show p.2 + 1 < 65536; omega⟩
theorem of_last {r : List Run} {pre : List Int} {x : Int} (h : OfInv r (pre ++ [x])) (hr : ris 0 (pre ++ [x])) : ∃ r' p, r = r' ++ [p] ∧ p.1 + p.2 = x := by
  rcases List.eq_nil_or_concat r with e | ⟨r', p, e⟩
  · have := h.l
    rw [e] at this
    simp [listR] at this
  · rw [List.concat_eq_append] at e
    subst e
    have hp := h.wf p (by simp)
    have hl := h.l
    rw [listR_append, listR_one, show (p.2 + 1).toNat = p.2.toNat + 1 by omega, List.range_succ, List.map_append, ← List.append_assoc] at hl
    have := (List.append_inj' hl rfl).2
    simp at this
    exact ⟨r', p, rfl, by omega⟩
end Go.Rx.Plain

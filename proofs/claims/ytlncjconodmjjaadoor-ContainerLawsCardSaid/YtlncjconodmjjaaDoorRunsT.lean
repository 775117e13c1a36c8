/- Runs, in plain Lean: what a right list of runs is, when two are the same, and what a walk over the edges of two gives. -/
import Derived.IntWalk
namespace Go.Rx.Plain
set_option linter.unusedVariables false
abbrev Run := Int × Int
def wfR (r : List Run) : Prop := ∀ p, p ∈ r → 0 ≤ p.1 ∧ p.1 < 65536 ∧ 0 ≤ p.2 ∧ p.2 < 65536
def mayF : Int → List Run → Bool
  | _, [] => true
  | m, p :: t => decide (m ≤ p.1) && (decide (p.1 + p.2 < 65536) && mayF (p.1 + p.2 + 2) t)
def hasB (r : List Run) (x : Int) : Bool := r.any fun p => decide (p.1 ≤ x) && decide (x ≤ p.1 + p.2)
def par : List Int → Int → Bool
  | [], _ => false
  | a :: t, x => (decide (a ≤ x)) != par t x
def rowL : List Run → List Int
  | [] => []
  | p :: t => p.1 :: (p.1 + p.2 + 1) :: rowL t
def srt : Int → List Int → Prop
  | _, [] => True
  | m, a :: t => m ≤ a ∧ a ≤ 65536 ∧ srt (a + 1) t
theorem mayF_cons {m : Int} {p : Run} {t : List Run} : mayF m (p :: t) = true ↔ m ≤ p.1 ∧ p.1 + p.2 < 65536 ∧ mayF (p.1 + p.2 + 2) t = true := by
  simp [mayF]
theorem hasB_nil (x : Int) : hasB [] x = false := rfl
theorem hasB_cons (p : Run) (t : List Run) (x : Int) : hasB (p :: t) x = ((decide (p.1 ≤ x) && decide (x ≤ p.1 + p.2)) || hasB t x) := rfl
theorem hasB_append (r s : List Run) (x : Int) : hasB (r ++ s) x = (hasB r x || hasB s x) := by simp [hasB]
theorem wfR_tail {p : Run} {t : List Run} (h : wfR (p :: t)) : wfR t := fun q hq => h q (by simp [hq])
theorem wfR_head {p : Run} {t : List Run} (h : wfR (p :: t)) : 0 ≤ p.1 ∧ p.1 < 65536 ∧ 0 ≤ p.2 ∧ p.2 < 65536 := h p (by simp)
theorem may_low {x : Int} : ∀ {r : List Run} {m : Int}, mayF m r = true → wfR r → x < m → hasB r x = false
  | [], _, _, _, _ => rfl
  | p :: t, m, h, hw, hx => by
    obtain ⟨h1, h2, h3⟩ := mayF_cons.1 h
    have := wfR_head hw
    rw [hasB_cons, may_low h3 (wfR_tail hw) (by omega)]
    simp
    omega
theorem may_mono : ∀ {r : List Run} {m n : Int}, mayF m r = true → n ≤ m → mayF n r = true
  | [], _, _, _, _ => rfl
  | p :: t, m, n, h, hx => by
    obtain ⟨h1, h2, h3⟩ := mayF_cons.1 h
    exact mayF_cons.2 ⟨by omega, h2, h3⟩
theorem par_row (x : Int) : ∀ {r : List Run} {m : Int}, mayF m r = true → wfR r → par (rowL r) x = hasB r x
  | [], _, _, _ => rfl
  | p :: t, m, h, hw => by
    obtain ⟨h1, h2, h3⟩ := mayF_cons.1 h
    have hp := wfR_head hw
    have ih := par_row x h3 (wfR_tail hw)
    simp only [rowL, par, hasB_cons, ih]
    by_cases q1 : p.1 ≤ x
    · by_cases q2 : x ≤ p.1 + p.2
      · have q3 := may_low (x := x) h3 (wfR_tail hw) (by omega)
        simp [q1, q2, q3]
        omega
      · have q4 : p.1 + p.2 + 1 ≤ x := by omega
        simp [q1, q2, q4]
    · have q3 := may_low (x := x) h3 (wfR_tail hw) (by omega)
      have q4 : ¬ p.1 + p.2 + 1 ≤ x := by omega
      simp [q1, q3, q4]
theorem srt_row : ∀ {r : List Run} {m : Int}, mayF m r = true → wfR r → srt m (rowL r)
  | [], _, _, _ => trivial
  | p :: t, m, h, hw => by
    obtain ⟨h1, h2, h3⟩ := mayF_cons.1 h
    have hp := wfR_head hw
    exact ⟨h1, by omega, by omega, by omega, by have := srt_row h3 (wfR_tail hw); rwa [show p.1 + p.2 + 1 + 1 = p.1 + p.2 + 2 by omega]⟩
theorem len_row : ∀ r : List Run, (rowL r).length = 2 * r.length
  | [] => rfl
  | p :: t => by simp [rowL, len_row t]; omega
theorem srt_mono : ∀ {l : List Int} {m n : Int}, srt m l → n ≤ m → srt n l
  | [], _, _, _, _ => trivial
  | a :: t, m, n, ⟨h1, h2, h3⟩, h => ⟨by omega, h2, h3⟩
theorem par_low {x : Int} : ∀ {l : List Int} {m : Int}, srt m l → x < m → par l x = false
  | [], _, _, _ => rfl
  | a :: t, m, ⟨h1, h2, h3⟩, h => by
    simp only [par]
    rw [par_low h3 (by omega)]
    simp
    omega
/-- Two right lists of the same numbers are the same. -/
theorem may_ext : ∀ {a b : List Run} {m n : Int}, mayF m a = true → mayF n b = true → wfR a → wfR b → (∀ x, hasB a x = hasB b x) → a = b
  | [], [], _, _, _, _, _, _, _ => rfl
  | [], p :: t, _, n, _, _, _, hb, h => by
    have := h p.1
    have hp := wfR_head hb
    rw [hasB_nil, hasB_cons] at this
    simp at this
    omega
  | p :: t, [], _, n, _, _, ha, _, h => by
    have := h p.1
    have hp := wfR_head ha
    rw [hasB_nil, hasB_cons] at this
    simp at this
    omega
  | p :: s, q :: t, m, n, ha, hb, wa, wb, h => by
    obtain ⟨a1, a2, a3⟩ := mayF_cons.1 ha
    obtain ⟨b1, b2, b3⟩ := mayF_cons.1 hb
    have hp := wfR_head wa
    have hq := wfR_head wb
    have la := fun x => may_low (x := x) a3 (wfR_tail wa)
    have lb := fun x => may_low (x := x) b3 (wfR_tail wb)
    have e1 : p.1 = q.1 := by
      by_cases c : p.1 < q.1
      · have := h p.1
        rw [hasB_cons, hasB_cons, lb p.1 (by omega)] at this
        have k1 : ¬ q.1 ≤ p.1 := by omega
        have k2 : 0 ≤ p.2 := by omega
        simp [k1] at this
        omega
      · by_cases c2 : q.1 < p.1
        · have := h q.1
          rw [hasB_cons, hasB_cons, la q.1 (by omega)] at this
          have k1 : ¬ p.1 ≤ q.1 := by omega
          have k2 : 0 ≤ q.2 := by omega
          simp [k1] at this
          omega
        · omega
    have e2 : p.2 = q.2 := by
      by_cases c : p.2 < q.2
      · have := h (p.1 + p.2 + 1)
        rw [hasB_cons, hasB_cons, la _ (by omega)] at this
        have k1 : ¬ p.1 + p.2 + 1 ≤ p.1 + p.2 := by omega
        have k2 : q.1 ≤ p.1 + p.2 + 1 := by omega
        have k3 : p.1 + p.2 + 1 ≤ q.1 + q.2 := by omega
        simp [k1, k2, k3] at this
      · by_cases c2 : q.2 < p.2
        · have := h (q.1 + q.2 + 1)
          rw [hasB_cons, hasB_cons, lb _ (by omega)] at this
          have k1 : ¬ q.1 + q.2 + 1 ≤ q.1 + q.2 := by omega
          have k2 : p.1 ≤ q.1 + q.2 + 1 := by omega
          have k3 : q.1 + q.2 + 1 ≤ p.1 + p.2 := by omega
          simp [k1, k2, k3] at this
        · omega
    have e : p = q := Prod.ext e1 e2
    subst e
    congr 1
    refine may_ext a3 b3 (wfR_tail wa) (wfR_tail wb) fun x => ?_
    by_cases c : x < p.1 + p.2 + 2
    · rw [la x c, lb x c]
    · have := h x
      rw [hasB_cons, hasB_cons] at this
      have c2 : ¬ x ≤ p.1 + p.2 := by omega
      simpa [c2] using this
theorem may_append : ∀ {r : List Run} {m : Int} {q : Run}, mayF m r = true → (∀ p, p ∈ r → p.1 + p.2 + 2 ≤ q.1) → m ≤ q.1 → q.1 + q.2 < 65536 → mayF m (r ++ [q]) = true
  | [], m, q, _, _, h1, h2 => mayF_cons.2 ⟨h1, h2, rfl⟩
  | p :: t, m, q, h, hb, h1, h2 => by
    obtain ⟨a1, a2, a3⟩ := mayF_cons.1 h
    exact mayF_cons.2 ⟨a1, a2, may_append a3 (fun p' hp => hb p' (by simp [hp])) (hb p (by simp)) h2⟩
theorem drop_nil {α : Type} {a : List α} {i : Nat} (h : a.drop i = []) (hi : i ≤ a.length) : i = a.length := by
  have := congrArg List.length h
  simp at this
  omega
theorem drop_cons {α : Type} {a : List α} {i : Nat} {x : α} {t : List α} (h : a.drop i = x :: t) (d : α) : i < a.length ∧ a.getD i d = x ∧ a.drop (i + 1) = t := by
  have hi : i < a.length := by
    have := congrArg List.length h
    simp at this
    omega
  rw [List.drop_eq_getElem_cons hi] at h
  simp only [List.cons.injEq] at h
  refine ⟨hi, ?_, h.2⟩
  simp [List.getD, hi, h.1]
def od (i : Nat) : Bool := i % 2 == 1
theorem od_succ (i : Nat) : od (i + 1) = !od i := by
  unfold od
  rcases Nat.mod_two_eq_zero_or_one i with h | h
  · have : (i + 1) % 2 = 1 := by omega
    simp [h, this]
  · have : (i + 1) % 2 = 0 := by omega
    simp [h, this]
theorem od_tmod (i : Nat) : decide (((i : Int).tmod 2) = 1) = od i := by
  unfold od
  have : (i : Int).tmod 2 = ((i % 2 : Nat) : Int) := by rw [Int.tmod_eq_emod_of_nonneg (by omega)]; omega
  rw [this]
  rcases Nat.mod_two_eq_zero_or_one i with h | h <;> simp [h]
def edgeAt : List Int → List Int → Int
  | x :: _, y :: _ => min x y
  | x :: _, [] => x
  | [], y :: _ => y
  | [], [] => 65537
def adv : List Int → Int → Nat
  | [], _ => 0
  | x :: _, t => if x ≤ t then 1 else 0
/-- One turn of the walk over two rows of edges. -/
def Turn (op : Bool → Bool → Bool) (a b : List Int) (L : Nat → List Run → Bool → Int → Nat → Nat → Option (List Run)) (k : Nat) (r : List Run) (on : Bool) (fr : Int) (i j : Nat) : Option (List Run) :=
  match a.drop i, b.drop j with
  | [], [] => some r
  | ra, rb =>
    let t := edgeAt ra rb
    let i' := i + adv ra t
    let j' := j + adv rb t
    let now := op (od i') (od j')
    bif now == on then L k r on fr i' j' else bif on then L k (r ++ [(fr, t - fr - 1)]) now t i' j' else L k r now t i' j'
structure EInv (op : Bool → Bool → Bool) (a b : List Int) (m : Int) (r : List Run) (on : Bool) (fr : Int) (i j : Nat) : Prop where
  m0 : 0 ≤ m
  m1 : m ≤ 65537
  ia : i ≤ a.length
  jb : j ≤ b.length
  sa : srt m (a.drop i)
  sb : srt m (b.drop j)
  pa : ∀ x, m - 1 ≤ x → par a x = (od i != par (a.drop i) x)
  pb : ∀ x, m - 1 ≤ x → par b x = (od j != par (b.drop j) x)
  on' : on = op (od i) (od j)
  fr' : on = true → 0 ≤ fr ∧ fr < m ∧ fr < 65536
  may : mayF 0 r = true
  wf : wfR r
  top : ∀ p, p ∈ r → p.1 + p.2 + 2 ≤ (if on then fr else m)
  has : ∀ x, x < m → (hasB r x || (on && decide (fr ≤ x))) = op (par a x) (par b x)
  len : r.length ≤ i + j
theorem has_top {r : List Run} {x : Int} (h : ∀ p, p ∈ r → p.1 + p.2 < x) : hasB r x = false := by
  unfold hasB
  rw [List.any_eq_false]
  intro p hp
  have := h p hp
  simp
  omega
theorem srt_at {m : Int} {l : List Int} (h : srt m l) (t : Int) (ht : ∀ x s, l = x :: s → t ≤ x) : srt (t + 1) (l.drop (adv l t)) ∧ adv l t ≤ l.length ∧ (∀ y, t ≤ y → par l y = (od (adv l t) != par (l.drop (adv l t)) y)) := by
  cases l with
  | nil => simp [adv, od, srt, par]
  | cons x s =>
    have := ht x s rfl
    obtain ⟨h1, h2, h3⟩ := h
    simp only [adv]
    split
    · have : x = t := by omega
      subst this
      refine ⟨by simpa using h3, by simp, fun y hy => ?_⟩
      simp [par, od, hy]
    · refine ⟨by simp; exact ⟨by omega, h2, h3⟩, by simp, fun y hy => ?_⟩
      simp [od]
theorem srt_low {m x : Int} {s : List Int} (h : srt m (x :: s)) : m ≤ x ∧ x ≤ 65536 := ⟨h.1, h.2.1⟩
theorem od_add (i j : Nat) : od (i + j) = (od i != od j) := by
  unfold od
  rcases Nat.mod_two_eq_zero_or_one i with h | h <;> rcases Nat.mod_two_eq_zero_or_one j with h' | h'
  · have : (i + j) % 2 = 0 := by omega
    simp [h, h', this]
  · have : (i + j) % 2 = 1 := by omega
    simp [h, h', this]
  · have : (i + j) % 2 = 1 := by omega
    simp [h, h', this]
  · have : (i + j) % 2 = 0 := by omega
    simp [h, h', this]
theorem xor3 (a b c : Bool) : (a != (b != c)) = ((a != b) != c) := by cases a <;> cases b <;> cases c <;> rfl
theorem par_high {x : Int} (hx : 65536 ≤ x) : ∀ {l : List Int} {m : Int}, srt m l → par l x = od l.length
  | [], _, _ => rfl
  | a :: t, m, ⟨h1, h2, h3⟩ => by
    have : a ≤ x := by omega
    simp only [par, par_high hx h3, List.length_cons, od_succ, this, decide_true]
    cases od t.length <;> rfl
/-- The invariant over one turn. -/
theorem EInv.turn {op : Bool → Bool → Bool} {a b : List Int} {m : Int} {r : List Run} {on : Bool} {fr : Int} {i j : Nat} (h : EInv op a b m r on fr i j)
    (hop : op false false = false) (za : srt 0 a) (zb : srt 0 b) (ea : od a.length = false) (eb : od b.length = false) (hne : ¬ (a.drop i = [] ∧ b.drop j = [])) :
    let t := edgeAt (a.drop i) (b.drop j)
    let i' := i + adv (a.drop i) t
    let j' := j + adv (b.drop j) t
    let now := op (od i') (od j')
    m ≤ t ∧ t ≤ 65536 ∧ i + j < i' + j' ∧ (now = on → EInv op a b (t + 1) r on fr i' j') ∧ (now ≠ on → on = true → EInv op a b (t + 1) (r ++ [(fr, t - fr - 1)]) now t i' j') ∧ (now ≠ on → on = false → EInv op a b (t + 1) r now t i' j') := by
  intro t i' j' now
  have hta : ∀ x s, a.drop i = x :: s → t ≤ x := by
    intro x s e
    show edgeAt (a.drop i) (b.drop j) ≤ x
    rw [e]
    cases b.drop j with
    | nil => exact Int.le_refl _
    | cons y u => exact Int.min_le_left _ _
  have htb : ∀ x s, b.drop j = x :: s → t ≤ x := by
    intro x s e
    show edgeAt (a.drop i) (b.drop j) ≤ x
    rw [e]
    cases a.drop i with
    | nil => exact Int.le_refl _
    | cons y u => exact Int.min_le_right _ _
  have ht : m ≤ t ∧ t ≤ 65536 ∧ 1 ≤ adv (a.drop i) t + adv (b.drop j) t := by
    have sa := h.sa
    have sb := h.sb
    show m ≤ edgeAt (a.drop i) (b.drop j) ∧ edgeAt (a.drop i) (b.drop j) ≤ 65536 ∧ 1 ≤ adv (a.drop i) (edgeAt (a.drop i) (b.drop j)) + adv (b.drop j) (edgeAt (a.drop i) (b.drop j))
    cases e1 : a.drop i with
    | nil =>
      cases e2 : b.drop j with
      | nil => exact absurd ⟨e1, e2⟩ hne
      | cons y u =>
        rw [e2] at sb
        have := srt_low sb
        simp only [edgeAt, adv]
        simp
        omega
    | cons x s =>
      rw [e1] at sa
      have := srt_low sa
      cases e2 : b.drop j with
      | nil =>
        simp only [edgeAt, adv]
        simp
        omega
      | cons y u =>
        rw [e2] at sb
        have := srt_low sb
        simp only [adv]
        have hT : edgeAt (x :: s) (y :: u) = min x y := rfl
        generalize edgeAt (x :: s) (y :: u) = T at hT
        refine ⟨by omega, by omega, ?_⟩
        by_cases c : x ≤ y
        · have : x ≤ T := by omega
          rw [if_pos this]
          omega
        · have : y ≤ T := by omega
          rw [if_pos this]
          omega
  obtain ⟨t0, t1, t2⟩ := ht
  obtain ⟨sa1, sa2, sa3⟩ := srt_at h.sa t hta
  obtain ⟨sb1, sb2, sb3⟩ := srt_at h.sb t htb
  have da : (a.drop i).drop (adv (a.drop i) t) = a.drop i' := by rw [List.drop_drop]
  have db : (b.drop j).drop (adv (b.drop j) t) = b.drop j' := by rw [List.drop_drop]
  rw [da] at sa1 sa3
  rw [db] at sb1 sb3
  have ia : i' ≤ a.length := by have := h.ia; simp at sa2; omega
  have jb : j' ≤ b.length := by have := h.jb; simp at sb2; omega
  have m0 := h.m0
  have pa : ∀ x, t + 1 - 1 ≤ x → par a x = (od i' != par (a.drop i') x) := by
    intro x hx
    rw [h.pa x (by omega), sa3 x (by omega), xor3, ← od_add]
  have pb : ∀ x, t + 1 - 1 ≤ x → par b x = (od j' != par (b.drop j') x) := by
    intro x hx
    rw [h.pb x (by omega), sb3 x (by omega), xor3, ← od_add]
  have pat : par a t = od i' := by
    rw [pa t (by omega), par_low sa1 (by omega)]
    simp
  have pbt : par b t = od j' := by
    rw [pb t (by omega), par_low sb1 (by omega)]
    simp
  have mid : ∀ x, m ≤ x → x < t → op (par a x) (par b x) = on := by
    intro x h1 h2
    have ea : par (a.drop i) x = false := by
      cases e : a.drop i with
      | nil => rfl
      | cons y s =>
        have := hta y s e
        have sa := h.sa
        rw [e] at sa
        exact par_low (m := y) ⟨Int.le_refl _, sa.2⟩ (by omega)
    have eb : par (b.drop j) x = false := by
      cases e : b.drop j with
      | nil => rfl
      | cons y s =>
        have := htb y s e
        have sb := h.sb
        rw [e] at sb
        exact par_low (m := y) ⟨Int.le_refl _, sb.2⟩ (by omega)
    rw [h.pa x (by omega), h.pb x (by omega), ea, eb, h.on']
    simp
  have lenI : r.length + 1 ≤ i' + j' := by have := h.len; omega
  refine ⟨t0, t1, by omega, fun hn => ?_, fun hn ho => ?_, fun hn ho => ?_⟩
  · refine ⟨by omega, by omega, ia, jb, sa1, sb1, pa, pb, hn.symm, fun ho => ?_, h.may, h.wf, fun p hp => ?_, fun x hx => ?_, by omega⟩
    · have := h.fr' ho
      omega
    · have q1 := h.top p hp
      cases on with
      | true => exact q1
      | false =>
        simp only [Bool.false_eq_true, if_false] at q1 ⊢
        omega
    · by_cases c : x < m
      · exact h.has x c
      · have hr : hasB r x = false := has_top fun p hp => by
          have q1 := h.top p hp
          have q2 := h.fr'
          cases on with
          | true =>
            have := q2 rfl
            simp only [if_true] at q1
            omega
          | false =>
            simp only [Bool.false_eq_true, if_false] at q1
            omega
        rw [hr]
        by_cases c2 : x < t
        · rw [mid x (by omega) c2]
          cases hon : on with
          | false => simp
          | true =>
            have := h.fr' hon
            simp
            omega
        · have : x = t := by omega
          subst this
          rw [pat, pbt]
          show _ = now
          rw [hn]
          cases hon : on with
          | false => simp
          | true =>
            have := h.fr' hon
            simp
            omega
  · subst ho
    have nf : now = false := by cases hnn : now <;> simp_all
    obtain ⟨f1, f2, f3⟩ := h.fr' rfl
    have top := h.top
    simp only [if_true] at top
    rw [nf]
    refine ⟨by omega, by omega, ia, jb, sa1, sb1, pa, pb, nf.symm, fun h => by simp at h, may_append h.may top f1 (by show fr + (t - fr - 1) < 65536; omega), ?_, ?_, fun x hx => ?_, by simp; omega⟩
    · intro p hp
      rw [List.mem_append] at hp
      rcases hp with hp | hp
      · exact h.wf p hp
      · simp at hp
        subst hp
        refine ⟨f1, f3, ?_, ?_⟩ <;> show _ <;> simp <;> omega
    · intro p hp
      rw [List.mem_append] at hp
      simp only [Bool.false_eq_true, if_false]
      rcases hp with hp | hp
      · have := top p hp
        omega
      · simp at hp
        subst hp
        simp
        omega
    · rw [hasB_append, hasB_cons, hasB_nil]
      simp only [Bool.or_false, Bool.false_and]
      by_cases c : x < m
      · rw [← h.has x c]
        congr 1
        simp only [Bool.true_and]
        have : x ≤ fr + (t - fr - 1) := by omega
        simp [this]
      · have hr : hasB r x = false := has_top fun p hp => by
          have := top p hp
          omega
        rw [hr]
        by_cases c2 : x < t
        · rw [mid x (by omega) c2]
          simp
          omega
        · have : x = t := by omega
          subst this
          rw [pat, pbt]
          show _ = now
          rw [nf]
          simp
          omega
  · subst ho
    have nt : now = true := by cases hnn : now <;> simp_all
    have top := h.top
    simp only [Bool.false_eq_true, if_false] at top
    rw [nt]
    have t3 : t < 65536 ∨ t = 65536 := by omega
    refine ⟨by omega, by omega, ia, jb, sa1, sb1, pa, pb, nt.symm, fun _ => ⟨by omega, by omega, ?_⟩, h.may, h.wf, fun p hp => ?_, fun x hx => ?_, by omega⟩
    · rcases t3 with t3 | t3
      · exact t3
      · exfalso
        have e1 : od i' = false := by rw [← pat, par_high (by omega) za, ea]
        have e2 : od j' = false := by rw [← pbt, par_high (by omega) zb, eb]
        have : now = op (od i') (od j') := rfl
        rw [e1, e2, hop, nt] at this
        cases this
    · have := top p hp
      simp
      omega
    · by_cases c : x < m
      · rw [← h.has x c]
        simp
        omega
      · have hr : hasB r x = false := has_top fun p hp => by
          have := top p hp
          omega
        rw [hr]
        by_cases c2 : x < t
        · rw [mid x (by omega) c2]
          simp
          omega
        · have : x = t := by omega
          subst this
          rw [pat, pbt]
          show _ = now
          rw [nt]
          simp
/-- The whole walk. -/
structure Good (op : Bool → Bool → Bool) (a b : List Int) (r : List Run) : Prop where
  may : mayF 0 r = true
  wf : wfR r
  has : ∀ x, hasB r x = op (par a x) (par b x)
  len : r.length ≤ a.length + b.length
theorem walk_good {op : Bool → Bool → Bool} {a b : List Int} (hop : op false false = false) (za : srt 0 a) (zb : srt 0 b) (ea : od a.length = false) (eb : od b.length = false)
    {L : Nat → List Run → Bool → Int → Nat → Nat → Option (List Run)} {K : Nat}
    (hL : ∀ k m r on fr i j, K ≤ k → EInv op a b m r on fr i j → L (k + 1) r on fr i j = Turn op a b L k r on fr i j) :
    ∀ (n : Nat) (k : Nat) (m : Int) (r : List Run) (on : Bool) (fr : Int) (i j : Nat), a.length + b.length - (i + j) ≤ n → K + n + 1 ≤ k → EInv op a b m r on fr i j → ∃ r', L k r on fr i j = some r' ∧ Good op a b r'
  | n, 0, m, r, on, fr, i, j, hn, hk, h => by omega
  | n, k + 1, m, r, on, fr, i, j, hn, hk, h => by
    rw [hL k m r on fr i j (by omega) h]
    by_cases hne : a.drop i = [] ∧ b.drop j = []
    · refine ⟨r, by unfold Turn; rw [hne.1, hne.2], h.may, h.wf, fun x => ?_, by have := h.len; have := h.ia; have := h.jb; omega⟩
      have i1 := drop_nil hne.1 h.ia
      have j1 := drop_nil hne.2 h.jb
      have on0 : on = false := by rw [h.on', i1, j1, ea, eb, hop]
      by_cases c : x < m
      · have := h.has x c
        rw [on0] at this
        simpa using this
      · have top := h.top
        rw [on0] at top
        simp only [Bool.false_eq_true, if_false] at top
        rw [h.pa x (by omega), h.pb x (by omega), hne.1, hne.2, i1, j1, ea, eb]
        show _ = op (false != false) (false != false)
        rw [show (false != false) = false from rfl, hop]
        exact has_top fun p hp => by
          have := top p hp
          omega
    · obtain ⟨t0, t1, t2, q1, q2, q3⟩ := h.turn hop za zb ea eb hne
      have ia := h.ia
      have jb := h.jb
      have hT : Turn op a b L k r on fr i j =
          (bif (op (od (i + adv (a.drop i) (edgeAt (a.drop i) (b.drop j)))) (od (j + adv (b.drop j) (edgeAt (a.drop i) (b.drop j)))) == on) then L k r on fr (i + adv (a.drop i) (edgeAt (a.drop i) (b.drop j))) (j + adv (b.drop j) (edgeAt (a.drop i) (b.drop j)))
           else bif on then L k (r ++ [(fr, edgeAt (a.drop i) (b.drop j) - fr - 1)]) (op (od (i + adv (a.drop i) (edgeAt (a.drop i) (b.drop j)))) (od (j + adv (b.drop j) (edgeAt (a.drop i) (b.drop j))))) (edgeAt (a.drop i) (b.drop j)) (i + adv (a.drop i) (edgeAt (a.drop i) (b.drop j))) (j + adv (b.drop j) (edgeAt (a.drop i) (b.drop j)))
           else L k r (op (od (i + adv (a.drop i) (edgeAt (a.drop i) (b.drop j)))) (od (j + adv (b.drop j) (edgeAt (a.drop i) (b.drop j))))) (edgeAt (a.drop i) (b.drop j)) (i + adv (a.drop i) (edgeAt (a.drop i) (b.drop j))) (j + adv (b.drop j) (edgeAt (a.drop i) (b.drop j)))) := by
        unfold Turn
        split
        · rename_i e1 e2
          exact absurd ⟨e1, e2⟩ hne
        · rfl
      rw [hT]
      generalize edgeAt (a.drop i) (b.drop j) = t at *
      generalize i + adv (a.drop i) t = i' at *
      generalize j + adv (b.drop j) t = j' at *
      generalize op (od i') (od j') = now at *
      cases hn1 : (now == on) with
      | true =>
        have := q1 (by simpa using hn1)
        have l1 := this.ia
        have l2 := this.jb
        exact walk_good hop za zb ea eb hL (n - 1) k _ _ _ _ _ _ (by omega) (by omega) this
      | false =>
        have hn2 : now ≠ on := by simpa using hn1
        cases on with
        | true =>
          have := q2 hn2 rfl
          have l1 := this.ia
          have l2 := this.jb
          exact walk_good hop za zb ea eb hL (n - 1) k _ _ _ _ _ _ (by omega) (by omega) this
        | false =>
          have := q3 hn2 rfl
          have l1 := this.ia
          have l2 := this.jb
          exact walk_good hop za zb ea eb hL (n - 1) k _ _ _ _ _ _ (by omega) (by omega) this
theorem einv0 {op : Bool → Bool → Bool} {a b : List Int} (hop : op false false = false) (za : srt 0 a) (zb : srt 0 b) : EInv op a b 0 [] false 0 0 0 := by
  refine ⟨by omega, by omega, by omega, by omega, by simpa using za, by simpa using zb, fun x _ => by simp [od], fun x _ => by simp [od], by simp [od, hop], (fun h => nomatch h), rfl, (fun p hp => nomatch hp), (fun p hp => nomatch hp), fun x hx => ?_, by simp⟩
  rw [par_low za hx, par_low zb hx, hop]
  rfl
theorem walk_all {op : Bool → Bool → Bool} {a b : List Int} (hop : op false false = false) (za : srt 0 a) (zb : srt 0 b) (ea : od a.length = false) (eb : od b.length = false)
    {L : Nat → List Run → Bool → Int → Nat → Nat → Option (List Run)} {K : Nat}
    (hL : ∀ k m r on fr i j, K ≤ k → EInv op a b m r on fr i j → L (k + 1) r on fr i j = Turn op a b L k r on fr i j) (k : Nat) (hk : K + a.length + b.length + 1 ≤ k) :
    ∃ r', L k [] false 0 0 0 = some r' ∧ Good op a b r' :=
  walk_good hop za zb ea eb hL (a.length + b.length) k 0 [] false 0 0 0 (by omega) (by omega) (einv0 hop za zb)
end Go.Rx.Plain

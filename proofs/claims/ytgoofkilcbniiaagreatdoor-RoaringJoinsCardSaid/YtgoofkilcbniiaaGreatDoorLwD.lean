/- LwD: texts of one kind, laid side by side. -/
import Derived.Test.YtgoofkilcbniiaaGreatDoorLwC
import Derived.KernelRfl
/-! Sets, part 1: rows of a set of numbers below 2^32, spans, counts. -/
namespace Go.Rx.Tryz
open Go.Rx.Plain Go.IntWalk
set_option linter.unusedVariables false
set_option linter.unusedSimpArgs false
def row (F : Int → Bool) (K y : Int) : Bool := (decide (0 ≤ y) && decide (y < 65536)) && F (K * 65536 + y)
theorem row_sup (F : Int → Bool) (K : Int) : Sup (row F K) := fun y hy => by
  unfold row
  have : (decide (0 ≤ y) && decide (y < 65536)) = false := by
    rw [Bool.and_eq_false_iff, decide_eq_false_iff_not, decide_eq_false_iff_not]
    omega
  rw [this]
  rfl
theorem row_in {F : Int → Bool} {K y : Int} (h0 : 0 ≤ y) (h1 : y < 65536) : row F K y = F (K * 65536 + y) := by
  unfold row
  rw [decide_eq_true h0, decide_eq_true h1]
  rfl
theorem row_congr {F G : Int → Bool} {K : Int} (h : ∀ y, 0 ≤ y → y < 65536 → F (K * 65536 + y) = G (K * 65536 + y)) : row F K = row G K := by
  funext y
  by_cases q : 0 ≤ y ∧ y < 65536
  · rw [row_in q.1 q.2, row_in q.1 q.2, h y q.1 q.2]
  · rw [row_sup F K y (by omega), row_sup G K y (by omega)]
def Sup32 (F : Int → Bool) : Prop := ∀ x, x < 0 ∨ 4294967296 ≤ x → F x = false
theorem ext32 {F G : Int → Bool} (hF : Sup32 F) (hG : Sup32 G) (h : ∀ K, 0 ≤ K → K < 65536 → row F K = row G K) : F = G := by
  funext x
  by_cases q : 0 ≤ x ∧ x < 4294967296
  · have := congrFun (h (x / 65536) (by omega) (by omega)) (x % 65536)
    rw [row_in (by omega) (by omega), row_in (by omega) (by omega), show x / 65536 * 65536 + x % 65536 = x by omega] at this
    exact this
  · rw [hF x (by omega), hG x (by omega)]
/-! ### Spans -/
def spF : Int → List (Int × Int) → Prop
  | _, [] => True
  | m, p :: t => m ≤ p.1 ∧ p.1 < p.2 ∧ p.2 ≤ 4294967296 ∧ spF (p.2 + 1) t
def hasS (l : List (Int × Int)) (x : Int) : Bool := l.any fun p => decide (p.1 ≤ x) && decide (x < p.2)
theorem hasS_cons (p : Int × Int) (t : List (Int × Int)) (x : Int) : hasS (p :: t) x = ((decide (p.1 ≤ x) && decide (x < p.2)) || hasS t x) := rfl
theorem hasS_append (r s : List (Int × Int)) (x : Int) : hasS (r ++ s) x = (hasS r x || hasS s x) := by simp [hasS]
theorem sp_low {x : Int} : ∀ {l : List (Int × Int)} {m : Int}, spF m l → x < m → hasS l x = false
  | [], _, _, _ => rfl
  | p :: t, m, ⟨h1, h2, h3, h4⟩, hx => by
    rw [hasS_cons, sp_low h4 (by omega), decide_eq_false (by omega)]
    rfl
theorem sp_ext : ∀ {a b : List (Int × Int)} {m n : Int}, spF m a → spF n b → (∀ x, hasS a x = hasS b x) → a = b
  | [], [], _, _, _, _, _ => rfl
  | [], q :: t, _, _, _, ⟨h1, h2, h3, h4⟩, h => by
    have := h q.1
    rw [hasS_cons, decide_eq_true (Int.le_refl _), decide_eq_true h2] at this
    cases this
  | p :: s, [], _, _, ⟨h1, h2, h3, h4⟩, _, h => by
    have := h p.1
    rw [hasS_cons, decide_eq_true (Int.le_refl _), decide_eq_true h2] at this
    cases this
  | p :: s, q :: t, m, n, ⟨a1, a2, a3, a4⟩, ⟨b1, b2, b3, b4⟩, h => by
    have e1 : p.1 = q.1 := by
      have k1 : ¬ p.1 < q.1 := fun c => by
        have := h p.1
        rw [hasS_cons, decide_eq_true (Int.le_refl _), decide_eq_true a2, hasS_cons, decide_eq_false (by omega), sp_low b4 (by omega)] at this
        cases this
      have k2 : ¬ q.1 < p.1 := fun c => by
        have := h q.1
        rw [hasS_cons, decide_eq_false (by omega), sp_low a4 (by omega), hasS_cons, decide_eq_true (Int.le_refl _), decide_eq_true b2] at this
        cases this
      omega
    have e2 : p.2 = q.2 := by
      have k1 : ¬ p.2 < q.2 := fun c => by
        have := h p.2
        rw [hasS_cons, decide_eq_false (Int.lt_irrefl _), Bool.and_false, sp_low a4 (by omega), hasS_cons, decide_eq_true (by omega), decide_eq_true c] at this
        cases this
      have k2 : ¬ q.2 < p.2 := fun c => by
        have := h q.2
        rw [hasS_cons, decide_eq_true (by omega), decide_eq_true c, hasS_cons, decide_eq_false (Int.lt_irrefl _), Bool.and_false, sp_low b4 (by omega)] at this
        cases this
      omega
    have hp : p = q := by
      obtain ⟨p1, p2⟩ := p
      obtain ⟨q1, q2⟩ := q
      simp only at e1 e2
      rw [e1, e2]
    subst hp
    rw [sp_ext a4 b4 fun x => by
      by_cases c : x < p.2 + 1
      · rw [sp_low a4 c, sp_low b4 c]
      · have := h x
        rw [hasS_cons, hasS_cons, decide_eq_false (p := x < p.2) (by omega), Bool.and_false, Bool.false_or, Bool.false_or] at this
        exact this]
theorem sp_snoc {lo hi : Int} (h1 : lo < hi) (h2 : hi ≤ 4294967296) : ∀ {l : List (Int × Int)} {m : Int}, spF m l → (∀ p, p ∈ l → p.2 < lo) → m ≤ lo → spF m (l ++ [(lo, hi)])
  | [], _, _, _, hm => ⟨hm, h1, h2, trivial⟩
  | p :: t, m, ⟨a1, a2, a3, a4⟩, hl, hm => ⟨a1, a2, a3, sp_snoc h1 h2 a4 (fun q hq => hl q (by simp [hq])) (by have := hl p (by simp); omega)⟩
theorem sp_last {lo hi hi' : Int} (h1 : lo < hi') (h2 : hi' ≤ 4294967296) : ∀ {l : List (Int × Int)} {m : Int}, spF m (l ++ [(lo, hi)]) → spF m (l ++ [(lo, hi')])
  | [], _, ⟨a1, a2, a3, a4⟩ => ⟨a1, h1, h2, trivial⟩
  | p :: t, m, ⟨a1, a2, a3, a4⟩ => ⟨a1, a2, a3, sp_last h1 h2 a4⟩
theorem sp_bef {q : Int × Int} : ∀ {l : List (Int × Int)} {m : Int}, spF m (l ++ [q]) → m ≤ q.1 ∧ q.1 < q.2 ∧ ∀ p, p ∈ l → p.2 < q.1
  | [], _, ⟨a1, a2, a3, a4⟩ => ⟨a1, a2, fun p hp => (nomatch hp)⟩
  | p :: t, m, ⟨a1, a2, a3, a4⟩ => by
    obtain ⟨r1, r2, r3⟩ := sp_bef (l := t) a4
    refine ⟨by omega, r2, fun p' hp' => ?_⟩
    rcases List.mem_cons.1 hp' with rfl | hp'
    · omega
    · exact r3 p' hp'
/-- Spans of what is below a place. -/
structure SpTo (l : List (Int × Int)) (F : Int → Bool) (B : Int) : Prop where
  sp : spF 0 l
  le : ∀ p, p ∈ l → p.2 ≤ B
  has : ∀ x, hasS l x = (F x && decide (x < B))
theorem SpTo.skip {l : List (Int × Int)} {F : Int → Bool} {B B' : Int} (h : SpTo l F B) (hb : B ≤ B') (hf : ∀ x, B ≤ x → x < B' → F x = false) : SpTo l F B' := by
  refine ⟨h.sp, fun p hp => Int.le_trans (h.le p hp) hb, fun x => ?_⟩
  rw [h.has x]
  by_cases c : x < B
  · rw [decide_eq_true c, decide_eq_true (by omega)]
  · by_cases c2 : x < B'
    · rw [hf x (by omega) c2]; rfl
    · rw [decide_eq_false c, decide_eq_false c2]
theorem SpTo.more {l : List (Int × Int)} {F : Int → Bool} {B hi : Int} {q : Int × Int} (h : SpTo (l ++ [q]) F B) (hq : q.2 = B) (h1 : B < hi) (h2 : hi ≤ 4294967296) (hf : ∀ x, B ≤ x → x < hi → F x = true) : SpTo (l ++ [(q.1, hi)]) F hi := by
  obtain ⟨b1, b2, b3⟩ := sp_bef h.sp
  refine ⟨sp_last (by omega) h2 h.sp, fun p hp => ?_, fun x => ?_⟩
  · rcases List.mem_append.1 hp with hp | hp
    · have := b3 p hp; omega
    · rw [List.mem_singleton.1 hp]; exact Int.le_refl _
  · have := h.has x
    rw [hasS_append] at this ⊢
    rw [hasS_cons] at this ⊢
    rw [show hasS [] x = false from rfl, Bool.or_false] at this ⊢
    by_cases c : x < B
    · rw [decide_eq_true c] at this
      rw [decide_eq_true (p := x < hi) (by omega), ← this, decide_eq_true (p := x < q.2) (by omega)]
    · by_cases c2 : x < hi
      · rw [decide_eq_true c2, hf x (by omega) c2, decide_eq_true (p := q.1 ≤ x) (by omega)]
        simp
      · rw [decide_eq_false c2, Bool.and_false, Bool.and_false, Bool.or_false]
        rw [decide_eq_false c, decide_eq_false (p := x < q.2) (by omega), Bool.and_false, Bool.and_false, Bool.or_false] at this
        exact this
theorem SpTo.new {l : List (Int × Int)} {F : Int → Bool} {B hi : Int} (h : SpTo l F B) (h0 : 0 ≤ B) (hq : ∀ p, p ∈ l → p.2 ≠ B) (h1 : B < hi) (h2 : hi ≤ 4294967296) (hf : ∀ x, B ≤ x → x < hi → F x = true) : SpTo (l ++ [(B, hi)]) F hi := by
  refine ⟨sp_snoc h1 h2 h.sp (fun p hp => ?_) h0, fun p hp => ?_, fun x => ?_⟩
  · have := h.le p hp
    have := hq p hp
    omega
  · rcases List.mem_append.1 hp with hp | hp
    · have := h.le p hp; omega
    · rw [List.mem_singleton.1 hp]; exact Int.le_refl _
  · rw [hasS_append, h.has x, hasS_cons, show hasS [] x = false from rfl, Bool.or_false]
    by_cases c : x < B
    · rw [decide_eq_true c, decide_eq_true (p := x < hi) (by omega), decide_eq_false (p := B ≤ x) (by omega)]
      simp
    · by_cases c2 : x < hi
      · rw [decide_eq_true c2, hf x (by omega) c2, decide_eq_true (p := B ≤ x) (by omega)]
        simp
      · rw [decide_eq_false c2, decide_eq_false c]
        simp
/-! ### Counts -/
def sumI (g : Int → Int) (a : Int) : Nat → Int
  | 0 => 0
  | n + 1 => g a + sumI g (a + 1) n
theorem sumI_congr {g h : Int → Int} : ∀ {n : Nat} {a : Int}, (∀ x, a ≤ x → x < a + (n : Int) → g x = h x) → sumI g a n = sumI h a n
  | 0, _, _ => rfl
  | n + 1, a, q => by
    rw [sumI, sumI, q a (Int.le_refl _) (by omega), sumI_congr fun x h1 h2 => q x (by omega) (by omega)]
theorem sumI_snoc (g : Int → Int) : ∀ (n : Nat) (a : Int), sumI g a (n + 1) = sumI g a n + g (a + (n : Int))
  | 0, a => by simp [sumI]
  | n + 1, a => by
    have := sumI_snoc g n (a + 1)
    rw [sumI, this, sumI, show a + 1 + (n : Int) = a + ((n + 1 : Nat) : Int) by omega, Int.add_assoc]
theorem sumI_zero {g : Int → Int} : ∀ {n : Nat} {a : Int}, (∀ x, a ≤ x → x < a + (n : Int) → g x = 0) → sumI g a n = 0
  | 0, _, _ => rfl
  | n + 1, a, q => by
    rw [sumI, q a (Int.le_refl _) (by omega), sumI_zero fun x h1 h2 => q x (by omega) (by omega)]
    rfl
def sumK (g : Int → Int) : List Int → Int
  | [] => 0
  | a :: t => g a + sumK g t
theorem sumI_split (g : Int → Int) : ∀ (n m : Nat) (a : Int), sumI g a (n + m) = sumI g a n + sumI g (a + (n : Int)) m
  | 0, m, a => by simp [sumI]
  | n + 1, m, a => by
    rw [show n + 1 + m = (n + m) + 1 by omega, sumI, sumI, sumI_split g n m (a + 1), show a + 1 + (n : Int) = a + ((n + 1 : Nat) : Int) by omega, Int.add_assoc]
theorem sum_keys {g : Int → Int} : ∀ {ks : List Int} {m : Int} {n : Nat}, ris m ks → m + (n : Int) = 65536 → (∀ K, m ≤ K → K < 65536 → ¬ K ∈ ks → g K = 0) → sumK g ks = sumI g m n
  | [], m, n, _, hn, h => by rw [sumK, sumI_zero fun x h1 h2 => h x h1 (by omega) (by simp)]
  | a :: t, m, n, ⟨h1, h2, h3⟩, hn, h => by
    have e1 : n = (a - m).toNat + ((65536 - (a + 1)).toNat + 1) := by omega
    have e2 : m + ((a - m).toNat : Int) = a := by omega
    rw [e1, sumI_split, e2, sumI_zero (n := (a - m).toNat) (fun x q1 q2 => h x q1 (by omega) (fun q => by
      rcases List.mem_cons.1 q with q | q
      · omega
      · have := (ris_low h3 q).1; omega)), sumI, sumK, sum_keys (g := g) (n := (65536 - (a + 1)).toNat) h3 (by omega) (fun K q1 q2 q3 => h K (by omega) q2 (fun q => by
      rcases List.mem_cons.1 q with q | q
      · omega
      · exact q3 q))]
    omega
theorem memI_one (f : Int → Bool) (i : Nat) : memI f 0 (i + 1) = memI f 0 i ++ (if f (i : Int) then [(i : Int)] else []) := by
  rw [memI_split]
  congr 1
  unfold memI
  rw [show List.range 1 = [0] from rfl]
  simp only [List.filter_cons, List.filter_nil, Int.natCast_zero, Int.add_zero, Int.zero_add]
  split <;> simp
def ivl (lo hi x : Int) : Bool := decide (lo ≤ x) && decide (x < hi)
theorem cnt_ivl (a b : Int) : ∀ n : Nat, ((memI (ivl a b) 0 n).length : Int) = max 0 (min b (n : Int) - max a 0)
  | 0 => by
    have : memI (ivl a b) 0 0 = [] := rfl
    rw [this]
    simp only [List.length_nil]
    omega
  | n + 1 => by
    have ih := cnt_ivl a b n
    rw [memI_one, List.length_append]
    unfold ivl at ih ⊢
    by_cases c : a ≤ (n : Int)
    · by_cases d : (n : Int) < b
      · rw [decide_eq_true c, decide_eq_true d, Bool.and_self, if_pos rfl]
        simp only [List.length_cons, List.length_nil]
        omega
      · rw [decide_eq_false d, Bool.and_false, if_neg (by decide)]
        simp only [List.length_nil]
        omega
    · rw [decide_eq_false c, Bool.false_and, if_neg (by decide)]
      simp only [List.length_nil]
      omega
theorem nF_con {f g : Int → Bool} (h : ∀ x, 0 ≤ x → x < 65536 → f x = g x) : nF f = nF g := by
  unfold nF
  rw [mem_def, mem_def, memI_congr fun x h1 h2 => h x h1 (by omega)]
theorem nF_ivl (a b : Int) : nF (ivl a b) = max 0 (min b 65536 - max a 0) := by
  unfold nF
  rw [mem_def]
  exact cnt_ivl a b 65536
theorem row_ivl {lo hi K : Int} : nF (row (ivl lo hi) K) = max 0 (min hi ((K + 1) * 65536) - max lo (K * 65536)) := by
  rw [nF_con (g := ivl (lo - K * 65536) (hi - K * 65536)) fun x h0 h1 => by
    rw [row_in h0 h1]
    unfold ivl
    congr 1
    · exact decide_eq_decide.2 (by omega)
    · exact decide_eq_decide.2 (by omega), nF_ivl]
  omega
/-- How many numbers a set has. -/
def tot (F : Int → Bool) : Int := sumI (fun K => nF (row F K)) 0 65536
theorem sum_ivl {lo hi : Int} (h0 : 0 ≤ lo) : ∀ n : Nat, sumI (fun K => nF (row (ivl lo hi) K)) 0 n = max 0 (min hi ((n : Int) * 65536) - lo)
  | 0 => by
    rw [sumI]
    omega
  | n + 1 => by
    rw [sumI_snoc, sum_ivl h0 n, row_ivl]
    simp only [Int.zero_add]
    have : (((n + 1 : Nat) : Int) * 65536) = ((n : Int) + 1) * 65536 := by omega
    rw [this]
    omega
theorem tot_ivl {lo hi : Int} (h0 : 0 ≤ lo) (h1 : hi ≤ 4294967296) : tot (ivl lo hi) = max 0 (hi - lo) := by
  unfold tot
  have := sum_ivl (hi := hi) h0 65536
  rw [this]
  omega
theorem ris_eq {a b : List Int} (ha : ris 0 a) (hb : ris 0 b) (h : ∀ x, x ∈ a ↔ x ∈ b) : a = b := by
  rw [ris_mem ha (by omega), ris_mem hb (by omega)]
  exact memI_congr fun x _ _ => by rw [Bool.eq_iff_iff, decide_eq_true_eq, decide_eq_true_eq]; exact h x
end Go.Rx.Tryz
/-! Sets, part 2: found, got, put; ranges added; how many. -/
namespace Go.Rx.Tryz
open Go.Rx.Plain Go.IntWalk
set_option linter.unusedVariables false
set_option linter.unusedSimpArgs false
theorem wbs_l0_eq {r : List Int} {x : Int} (hm : ris 0 r) (n : Int) : ∀ (d k i j : Nat), j - i ≤ d → d + 1 ≤ k → i ≤ j → j ≤ r.length → (∀ t p, t < i → r[t]? = some p → p < x) → (∀ t p, j ≤ t → r[t]? = some p → x ≤ p) →
    ∃ i' : Nat, slices_BinarySearch_uint16_w_l0 k r x n i j = some (r, x, n, (i' : Int)) ∧ i' ≤ r.length ∧ (∀ t p, t < i' → r[t]? = some p → p < x) ∧ (∀ t p, i' ≤ t → r[t]? = some p → x ≤ p)
  | d, 0, i, j, h1, h2, h3, h4, h5, h6 => by omega
  | d, k + 1, i, j, h1, h2, h3, h4, h5, h6 => by
    have hb := ris_len hm
    rw [slices_BinarySearch_uint16_w_l0]
    by_cases c : i < j
    · have c1 : ((i : Int) < (j : Int)) := by omega
      have e := half i j (by omega)
      have l1 : i ≤ (i + j) / 2 := by omega
      have l2 : (i + j) / 2 < j := by omega
      generalize (i + j) / 2 = hf at e l1 l2
      simp only [c1, decide_true, cond_true]
      rw [e]
      have c2 : (0 : Int) ≤ (hf : Int) := by omega
      have c3 : (hf : Int) < (r.length : Int) := by omega
      have hg := getD_some0 (l := r) (i := hf) (by omega)
      simp only [c2, c3, decide_true, cond_true, Int.toNat_natCast]
      generalize r.getD hf 0 = p at hg ⊢
      have hl : cmp_Less_uint16 k p x = some (decide (p < x)) := by
        unfold cmp_Less_uint16 cmp_isNaN_uint16
        simp
      rw [hl]
      simp only [Option.bind_some]
      have e2 : IntKind.wrap .i64 ((hf : Int) + 1) = ((hf + 1 : Nat) : Int) := by rw [i64_in _ ⟨by omega, by omega⟩]; omega
      rw [e2]
      by_cases q : p < x
      · simp only [q, decide_true, cond_true]
        exact wbs_l0_eq hm n (d - 1) k (hf + 1) j (by omega) (by omega) (by omega) h4 (fun t p' ht hp' => by
          by_cases ht2 : t = hf
          · subst ht2
            rw [hg] at hp'
            cases hp'
            omega
          · have := ris_lt hm t hf p' p (by omega) hp' hg
            omega) h6
      · simp only [q, decide_false, cond_false]
        exact wbs_l0_eq hm n (d - 1) k i hf (by omega) (by omega) l1 (by omega) h5 (fun t p' ht hp' => by
          by_cases ht2 : t = hf
          · subst ht2
            rw [hg] at hp'
            cases hp'
            omega
          · have := ris_lt hm hf t p p' (by omega) hg hp'
            omega)
    · have c1 : ¬ ((i : Int) < (j : Int)) := by omega
      have : i = j := by omega
      subst this
      exact ⟨i, by simp only [c1, decide_false, cond_false], h4, h5, h6⟩
/-- Where it stands, or would, and whether it is there. -/
theorem WFind {r : List Int} {k : Nat} {x : Int} (hm : ris 0 r) (hk : r.length + 1 ≤ k) : ∃ i : Nat, slices_BinarySearch_uint16_w k r x = some (r, (i : Int), decide (x ∈ r)) ∧ i ≤ r.length ∧ (∀ t p, t < i → r[t]? = some p → p < x) ∧ (∀ t p, i ≤ t → r[t]? = some p → x ≤ p) := by
  obtain ⟨i, e, h1, h2, h3⟩ := wbs_l0_eq (x := x) hm (r.length : Int) r.length k 0 r.length (by omega) hk (by omega) (by omega) (fun t p ht _ => by omega) (fun t p ht hp => by
    have := (List.getElem?_eq_some_iff.1 hp).1
    omega)
  refine ⟨i, ?_, h1, h2, h3⟩
  unfold slices_BinarySearch_uint16_w
  have e' : slices_BinarySearch_uint16_w_l0 k r x (r.length : Int) 0 (r.length : Int) = some (r, x, (r.length : Int), (i : Int)) := e
  rw [e']
  simp only [Option.bind_some]
  by_cases c : (i : Int) < (r.length : Int)
  · have c0 : (0 : Int) ≤ (i : Int) := by omega
    have hg := getD_some0 (l := r) (i := i) (by omega)
    simp only [c, c0, decide_true, cond_true, Int.toNat_natCast]
    by_cases q : r.getD i 0 = x
    · have hx : x ∈ r := by
        rw [← q]
        exact List.mem_of_getElem? hg
      simp only [q, decide_true, cond_true, Option.bind_some, hx]
    · have hx : ¬ x ∈ r := by
        intro h
        obtain ⟨t, ht⟩ := List.getElem?_of_mem h
        by_cases c2 : t < i
        · have := h2 t x c2 ht; omega
        · by_cases c3 : t = i
          · subst c3
            rw [hg] at ht
            exact q (Option.some.inj ht)
          · have := ris_lt hm i t _ x (by omega) hg ht
            have := h3 i _ (Nat.le_refl _) hg
            omega
      simp only [q, decide_false, cond_false, slices_isNaN_uint16, decide_true, Bool.not_true, Option.bind_some, hx]
  · have : ¬ x ∈ r := by
      intro h
      obtain ⟨t, ht⟩ := List.getElem?_of_mem h
      have hl := (List.getElem?_eq_some_iff.1 ht).1
      have := h2 t x (by omega) ht
      omega
    simp [c, this]

theorem u16_mod (n : Int) : IntKind.wrap .u16 n = n % 65536 := by simp [IntKind.wrap, IntKind.bits, IntKind.signed]
theorem shr16 {k : IntKind} (hk : 16 ≤ k.bits) (n : Int) : shrI k n 16 = n / 65536 := by
  unfold shrI
  rw [show min (Int.toNat 16) k.bits = 16 from Nat.min_eq_left hk, Int.fdiv_eq_ediv_of_nonneg _ (by decide)]
  rfl
theorem shl16 {n : Int} (h0 : 0 ≤ n) (h1 : n ≤ 65536) : shlI .u64 n 16 = n * 65536 := by
  unfold shlI
  rw [show min (Int.toNat 16) (IntKind.bits .u64) = 16 from rfl, show (2 : Int) ^ 16 = 65536 from rfl]
  exact u64_in _ ⟨by omega, by omega⟩
/-! ### A set -/
abbrev Canon (c : Cont) (f : Int → Bool) : Prop := IsC c f ∧ max c.1 1 = kF (nF f) (rF f)
def Cs (F : Int → Bool) : List Int → List Cont → Prop
  | [], [] => True
  | K :: ks, c :: cs => Canon c (row F K) ∧ Cs F ks cs
  | _, _ => False
structure IsS (ks : List Int) (cs : List Cont) (F : Int → Bool) : Prop where
  ris : ris 0 ks
  con : Cs F ks cs
  full : ∀ K y, row F K y = true → 0 ≤ K → K < 65536 → K ∈ ks
  ne : ∀ K, K ∈ ks → ∃ y, row F K y = true
  sup : Sup32 F
theorem Cs.len {F : Int → Bool} : ∀ {ks : List Int} {cs : List Cont}, Cs F ks cs → cs.length = ks.length
  | [], [], _ => rfl
  | _ :: _, _ :: _, h => by rw [List.length_cons, List.length_cons, Cs.len h.2]
theorem Cs.get {F : Int → Bool} : ∀ {ks : List Int} {cs : List Cont} {i : Nat} {K : Int} {d : Cont}, Cs F ks cs → ks[i]? = some K → Canon (cs.getD i d) (row F K) ∧ i < cs.length
  | _ :: _, _ :: _, 0, _, _, h, hk => by
    cases hk
    exact ⟨h.1, by simp⟩
  | _ :: ks, _ :: cs, i + 1, K, d, h, hk => by
    rw [List.getElem?_cons_succ] at hk
    have := Cs.get (d := d) h.2 hk
    exact ⟨by rw [List.getD_cons_succ]; exact this.1, by rw [List.length_cons]; omega⟩
theorem Cs.congr {F G : Int → Bool} : ∀ {ks : List Int} {cs : List Cont}, Cs F ks cs → (∀ K, K ∈ ks → row F K = row G K) → Cs G ks cs
  | [], [], _, _ => trivial
  | K :: _, _ :: _, h, q => ⟨by rw [← q K (by simp)]; exact h.1, Cs.congr h.2 fun K' hk => q K' (by simp [hk])⟩
theorem Cs.snoc {F : Int → Bool} {K : Int} {c : Cont} (hc : Canon c (row F K)) : ∀ {ks : List Int} {cs : List Cont}, Cs F ks cs → Cs F (ks ++ [K]) (cs ++ [c])
  | [], [], _ => ⟨hc, trivial⟩
  | _ :: _, _ :: _, h => ⟨h.1, Cs.snoc hc h.2⟩
theorem Cs.set {F G : Int → Bool} {K : Int} {c : Cont} (hc : Canon c (row G K)) : ∀ {ks : List Int} {cs : List Cont} {i : Nat}, Cs F ks cs → ks[i]? = some K → (∀ j K', ks[j]? = some K' → j ≠ i → row F K' = row G K') → Cs G ks (cs.set i c)
  | K' :: ks, c' :: cs, 0, h, hk, q => by
    cases hk
    exact ⟨hc, h.2.congr fun K' hk => by
      obtain ⟨t, ht⟩ := List.getElem?_of_mem hk
      exact q (t + 1) K' (by rw [List.getElem?_cons_succ]; exact ht) (by omega)⟩
  | K' :: ks, c' :: cs, i + 1, h, hk, q => by
    rw [List.getElem?_cons_succ] at hk
    refine ⟨by rw [← q 0 K' rfl (by omega)]; exact h.1, Cs.set hc h.2 hk fun j K'' hj hne => q (j + 1) K'' (by rw [List.getElem?_cons_succ]; exact hj) (by omega)⟩
theorem IsS.empty : IsS [] [] (fun _ => false) := by
  refine ⟨trivial, trivial, fun K y h _ _ => ?_, fun K h => ?_, fun _ _ => rfl⟩
  · unfold row at h
    rw [Bool.and_false] at h
    cases h
  · cases h
/-- A row laid anew. -/
def upd (F : Int → Bool) (K : Int) (g : Int → Bool) (x : Int) : Bool := if K * 65536 ≤ x ∧ x < (K + 1) * 65536 then g (x - K * 65536) else F x
theorem row_upd {F g : Int → Bool} {K : Int} (hg : Sup g) : row (upd F K g) K = g := by
  funext y
  by_cases q : 0 ≤ y ∧ y < 65536
  · rw [row_in q.1 q.2]
    unfold upd
    rw [if_pos (by omega), show K * 65536 + y - K * 65536 = y by omega]
  · rw [row_sup _ K y (by omega), hg y (by omega)]
theorem row_upd_ne {F g : Int → Bool} {K K' : Int} (h : K' ≠ K) : row (upd F K g) K' = row F K' := row_congr fun y h0 h1 => by
  unfold upd
  rw [if_neg (by omega)]
theorem upd_sup {F g : Int → Bool} {K : Int} (hF : Sup32 F) (hK : 0 ≤ K ∧ K < 65536) : Sup32 (upd F K g) := fun x hx => by
  unfold upd
  rw [if_neg (by omega)]
  exact hF x hx
theorem isC_zero {f : Int → Bool} (h : ∀ x, f x = false) : IsC ((0 : Int), (([] : List Int), (([] : List Int), ([] : List (Int × Int))))) f := by
  have : mem f = [] := by
    rw [mem_def]
    exact memI_none fun x _ _ => h x
  have e : IsC ((0 : Int), (mem f, (([] : List Int), ([] : List (Int × Int))))) f := .arr (.inl rfl)
  rw [this] at e
  exact e
theorem ris_snoc {K : Int} : ∀ {ks : List Int} {m : Int}, ris m ks → (∀ p, p ∈ ks → p < K) → m ≤ K → K < 65536 → ris m (ks ++ [K])
  | [], _, _, _, h1, h2 => ⟨h1, h2, trivial⟩
  | a :: t, m, ⟨a1, a2, a3⟩, hp, h1, h2 => ⟨a1, a2, ris_snoc a3 (fun p hq => hp p (by simp [hq])) (by have := hp a (by simp); omega) h2⟩
/-- Where a key stands. -/
theorem SFind {ks : List Int} {cs : List Cont} {F : Int → Bool} {K : Int} {k : Nat} (h : IsS ks cs F) (hk : 70000 ≤ k) :
    ∃ i : Nat, roaring_Set_find k ks cs K = some (ks, cs, (i : Int), decide (K ∈ ks)) ∧ i ≤ ks.length ∧ (K ∈ ks → ks[i]? = some K) ∧ (∀ t p, t < i → ks[t]? = some p → p < K) ∧ (∀ t p, i ≤ t → ks[t]? = some p → K ≤ p) := by
  have hl := ris_len h.ris
  obtain ⟨i, e, h1, h2, h3⟩ := WFind (k := k) (x := K) h.ris (by omega)
  refine ⟨i, by unfold roaring_Set_find; rw [e]; rfl, h1, fun hm => ?_, h2, h3⟩
  obtain ⟨t, ht⟩ := List.getElem?_of_mem hm
  have a1 : ¬ t < i := fun c => by have := h2 t K c ht; omega
  have a2 : ¬ i < t := fun c => by
    have hti := (List.getElem?_eq_some_iff.1 ht).1
    have hg := getD_some0 (l := ks) (i := i) (by omega)
    have := ris_lt h.ris i t _ K c hg ht
    have := h3 i _ (Nat.le_refl _) hg
    omega
  have : t = i := by omega
  rw [← this]
  exact ht
theorem SGet {ks : List Int} {cs : List Cont} {F : Int → Bool} {K : Int} {k : Nat} (h : IsS ks cs F) (hK : 0 ≤ K ∧ K < 65536) (hk : 70000 ≤ k) : ∃ c, roaring_Set_get k ks cs K = some (ks, cs, c) ∧ IsC c (row F K) := by
  obtain ⟨i, e, h1, h2, _, _⟩ := SFind (K := K) h hk
  unfold roaring_Set_get
  rw [e]
  simp only [Option.bind_some]
  by_cases q : K ∈ ks
  · obtain ⟨g1, g2⟩ := Cs.get (d := ((0 : Int), ([], ([], [])))) h.con (h2 q)
    have c1 : ((i : Int) < (cs.length : Int)) := by omega
    have c0 : (0 : Int) ≤ (i : Int) := by omega
    rw [decide_eq_true q]
    simp only [cond_true, decide_eq_true c0, decide_eq_true c1, Int.toNat_natCast]
    exact ⟨_, rfl, g1.1⟩
  · rw [decide_eq_false q]
    simp only [cond_false]
    exact ⟨_, rfl, isC_zero fun x => by
      cases hx : row F K x with
      | false => rfl
      | true => exact absurd (h.full K x hx hK.1 hK.2) q⟩
theorem SPut {ks : List Int} {cs : List Cont} {F g : Int → Bool} {K : Int} {c : Cont} {k : Nat} (h : IsS ks cs F) (hK : 0 ≤ K ∧ K < 65536) (hg : Sup g) (hc : Canon c g) (hne : ∃ y, g y = true) (hins : K ∈ ks ∨ ∀ p, p ∈ ks → p < K) (hk : 70000 ≤ k) :
    ∃ ks' cs', roaring_Set_put k ks cs K c = some (ks', cs') ∧ IsS ks' cs' (upd F K g) ∧ ∀ p, p ∈ ks' → p ∈ ks ∨ p = K := by
  have hl := ris_len h.ris
  have hlc := h.con.len
  obtain ⟨i, e, h1, h2, h3, h4⟩ := SFind (K := K) h hk
  unfold roaring_Set_put
  rw [e]
  simp only [Option.bind_some]
  have hcr : Canon c (row (upd F K g) K) := by rw [row_upd hg]; exact hc
  have full : ∀ {ks' : List Int}, (∀ p, p ∈ ks → p ∈ ks') → K ∈ ks' → ∀ K' y, row (upd F K g) K' y = true → 0 ≤ K' → K' < 65536 → K' ∈ ks' := fun hs hk K' y hy h0 h1 => by
    by_cases q : K' = K
    · rw [q]; exact hk
    · rw [row_upd_ne q] at hy
      exact hs _ (h.full K' y hy h0 h1)
  have ne : ∀ {ks' : List Int}, (∀ p, p ∈ ks' → p ∈ ks ∨ p = K) → ∀ K', K' ∈ ks' → ∃ y, row (upd F K g) K' y = true := fun hs K' hk => by
    by_cases q : K' = K
    · rw [q, row_upd hg]; exact hne
    · rw [row_upd_ne q]
      exact h.ne K' ((hs K' hk).resolve_right q)
  by_cases q : K ∈ ks
  · have hi := h2 q
    have hil := (List.getElem?_eq_some_iff.1 hi).1
    have c1 : ((i : Int) < (cs.length : Int)) := by omega
    have c0 : (0 : Int) ≤ (i : Int) := by omega
    rw [decide_eq_true q]
    simp only [cond_true, decide_eq_true c0, decide_eq_true c1, Int.toNat_natCast]
    refine ⟨_, _, rfl, ⟨h.ris, h.con.set hcr hi fun j K' hj hne => ?_, full (fun p hp => hp) q, ne (fun p hp => .inl hp), upd_sup h.sup hK⟩, fun p hp => .inl hp⟩
    rw [row_upd_ne]
    intro q2
    subst q2
    rcases Nat.lt_or_gt_of_ne hne with c | c
    · have := ris_lt h.ris j i _ _ c hj hi; omega
    · have := ris_lt h.ris i j _ _ c hi hj; omega
  · have hb := hins.resolve_left q
    have hil : i = ks.length := by
      apply Nat.le_antisymm h1
      apply Nat.le_of_not_lt
      intro c
      have hg := getD_some0 (l := ks) (i := i) c
      have := h4 i _ (Nat.le_refl _) hg
      have := hb _ (List.mem_of_getElem? hg)
      omega
    have c0 : (0 : Int) ≤ (i : Int) := by omega
    have c1 : (i : Int) ≤ (ks.length : Int) := by omega
    have c2 : (i : Int) = (ks.length : Int) := by omega
    have c3 : (i : Int) ≤ (cs.length : Int) := by omega
    have c4 : (i : Int) = (cs.length : Int) := by omega
    have g1 : (ks.length + 1) * 2 ≤ 140737488355328 := by omega
    have g2 : ks.length + 1 ≤ 140737488355328 := by omega
    have g3 : (cs.length + 1) * 80 ≤ 140737488355328 := by omega
    have g4 : cs.length + 1 ≤ 140737488355328 := by omega
    have z1 : ¬ (((0 + 1 : Nat) : Int) = 0) := by omega
    rw [decide_eq_false q]
    refine ⟨ks ++ [K], cs ++ [c], ?_, ⟨?_, (h.con.congr fun K' hk => (row_upd_ne (fun (q2 : K' = K) => q (by rw [← q2]; exact hk))).symm).snoc hcr, full (fun p hp => by simp [hp]) (by simp), ne fun p hp => ?_, upd_sup h.sup hK⟩, fun p hp => ?_⟩
    · unfold slices_Insert_uint16 slices_Insert_Container
      simp only [cond_false, List.length_cons, List.length_nil, decide_eq_true c0, decide_eq_true c1, decide_eq_true c2, decide_eq_true c3, decide_eq_true c4, cond_true, decide_eq_false z1, Nat.zero_add, decide_eq_true g1, decide_eq_true g2, decide_eq_true g3, decide_eq_true g4, Option.bind_some]
    · exact ris_snoc h.ris hb hK.1 hK.2
    · rcases List.mem_append.1 hp with hp | hp
      · exact .inl hp
      · exact .inr (List.mem_singleton.1 hp)
    · rcases List.mem_append.1 hp with hp | hp
      · exact .inl hp
      · exact .inr (List.mem_singleton.1 hp)
/-! ### Ranges -/
def none0 : Int → Bool := fun _ => false
theorem none0_sup : Sup none0 := fun _ _ => rfl
theorem fx_none {a b y : Int} : fx none0 a b y = (decide (max a 0 ≤ y) && decide (y < min b 65536)) := by
  unfold fx none0
  cases (decide (max a 0 ≤ y) && decide (y < min b 65536)) <;> rfl
theorem ivl_cat {lo mid hi x : Int} (h1 : lo ≤ mid) (h2 : mid ≤ hi) : (ivl lo mid x || ivl mid hi x) = ivl lo hi x := by
  unfold ivl
  rw [Bool.eq_iff_iff]
  simp only [Bool.or_eq_true, Bool.and_eq_true, decide_eq_true_eq]
  omega
theorem SAdd_l0 {K0 : Nat} (hK0 : 300000 ≤ K0) : ∀ (d k : Nat) (ks : List Int) (cs : List Cont) (F : Int → Bool) (lo hi : Int), IsS ks cs F → 0 ≤ lo → hi ≤ 4294967296 → (∀ p, p ∈ ks → p ≤ lo / 65536) → (hi + 65535) / 65536 - lo / 65536 ≤ (d : Int) → d + K0 + 1 ≤ k →
    ∃ ks' cs', roaring_Set_AddRange_l0 k ks cs lo hi = some (ks', cs') ∧ IsS ks' cs' (fun x => F x || ivl lo hi x) ∧ ∀ p, p ∈ ks' → p ∈ ks ∨ lo / 65536 ≤ p
  | d, 0, ks, cs, F, lo, hi, h, h0, h1, hp, hd, hk => by omega
  | d, k + 1, ks, cs, F, lo, hi, h, h0, h1, hp, hd, hk => by
    rw [roaring_Set_AddRange_l0]
    by_cases c : lo < hi
    · have hk2 : K0 ≤ k := by omega
      have hk3 : 300000 ≤ k := Nat.le_trans hK0 hk2
      generalize hKd : lo / 65536 = K at *
      have hK : 0 ≤ K ∧ K < 65536 := by omega
      have w1 : shrI .u64 lo 16 = K := by rw [shr16 (by decide), hKd]
      have w2 : IntKind.wrap .u64 (K + 1) = K + 1 := u64_in _ ⟨by omega, by omega⟩
      have w3 : IntKind.wrap .u16 K = K := u16_in _ ⟨by omega, by omega⟩
      have w4 : shlI .u64 K 16 = K * 65536 := shl16 hK.1 (by omega)
      have w5 : shlI .u64 (K + 1) 16 = (K + 1) * 65536 := shl16 (by omega) (by omega)
      have w6 : IntKind.wrap .i64 (IntKind.wrap .u64 (lo - K * 65536)) = lo - K * 65536 := by rw [u64_in _ ⟨by omega, by omega⟩, i64_in _ ⟨by omega, by omega⟩]
      generalize hE : min hi ((K + 1) * 65536) = E at *
      have hE1 : lo < E := by omega
      have hE2 : E ≤ (K + 1) * 65536 := by omega
      have hE3 : E ≤ hi := by omega
      have w7 : IntKind.wrap .i64 (IntKind.wrap .u64 (E - K * 65536)) = E - K * 65536 := by rw [u64_in _ ⟨by omega, by omega⟩, i64_in _ ⟨by omega, by omega⟩]
      obtain ⟨c1, e1, i1⟩ := SGet (K := K) (k := k) h hK (by omega)
      obtain ⟨c2, e2, i2, _⟩ := CFlip (k := k) (lo := lo - K * 65536) (hi := E - K * 65536) none0_sup (isC_zero fun _ => rfl) (by omega)
      obtain ⟨c3, e3, i3, k3⟩ := COr (k := k) (row_sup F K) (fx_sup none0_sup _ _) i1 i2 (by omega)
      have hy : or (row F K (lo - K * 65536)) (fx none0 (lo - K * 65536) (E - K * 65536) (lo - K * 65536)) = true := by
        rw [fx_none, decide_eq_true (by omega), decide_eq_true (by omega)]
        cases row F K (lo - K * 65536) <;> rfl
      have hu : upd F K (fun x => or (row F K x) (fx none0 (lo - K * 65536) (E - K * 65536) x)) = fun x => F x || ivl lo E x := by
        funext x
        unfold upd
        by_cases q : K * 65536 ≤ x ∧ x < (K + 1) * 65536
        · rw [if_pos q]
          show or (row F K (x - K * 65536)) (fx none0 (lo - K * 65536) (E - K * 65536) (x - K * 65536)) = _
          rw [row_in (by omega) (by omega), show K * 65536 + (x - K * 65536) = x by omega, fx_none]
          congr 1
          unfold ivl
          congr 1
          · exact decide_eq_decide.2 (by omega)
          · exact decide_eq_decide.2 (by omega)
        · rw [if_neg q]
          have : ivl lo E x = false := by
            unfold ivl
            rw [Bool.and_eq_false_iff, decide_eq_false_iff_not, decide_eq_false_iff_not]
            omega
          rw [this, Bool.or_false]
      have hins : K ∈ ks ∨ ∀ p, p ∈ ks → p < K := by
        by_cases q : K ∈ ks
        · exact .inl q
        · refine .inr fun p hp' => ?_
          have := hp p hp'
          have : p ≠ K := fun q2 => q (q2 ▸ hp')
          omega
      obtain ⟨ks1, cs1, e4, h4, p4⟩ := SPut (k := k) h hK (sup_Or (row_sup F K) (fx_sup none0_sup _ _)) ⟨i3, k3⟩ ⟨_, hy⟩ hins (by omega)
      rw [hu] at h4
      have go : ∃ ks' cs', roaring_Set_AddRange_l0 k ks1 cs1 E hi = some (ks', cs') ∧ IsS ks' cs' (fun x => (F x || ivl lo E x) || ivl E hi x) ∧ ∀ p, p ∈ ks' → p ∈ ks1 ∨ E / 65536 ≤ p := by
        by_cases c2 : E < hi
        · refine SAdd_l0 hK0 (d - 1) k ks1 cs1 _ E hi h4 (by omega) h1 (fun p hp' => ?_) (by omega) (by omega)
          rcases p4 p hp' with q | q
          · have := hp p q; omega
          · omega
        · obtain ⟨k, rfl⟩ : ∃ j, k = j + 1 := ⟨k - 1, by omega⟩
          refine ⟨ks1, cs1, by rw [roaring_Set_AddRange_l0, decide_eq_false c2]; rfl, ?_, fun p hp => .inl hp⟩
          have : (fun x => (F x || ivl lo E x) || ivl E hi x) = fun x => F x || ivl lo E x := by
            funext x
            have : ivl E hi x = false := by
              unfold ivl
              rw [Bool.and_eq_false_iff, decide_eq_false_iff_not, decide_eq_false_iff_not]
              omega
            rw [this, Bool.or_false]
          rw [this]
          exact h4
      obtain ⟨ks2, cs2, e5, h5, p5⟩ := go
      have : (fun x => (F x || ivl lo E x) || ivl E hi x) = fun x => F x || ivl lo hi x := by
        funext x
        rw [Bool.or_assoc, ivl_cat (by omega) (by omega)]
      rw [this] at h5
      refine ⟨ks2, cs2, ?_, h5, fun p hp' => ?_⟩
      · simp only [decide_eq_true c, cond_true, w1, w2, w3, w4, w5, w6, hE, w7, e1, e2, e3, e4, Option.bind_some]
        exact e5
      · rcases p5 p hp' with q | q
        · rcases p4 p q with q | q
          · exact .inl q
          · exact .inr (by omega)
        · exact .inr (by omega)
    · refine ⟨ks, cs, by rw [decide_eq_false c]; rfl, ?_, fun p hp => .inl hp⟩
      have : (fun x => F x || ivl lo hi x) = F := by
        funext x
        have : ivl lo hi x = false := by
          unfold ivl
          rw [Bool.and_eq_false_iff, decide_eq_false_iff_not, decide_eq_false_iff_not]
          omega
        rw [this, Bool.or_false]
      rw [this]
      exact h
theorem SAdd {ks : List Int} {cs : List Cont} {F : Int → Bool} {lo hi : Int} {k : Nat} (h : IsS ks cs F) (h0 : 0 ≤ lo) (h1 : 0 ≤ hi) (hp : ∀ p, p ∈ ks → p ≤ lo / 65536) (hk : 400000 ≤ k) :
    ∃ ks' cs', roaring_Set_AddRange k ks cs lo hi = some (ks', cs') ∧ IsS ks' cs' (fun x => F x || ivl lo (min hi 4294967296) x) ∧ ∀ p, p ∈ ks' → p ∈ ks ∨ lo / 65536 ≤ p := by
  obtain ⟨ks', cs', e, h2, h3⟩ := SAdd_l0 (K0 := 300000) (Nat.le_refl _) 65537 k ks cs F lo (min hi 4294967296) h h0 (by omega) hp (by omega) (by omega)
  refine ⟨ks', cs', ?_, h2, h3⟩
  unfold roaring_Set_AddRange
  rw [e]
  rfl
end Go.Rx.Tryz
/-! Sets, part 3: how many, as spans, alike, is a number there, keys. -/
namespace Go.Rx.Tryz
open Go.Rx.Plain Go.IntWalk
set_option linter.unusedVariables false
set_option linter.unusedSimpArgs false
theorem SLen_l0 {ks : List Int} {cs : List Cont} {F : Int → Bool} {K0 : Nat} (hK0 : 70000 ≤ K0) (hl : cs.length ≤ 65536) : ∀ (rc : List Cont) (rk : List Int) (k i : Nat) (n : Int), i ≤ cs.length → cs.drop i = rc → Cs F rk rc → rc.length + K0 + 1 ≤ k → 0 ≤ n → n ≤ 65536 * (i : Int) →
    roaring_Set_Len_l0 k ks cs n (cs.length : Int) (i : Int) = some (ks, cs, n + sumK (fun K => nF (row F K)) rk)
  | _, _, 0, _, _, _, _, _, hk, _, _ => by omega
  | [], rk, k + 1, i, n, hi, h, hc, hk, h0, h1 => by
    have := drop_nil h hi
    have q : ¬ ((i : Int) < (cs.length : Int)) := by omega
    cases rk with
    | nil => rw [roaring_Set_Len_l0, decide_eq_false q, sumK, Int.add_zero]; rfl
    | cons a t => exact hc.elim
  | c :: s, rk, k + 1, i, n, hi, h, hc, hk, h0, h1 => by
    cases rk with
    | nil => exact hc.elim
    | cons K rk =>
      obtain ⟨d1, d2, d3⟩ := drop_cons h ((0 : Int), ([], ([], [])))
      have q : ((i : Int) < (cs.length : Int)) := by omega
      have q0 : (0 : Int) ≤ (i : Int) := by omega
      have b := nF_bound (row F K)
      have e2 : IntKind.wrap .i64 ((i : Int) + 1) = ((i + 1 : Nat) : Int) := by rw [i64_in _ ⟨by omega, by omega⟩]; omega
      have n1 : s.length + K0 + 1 ≤ k := by simp at hk; omega
      have e1 := CLen (k := k) (row_sup F K) hc.1.1 (by omega)
      rw [sumK]
      generalize hg : nF (row F K) = z at *
      have e3 : IntKind.wrap .i64 (n + z) = n + z := i64_in _ ⟨by omega, by omega⟩
      have r := SLen_l0 (ks := ks) hK0 hl s rk k (i + 1) (n + z) (by omega) d3 hc.2 n1 (by omega) (by omega)
      rw [roaring_Set_Len_l0]
      simp only [decide_eq_true q, decide_eq_true q0, cond_true, Int.toNat_natCast, d2, e1, Option.bind_some, e3, e2, r, Int.add_assoc]
theorem nF_zero {f : Int → Bool} (h : ∀ x, f x = false) : nF f = 0 := by
  unfold nF
  rw [mem_def, memI_none fun x _ _ => h x]
  rfl
theorem IsS.tot {ks : List Int} {cs : List Cont} {F : Int → Bool} (h : IsS ks cs F) : sumK (fun K => nF (row F K)) ks = tot F :=
  sum_keys (m := 0) (n := 65536) h.ris rfl fun K h0 h1 hn => nF_zero fun y => by
    cases hy : row F K y with
    | false => rfl
    | true => exact absurd (h.full K y hy h0 h1) hn
theorem SLen {ks : List Int} {cs : List Cont} {F : Int → Bool} {k : Nat} (h : IsS ks cs F) (hk : 140000 ≤ k) : roaring_Set_Len k ks cs = some (ks, cs, tot F) := by
  have hl := ris_len h.ris
  have hc := h.con.len
  have r := SLen_l0 (ks := ks) (cs := cs) (F := F) (K0 := 70000) (Nat.le_refl _) (by omega) cs ks k 0 0 (by omega) rfl h.con (by omega) (by omega) (by omega)
  rw [h.tot, Int.zero_add] at r
  have r' : roaring_Set_Len_l0 k ks cs 0 (cs.length : Int) 0 = some (ks, cs, Tryz.tot F) := r
  unfold roaring_Set_Len roaring_Set_list
  simp only [Option.bind_some, r']
/-! ### As spans -/
theorem sp_len : ∀ {l : List (Int × Int)} {m : Int}, spF m l → (l.length : Int) ≤ max 0 (4294967297 - m)
  | [], m, _ => by
    rw [List.length_nil]
    omega
  | p :: t, m, ⟨h1, h2, h3, h4⟩ => by
    have := sp_len h4
    rw [List.length_cons]
    omega
theorem SRuns_l1 {ks : List Int} {cs : List Cont} {F : Int → Bool} {r : List Run} {K : Int} (hK : 0 ≤ K ∧ K < 65536) (hw : wfR r) (hrl : r.length < 1000000) {n idx : Int} : ∀ (rest : List Run) (k i : Nat) (m b : Int) (acc : List (Int × Int)), i ≤ r.length → r.drop i = rest → mayF m rest = true → rest.length + 1 ≤ k → SpTo acc F (K * 65536 + b) → 0 ≤ b → b ≤ m → b ≤ 65536 → (∀ y, b ≤ y → y < 65536 → row F K y = hasB rest y) →
    ∃ acc', roaring_Set_Runs_l1 k ks cs acc (K * 65536) n idx r (r.length : Int) (i : Int) = some (ks, cs, acc', n, idx) ∧ SpTo acc' F ((K + 1) * 65536)
  | _, 0, _, _, _, _, _, _, _, hk, _, _, _, _, _ => by omega
  | [], k + 1, i, m, b, acc, hi, h, hm, hk, hs, hb0, hbm, hb1, hr => by
    have := drop_nil h hi
    have q : ¬ ((i : Int) < (r.length : Int)) := by omega
    refine ⟨acc, by rw [roaring_Set_Runs_l1, decide_eq_false q]; rfl, hs.skip (by omega) fun x h1 h2 => ?_⟩
    have := hr (x - K * 65536) (by omega) (by omega)
    rw [row_in (by omega) (by omega), show K * 65536 + (x - K * 65536) = x by omega] at this
    exact this
  | p :: s, k + 1, i, m, b, acc, hi, h, hm, hk, hs, hb0, hbm, hb1, hr => by
    obtain ⟨d1, d2, d3⟩ := drop_cons h ((0 : Int), (0 : Int))
    have hp := hw p (List.mem_of_mem_drop (by rw [h]; simp))
    have hws : wfR s := fun z hz => hw z (List.mem_of_mem_drop (i := i) (by rw [h]; simp [hz]))
    obtain ⟨m1, m2, m3⟩ := mayF_cons.1 hm
    have q : ((i : Int) < (r.length : Int)) := by omega
    have q0 : (0 : Int) ≤ (i : Int) := by omega
    have e2 : IntKind.wrap .i64 ((i : Int) + 1) = ((i + 1 : Nat) : Int) := by rw [i64_in _ ⟨by omega, by omega⟩]; omega
    have n1 : s.length + 1 ≤ k := by simp at hk; omega
    have w1 : IntKind.wrap .u64 p.1 = p.1 := u64_in _ ⟨by omega, by omega⟩
    have w2 : IntKind.wrap .u64 p.2 = p.2 := u64_in _ ⟨by omega, by omega⟩
    have w3 : IntKind.wrap .u64 (K * 65536 + p.1) = K * 65536 + p.1 := u64_in _ ⟨by omega, by omega⟩
    have w4 : IntKind.wrap .u64 (K * 65536 + p.1 + p.2) = K * 65536 + p.1 + p.2 := u64_in _ ⟨by omega, by omega⟩
    have w5 : IntKind.wrap .u64 (K * 65536 + p.1 + p.2 + 1) = K * 65536 + p.1 + p.2 + 1 := u64_in _ ⟨by omega, by omega⟩
    have hs1 : SpTo acc F (K * 65536 + p.1) := hs.skip (by omega) fun x h1 h2 => by
      have := hr (x - K * 65536) (by omega) (by omega)
      rw [row_in (by omega) (by omega), show K * 65536 + (x - K * 65536) = x by omega, hasB_cons, decide_eq_false (by omega), may_low m3 hws (by omega)] at this
      exact this
    have hF : ∀ x, K * 65536 + p.1 ≤ x → x < K * 65536 + p.1 + p.2 + 1 → F x = true := fun x h1 h2 => by
      have := hr (x - K * 65536) (by omega) (by omega)
      rw [row_in (by omega) (by omega), show K * 65536 + (x - K * 65536) = x by omega, hasB_cons, decide_eq_true (by omega), decide_eq_true (by omega)] at this
      rw [this]
      rfl
    have hr' : ∀ y, p.1 + p.2 + 1 ≤ y → y < 65536 → row F K y = hasB s y := fun y h1 h2 => by
      rw [hr y (by omega) h2, hasB_cons, decide_eq_false (p := y ≤ p.1 + p.2) (by omega), Bool.and_false, Bool.false_or]
    have hal := sp_len hs.sp
    have g1 : (acc.length + 1) * 16 ≤ 140737488355328 := by omega
    have g2 : acc.length + 1 ≤ 140737488355328 := by omega
    have go : ∀ acc', SpTo acc' F (K * 65536 + p.1 + p.2 + 1) → ∃ acc2, roaring_Set_Runs_l1 k ks cs acc' (K * 65536) n idx r (r.length : Int) ((i + 1 : Nat) : Int) = some (ks, cs, acc2, n, idx) ∧ SpTo acc2 F ((K + 1) * 65536) := fun acc' h' =>
      SRuns_l1 hK hw hrl s k (i + 1) (p.1 + p.2 + 2) (p.1 + p.2 + 1) acc' (by omega) d3 m3 n1 (by rw [show K * 65536 + (p.1 + p.2 + 1) = K * 65536 + p.1 + p.2 + 1 by omega]; exact h') (by omega) (by omega) (by omega) hr'
    rw [roaring_Set_Runs_l1]
    simp only [decide_eq_true q, decide_eq_true q0, cond_true, Int.toNat_natCast, d2, w1, w2, w3, w4, w5, e2, List.length_cons, List.length_nil, Nat.zero_add, decide_eq_true g1, decide_eq_true g2]
    rcases List.eq_nil_or_concat acc with ha | ⟨init, z, ha⟩
    · subst ha
      have z0 : ¬ ((0 : Int) < ((List.length ([] : List (Int × Int)) : Nat) : Int)) := by simp
      rw [decide_eq_false z0]
      exact go _ (hs1.new (by omega) (fun p hp => (nomatch hp)) (by omega) (by omega) hF)
    · rw [List.concat_eq_append] at ha
      subst ha
      have hlen : (init ++ [z]).length = init.length + 1 := by simp
      have z0 : ((0 : Int) < (((init ++ [z]).length : Nat) : Int)) := by omega
      have z1 : IntKind.wrap .i64 (((init ++ [z]).length : Int) - 1) = ((init.length : Nat) : Int) := by rw [i64_in _ ⟨by omega, by omega⟩]; omega
      have z2 : (0 : Int) ≤ ((init.length : Nat) : Int) := by omega
      have z3 : ((init.length : Nat) : Int) < (((init ++ [z]).length : Nat) : Int) := by omega
      have z4 : (init ++ [z]).getD init.length ((0 : Int), (0 : Int)) = z := by simp [List.getD]
      have z5 : (init ++ [z]).set init.length (z.1, K * 65536 + p.1 + p.2 + 1) = init ++ [(z.1, K * 65536 + p.1 + p.2 + 1)] := by
        rw [List.set_append_right _ _ (Nat.le_refl _)]
        simp
      simp only [decide_eq_true z0, z1, decide_eq_true z2, decide_eq_true z3, cond_true, Int.toNat_natCast, z4, z5]
      by_cases c : z.2 = K * 65536 + p.1
      · rw [decide_eq_true c]
        exact go _ (hs1.more c (by omega) (by omega) hF)
      · rw [decide_eq_false c]
        refine go _ (hs1.new (by omega) (fun p' hp' => ?_) (by omega) (by omega) hF)
        rcases List.mem_append.1 hp' with hp' | hp'
        · have b1 := sp_bef hs1.sp
          have := b1.2.2 p' hp'
          have := hs1.le z (by simp)
          omega
        · rw [List.mem_singleton.1 hp']; exact c
theorem SRuns_l0 {ks : List Int} {cs : List Cont} {F : Int → Bool} {K0 : Nat} (hK0 : 140000 ≤ K0) (hl : ks.length ≤ 65536) (hlc : cs.length = ks.length) : ∀ (rk : List Int) (rc : List Cont) (k i : Nat) (m : Int) (acc : List (Int × Int)), i ≤ ks.length → ks.drop i = rk → cs.drop i = rc → Cs F rk rc → ris m rk → rk.length + K0 + 1 ≤ k → SpTo acc F (m * 65536) → 0 ≤ m → m ≤ 65536 → (∀ K y, m ≤ K → K < 65536 → row F K y = true → K ∈ rk) →
    ∃ acc', roaring_Set_Runs_l0 k ks cs acc (cs.length : Int) (i : Int) = some (ks, cs, acc') ∧ SpTo acc' F 4294967296
  | _, _, 0, _, _, _, _, _, _, _, _, hk, _, _, _, _ => by omega
  | [], rc, k + 1, i, m, acc, hi, h, h', hc, hm, hk, hs, hm0, hm1, hr => by
    have := drop_nil h hi
    have q : ¬ ((i : Int) < (cs.length : Int)) := by omega
    refine ⟨acc, by rw [roaring_Set_Runs_l0, decide_eq_false q]; rfl, hs.skip (by omega) fun x h1 h2 => ?_⟩
    cases hx : F x with
    | false => rfl
    | true =>
      have := hr (x / 65536) (x % 65536) (by omega) (by omega) (by rw [row_in (by omega) (by omega), show x / 65536 * 65536 + x % 65536 = x by omega]; exact hx)
      cases this
  | K :: s, rc, k + 1, i, m, acc, hi, h, h', hc, hm, hk, hs, hm0, hm1, hr => by
    cases rc with
    | nil => exact hc.elim
    | cons c rc =>
      obtain ⟨d1, d2, d3⟩ := drop_cons h (0 : Int)
      obtain ⟨f1, f2, f3⟩ := drop_cons h' ((0 : Int), ([], ([], [])))
      obtain ⟨r1, r2, r3⟩ := hm
      have q : ((i : Int) < (cs.length : Int)) := by omega
      have q2 : ((i : Int) < (ks.length : Int)) := by omega
      have q0 : (0 : Int) ≤ (i : Int) := by omega
      have e2 : IntKind.wrap .i64 ((i : Int) + 1) = ((i + 1 : Nat) : Int) := by rw [i64_in _ ⟨by omega, by omega⟩]; omega
      have n1 : s.length + K0 + 1 ≤ k := by simp at hk; omega
      have w1 : IntKind.wrap .u64 K = K := u64_in _ ⟨by omega, by omega⟩
      have w2 : shlI .u64 K 16 = K * 65536 := shl16 (by omega) (by omega)
      obtain ⟨r, e1, mm, ww, hh⟩ := CRuns (k := k) (row_sup F K) hc.1.1 (by omega)
      have hrl := runs_len_le mm ww hh
      have hs1 : SpTo acc F (K * 65536 + 0) := hs.skip (by omega) fun x h1 h2 => by
        cases hx : F x with
        | false => rfl
        | true =>
          have := hr (x / 65536) (x % 65536) (by omega) (by omega) (by rw [row_in (by omega) (by omega), show x / 65536 * 65536 + x % 65536 = x by omega]; exact hx)
          rcases List.mem_cons.1 this with q | q
          · omega
          · have := (ris_low r3 q).1; omega
      obtain ⟨acc1, g1, g2⟩ := SRuns_l1 (ks := ks) (cs := cs) (K := K) (n := (cs.length : Int)) (idx := (i : Int)) ⟨by omega, r2⟩ ww (by omega) r k 0 0 0 acc (by omega) rfl mm (by omega) hs1 (by omega) (by omega) (by omega) (fun y _ _ => (hh y).symm)
      have g1' : roaring_Set_Runs_l1 k ks cs acc (K * 65536) (cs.length : Int) (i : Int) r (r.length : Int) 0 = some (ks, cs, acc1, (cs.length : Int), (i : Int)) := g1
      obtain ⟨acc2, p1, p2⟩ := SRuns_l0 hK0 hl hlc s rc k (i + 1) (K + 1) acc1 (by omega) d3 f3 hc.2 r3 n1 g2 (by omega) (by omega) (fun K' y h1 h2 h3 => by
        rcases List.mem_cons.1 (hr K' y (by omega) h2 h3) with q | q
        · omega
        · exact q)
      refine ⟨acc2, ?_, p2⟩
      rw [roaring_Set_Runs_l0]
      simp only [decide_eq_true q, decide_eq_true q2, decide_eq_true q0, cond_true, Int.toNat_natCast, d2, f2, w1, w2, e1, Option.bind_some, g1', e2]
      exact p1
theorem SRuns {ks : List Int} {cs : List Cont} {F : Int → Bool} {k : Nat} (h : IsS ks cs F) (hk : 210000 ≤ k) : ∃ r, roaring_Set_Runs k ks cs = some (ks, cs, r) ∧ spF 0 r ∧ ∀ x, hasS r x = F x := by
  have hl := ris_len h.ris
  have hc := h.con.len
  have z : SpTo [] F (0 * 65536) := ⟨trivial, fun p hp => (nomatch hp), fun x => by
    show false = _
    by_cases c : x < 0
    · rw [h.sup x (.inl c)]; rfl
    · rw [decide_eq_false (by omega), Bool.and_false]⟩
  obtain ⟨r, e, s⟩ := SRuns_l0 (K0 := 140000) (Nat.le_refl _) hl hc ks cs k 0 0 [] (by omega) rfl rfl h.con h.ris (by omega) z (by omega) (by omega) (fun K y h0 h1 h2 => h.full K y h2 h0 h1)
  refine ⟨r, ?_, s.sp, fun x => ?_⟩
  · have e' : roaring_Set_Runs_l0 k ks cs [] (cs.length : Int) 0 = some (ks, cs, r) := e
    unfold roaring_Set_Runs roaring_Set_list
    simp only [Option.bind_some, e']
  · rw [s.has x]
    by_cases c : x < 4294967296
    · rw [decide_eq_true c, Bool.and_true]
    · rw [h.sup x (.inr (by omega))]; rfl
/-! ### Alike -/
theorem Equal_l0 {a b : List (Int × Int)} (hl : a.length = b.length) (hb : a.length < 1000000000000) : ∀ (rest : List (Int × Int)) (k i : Nat), i ≤ a.length → a.drop i = rest → rest.length + 1 ≤ k → slices_Equal_Span_l0 k a b (a.length : Int) (i : Int) = some (bif decide (rest = b.drop i) then .inr () else .inl false)
  | [], 0, _, _, _, hk => by simp at hk
  | _ :: _, 0, _, _, _, hk => by simp at hk
  | [], k + 1, i, hi, h, hk => by
    have h0 := drop_nil h hi
    have c : ¬ ((i : Int) < (a.length : Int)) := by omega
    have e : b.drop i = [] := List.drop_eq_nil_of_le (by omega)
    simp only [slices_Equal_Span_l0, c, decide_false, cond_false, e, decide_true, cond_true]
  | x :: s, k + 1, i, hi, h, hk => by
    obtain ⟨h1, h2, h3⟩ := drop_cons h ((0 : Int), (0 : Int))
    obtain ⟨y, t, hy⟩ : ∃ y t, b.drop i = y :: t := by
      cases e : b.drop i with
      | nil => have := drop_nil e (by omega); omega
      | cons y t => exact ⟨y, t, rfl⟩
    obtain ⟨g1, g2, g3⟩ := drop_cons hy ((0 : Int), (0 : Int))
    have c : ((i : Int) < (a.length : Int)) := by omega
    have c0 : (0 : Int) ≤ (i : Int) := by omega
    have c1 : ((i : Int) < (b.length : Int)) := by omega
    rw [slices_Equal_Span_l0]
    simp only [c, c0, c1, decide_true, cond_true, Int.toNat_natCast, h2, g2]
    rw [i64_in _ ⟨by omega, by omega⟩, show ((i : Int) + 1) = ((i + 1 : Nat) : Int) by omega]
    rw [Equal_l0 hl hb s k (i + 1) (by omega) h3 (by simp at hk; omega), g3, hy]
    obtain ⟨x1, x2⟩ := x
    obtain ⟨y1, y2⟩ := y
    by_cases q : x1 = y1
    · by_cases q2 : x2 = y2
      · subst q q2
        simp
      · simp [q2]
    · simp [q]
theorem Equal_eq {a b : List (Int × Int)} {k : Nat} (hb : a.length < 1000000000000) (hk : a.length + 1 ≤ k) : slices_Equal_Span k a b = some (decide (a = b)) := by
  unfold slices_Equal_Span
  by_cases hl : a.length = b.length
  · have c : decide ((a.length : Int) = (b.length : Int)) = true := by simp; omega
    rw [c]
    simp only [Bool.not_true, cond_false]
    rw [show slices_Equal_Span_l0 k a b (a.length : Int) 0 = slices_Equal_Span_l0 k a b (a.length : Int) ((0 : Nat) : Int) from rfl, Equal_l0 hl hb a k 0 (by omega) rfl hk, List.drop_zero]
    cases decide (a = b) <;> rfl
  · have c : decide ((a.length : Int) = (b.length : Int)) = false := by simp; omega
    have q : a ≠ b := fun e => hl (by rw [e])
    rw [c]
    simp [q]
theorem Same8_l0 {a b : List (Int × Int)} (hl : a.length = b.length) (hb : a.length < 1000000000000) : ∀ (rest : List (Int × Int)) (k i : Nat), i ≤ a.length → a.drop i = rest → rest.length + 1 ≤ k → isinglassref08_Same_l0 k a b (i : Int) = some (bif decide (rest = b.drop i) then .inr () else .inl false)
  | [], 0, _, _, _, hk => by simp at hk
  | _ :: _, 0, _, _, _, hk => by simp at hk
  | [], k + 1, i, hi, h, hk => by
    have h0 := drop_nil h hi
    have c : ¬ ((i : Int) < (a.length : Int)) := by omega
    have e : b.drop i = [] := List.drop_eq_nil_of_le (by omega)
    simp only [isinglassref08_Same_l0, c, decide_false, cond_false, e, decide_true, cond_true]
  | x :: s, k + 1, i, hi, h, hk => by
    obtain ⟨h1, h2, h3⟩ := drop_cons h ((0 : Int), (0 : Int))
    obtain ⟨y, t, hy⟩ : ∃ y t, b.drop i = y :: t := by
      cases e : b.drop i with
      | nil => have := drop_nil e (by omega); omega
      | cons y t => exact ⟨y, t, rfl⟩
    obtain ⟨g1, g2, g3⟩ := drop_cons hy ((0 : Int), (0 : Int))
    have c : ((i : Int) < (a.length : Int)) := by omega
    have c0 : (0 : Int) ≤ (i : Int) := by omega
    have c1 : ((i : Int) < (b.length : Int)) := by omega
    rw [isinglassref08_Same_l0]
    simp only [c, c0, c1, decide_true, cond_true, Int.toNat_natCast, h2, g2]
    rw [i64_in _ ⟨by omega, by omega⟩, show ((i : Int) + 1) = ((i + 1 : Nat) : Int) by omega]
    rw [Same8_l0 hl hb s k (i + 1) (by omega) h3 (by simp at hk; omega), g3, hy]
    obtain ⟨x1, x2⟩ := x
    obtain ⟨y1, y2⟩ := y
    by_cases q : x1 = y1
    · by_cases q2 : x2 = y2
      · subst q q2
        simp
      · simp [q2]
    · simp [q]
theorem Same8_eq {a b : List (Int × Int)} {k : Nat} (hb : a.length < 1000000000000) (hk : a.length + 1 ≤ k) : isinglassref08_Same k a b = some (decide (a = b)) := by
  unfold isinglassref08_Same
  by_cases hl : a.length = b.length
  · have c : decide ((a.length : Int) = (b.length : Int)) = true := by simp; omega
    rw [c]
    simp only [Bool.not_true, cond_false]
    rw [show isinglassref08_Same_l0 k a b 0 = isinglassref08_Same_l0 k a b ((0 : Nat) : Int) from rfl, Same8_l0 hl hb a k 0 (by omega) rfl hk, List.drop_zero]
    cases decide (a = b) <;> rfl
  · have c : decide ((a.length : Int) = (b.length : Int)) = false := by simp; omega
    have q : a ≠ b := fun e => hl (by rw [e])
    rw [c]
    simp [q]
/-! ### Is a number there? Keys -/
theorem CloneW {k : Nat} {r : List Int} (h : r.length < 1000000) : slices_Clone_uint16_w k r = some (r, r) := by
  have g1 : decide ((0 + r.length) * 2 ≤ 140737488355328) = true := decide_eq_true (by omega)
  have g2 : decide (0 + r.length ≤ 140737488355328) = true := decide_eq_true (by omega)
  unfold slices_Clone_uint16_w
  simp only [List.length_nil, g1, g2, cond_true, List.nil_append]
  cases r with
  | nil => simp only [List.isEmpty_nil, cond_true, bothEq_self]
  | cons x l => rfl
theorem SKeys {ks : List Int} {cs : List Cont} {F : Int → Bool} {k : Nat} (h : IsS ks cs F) : roaring_Set_Keys k ks cs = some (ks, cs, ks) := by
  have hl := ris_len h.ris
  unfold roaring_Set_Keys
  rw [CloneW (by omega)]
  rfl
end Go.Rx.Tryz
/-! Sets, part 4: an array put behind all containers; the rest of two sets, key by key. -/
namespace Go.Rx.Tryz
open Go.Rx.Plain Go.IntWalk
set_option linter.unusedVariables false
set_option linter.unusedSimpArgs false
def elem (l : List Int) (y : Int) : Bool := decide (y ∈ l)
theorem elem_sup {l : List Int} (h : ris 0 l) : Sup (elem l) := fun y hy => by
  unfold elem
  rw [decide_eq_false]
  intro hm
  have := ris_low h hm
  omega
theorem elem_mem {l : List Int} (h : ris 0 l) : l = mem (elem l) := ris_ext h fun x _ _ => by
  unfold elem
  rw [decide_eq_true_eq]
theorem SPush {ks : List Int} {cs : List Cont} {F : Int → Bool} {K : Int} {l : List Int} {k : Nat} (h : IsS ks cs F) (hK : 0 ≤ K ∧ K < 65536) (hb : ∀ p, p ∈ ks → p < K) (hl : ris 0 l) (hne : l ≠ []) (hk : 140000 ≤ k) :
    ∃ c, roaring_Set_push k ks cs K l = some (ks ++ [K], cs ++ [c]) ∧ IsS (ks ++ [K]) (cs ++ [c]) (upd F K (elem l)) := by
  have hkl := ris_len h.ris
  have hlc := h.con.len
  have hll := ris_len hl
  have q : ¬ K ∈ ks := fun hm => by have := hb K hm; omega
  have hs := elem_sup hl
  have i0 : IsC ((1 : Int), (l, (([] : List Int), ([] : List (Int × Int))))) (elem l) := by
    have : IsC ((1 : Int), (mem (elem l), (([] : List Int), ([] : List (Int × Int))))) (elem l) := .arr (.inr rfl)
    rw [← elem_mem hl] at this
    exact this
  obtain ⟨c, e1, i1, k1⟩ := CCanon (k := k) hs i0 hk
  have e0 : container_OfArray k l = some (((1 : Int), (l, (([] : List Int), ([] : List (Int × Int))))), true) := by
    unfold container_OfArray
    rw [AMay_eq hl (by omega)]
    simp only [Option.bind_some, Bool.not_true, cond_false]
    rw [clone16_eq (by omega)]
    rfl
  have g1 : (ks.length + 1) * 2 ≤ 140737488355328 := by omega
  have g2 : ks.length + 1 ≤ 140737488355328 := by omega
  have g3 : (cs.length + 1) * 80 ≤ 140737488355328 := by omega
  have g4 : cs.length + 1 ≤ 140737488355328 := by omega
  have hcr : Canon c (row (upd F K (elem l)) K) := by rw [row_upd hs]; exact ⟨i1, k1⟩
  refine ⟨c, ?_, ris_snoc h.ris hb hK.1 hK.2, (h.con.congr fun K' hk => (row_upd_ne (fun (q2 : K' = K) => q (by rw [← q2]; exact hk))).symm).snoc hcr, fun K' y hy h0 h1 => ?_, fun K' hk' => ?_, upd_sup h.sup hK⟩
  · unfold roaring_Set_push
    simp only [e0, Option.bind_some, List.length_cons, List.length_nil, Nat.zero_add, decide_eq_true g1, decide_eq_true g2, decide_eq_true g3, decide_eq_true g4, cond_true, e1]
  · by_cases q2 : K' = K
    · rw [q2]; simp
    · rw [row_upd_ne q2] at hy
      exact List.mem_append_left _ (h.full K' y hy h0 h1)
  · by_cases q2 : K' = K
    · rw [q2, row_upd hs]
      cases l with
      | nil => exact absurd rfl hne
      | cons a t => exact ⟨a, by unfold elem; simp⟩
    · rw [row_upd_ne q2]
      rcases List.mem_append.1 hk' with hp | hp
      · exact h.ne K' hp
      · exact absurd (List.mem_singleton.1 hp) q2
theorem IsS.mem {ks : List Int} {cs : List Cont} {F : Int → Bool} (h : IsS ks cs F) (K : Int) : K ∈ ks ↔ (0 ≤ K ∧ K < 65536) ∧ ∃ y, row F K y = true :=
  ⟨fun hk => ⟨ris_low h.ris hk, h.ne K hk⟩, fun ⟨⟨h0, h1⟩, y, hy⟩ => h.full K y hy h0 h1⟩
/-- What two sets' numbers come to. -/
def mix (op : Bool → Bool → Bool) (F H : Int → Bool) (x : Int) : Bool := op (F x) (H x)
theorem row_mix {op : Bool → Bool → Bool} (h0 : op false false = false) (F H : Int → Bool) (K : Int) : row (mix op F H) K = fun y => op (row F K y) (row H K y) := by
  funext y
  by_cases q : 0 ≤ y ∧ y < 65536
  · rw [row_in q.1 q.2, row_in q.1 q.2, row_in q.1 q.2]; rfl
  · rw [row_sup _ K y (by omega), row_sup F K y (by omega), row_sup H K y (by omega), h0]
/-- A set's part, below a key. -/
structure Part (ks : List Int) (cs : List Cont) (G : Int → Bool) (m : Int) : Prop where
  ris : ris 0 ks
  con : Cs G ks cs
  lt : ∀ p, p ∈ ks → p < m
  full : ∀ K y, row G K y = true → 0 ≤ K → K < m → K ∈ ks
  ne : ∀ K, K ∈ ks → ∃ y, row G K y = true
theorem nF_pos {f : Int → Bool} (hs : Sup f) (h : 0 < nF f) : ∃ y, f y = true := by
  apply Classical.byContradiction
  intro hn
  have : nF f = 0 := nF_zero fun x => by
    cases hx : f x with
    | false => rfl
    | true => exact absurd ⟨x, hx⟩ hn
  omega
theorem nF_none {f : Int → Bool} (hs : Sup f) (h : ¬ 0 < nF f) (y : Int) : f y = false := by
  cases hy : f y with
  | false => rfl
  | true =>
    exfalso
    have hy2 : 0 ≤ y ∧ y < 65536 := by
      apply Classical.byContradiction
      intro q
      rw [hs y (by omega)] at hy
      cases hy
    have hm : y ∈ mem f := (mem_iff f y).2 ⟨hy2, hy⟩
    have : 0 < (mem f).length := List.length_pos_iff.2 fun e => by rw [e] at hm; cases hm
    exact h (by unfold nF; omega)
end Go.Rx.Tryz
/-! Sets, part 5: both, either, the rest, just one, key by key. Printed by eachops.py. -/
namespace Go.Rx.Tryz
open Go.Rx.Plain Go.IntWalk
set_option linter.unusedVariables false
set_option linter.unusedSimpArgs false

theorem Each_AndNot_l0 {ks us : List Int} {cs : List Cont} {js : List Int} {ds : List Cont} {F H : Int → Bool} {K0 : Nat} (hK0 : 300000 ≤ K0) (hs : IsS ks cs F) (hj : IsS js ds H) (hul : us.length ≤ 65536) : ∀ (rest : List Int) (k i : Nat) (m : Int) (ko : List Int) (co : List Cont), i ≤ us.length → us.drop i = rest → ris m rest → 0 ≤ m → rest.length + K0 + 1 ≤ k → Part ko co (mix ann F H) m → (∀ K y, row (mix ann F H) K y = true → m ≤ K → K < 65536 → K ∈ rest) →
    ∃ ko' co', roaring_each_Container_AndNot_l0 k ks cs js ds ko co us (us.length : Int) (i : Int) = some (ks, cs, js, ds, ko', co') ∧ Part ko' co' (mix ann F H) 65536
  | _, 0, _, _, _, _, _, _, _, _, hk, _, _ => by omega
  | [], k + 1, i, m, ko, co, hi, h, hm, hm0, hk, hp, hu => by
    have := drop_nil h hi
    have q : ¬ ((i : Int) < (us.length : Int)) := by omega
    refine ⟨ko, co, by rw [roaring_each_Container_AndNot_l0, decide_eq_false q]; rfl, hp.ris, hp.con, fun p hq => (ris_low hp.ris hq).2, fun K y hy h0 h1 => ?_, hp.ne⟩
    by_cases c : K < m
    · exact hp.full K y hy h0 c
    · exact nomatch hu K y hy (by omega) h1
  | K :: s, k + 1, i, m, ko, co, hi, h, hm, hm0, hk, hp, hu => by
    obtain ⟨d1, d2, d3⟩ := drop_cons h (0 : Int)
    obtain ⟨r1, r2, r3⟩ := hm
    have q : ((i : Int) < (us.length : Int)) := by omega
    have q0 : (0 : Int) ≤ (i : Int) := by omega
    have e2 : IntKind.wrap .i64 ((i : Int) + 1) = ((i + 1 : Nat) : Int) := by rw [i64_in _ ⟨by omega, by omega⟩]; omega
    have n1 : s.length + K0 + 1 ≤ k := by simp at hk; omega
    have n2 : 300000 ≤ k := by omega
    obtain ⟨c1, a1, i1⟩ := SGet (K := K) (k := k) hs ⟨by omega, r2⟩ (by omega)
    obtain ⟨c2, a2, i2⟩ := SGet (K := K) (k := k) hj ⟨by omega, r2⟩ (by omega)
    obtain ⟨c3, a3, i3, k3⟩ := CAndNot (k := k) (row_sup F K) (row_sup H K) i1 i2 n2
    have a4 := CLen (k := k) (sup_AndNot (row_sup F K) (row_sup H K)) i3 (by omega)
    have hrow := row_mix (op := ann) rfl F H K
    rw [← hrow] at i3 k3 a4
    have hko := ris_len hp.ris
    have hco := hp.con.len
    have hlo : ∀ p, p ∈ ko → p < K := fun p hq => by have := hp.lt p hq; omega
    rw [roaring_each_Container_AndNot_l0]
    simp only [decide_eq_true q, decide_eq_true q0, cond_true, Int.toNat_natCast, d2, a1, a2, a3, a4, Option.bind_some, e2]
    by_cases c : 0 < nF (row (mix ann F H) K)
    · have g1 : (ko.length + 1) * 2 ≤ 140737488355328 := by omega
      have g2 : ko.length + 1 ≤ 140737488355328 := by omega
      have g3 : (co.length + 1) * 80 ≤ 140737488355328 := by omega
      have g4 : co.length + 1 ≤ 140737488355328 := by omega
      rw [decide_eq_true c]
      simp only [cond_true, List.length_cons, List.length_nil, Nat.zero_add, decide_eq_true g1, decide_eq_true g2, decide_eq_true g3, decide_eq_true g4]
      refine Each_AndNot_l0 hK0 hs hj hul s k (i + 1) (K + 1) _ _ (by omega) d3 r3 (by omega) n1 ⟨ris_snoc hp.ris hlo (by omega) r2, hp.con.snoc ⟨i3, k3⟩, fun p hq => ?_, fun K' y hy h0 h1 => ?_, fun K' hq => ?_⟩ fun K' y hy h0 h1 => ?_
      · rcases List.mem_append.1 hq with hq | hq
        · have := hlo p hq; omega
        · rw [List.mem_singleton.1 hq]; omega
      · by_cases c2 : K' = K
        · rw [c2]; simp
        · by_cases c3 : K' < m
          · exact List.mem_append_left _ (hp.full K' y hy h0 c3)
          · rcases List.mem_cons.1 (hu K' y hy (by omega) (by omega)) with q | q
            · exact absurd q c2
            · have := (ris_low r3 q).1; omega
      · rcases List.mem_append.1 hq with hq | hq
        · exact hp.ne K' hq
        · rw [List.mem_singleton.1 hq]
          exact nF_pos (row_sup _ K) c
      · rcases List.mem_cons.1 (hu K' y hy (by omega) h1) with q | q
        · omega
        · exact q
    · rw [decide_eq_false c]
      simp only [cond_false]
      refine Each_AndNot_l0 hK0 hs hj hul s k (i + 1) (K + 1) ko co (by omega) d3 r3 (by omega) n1 ⟨hp.ris, hp.con, fun p hq => ?_, fun K' y hy h0 h1 => ?_, hp.ne⟩ fun K' y hy h0 h1 => ?_
      · have := hlo p hq; omega
      · by_cases c2 : K' = K
        · rw [c2, nF_none (row_sup _ K) c y] at hy
          cases hy
        · by_cases c3 : K' < m
          · exact hp.full K' y hy h0 c3
          · rcases List.mem_cons.1 (hu K' y hy (by omega) (by omega)) with q | q
            · exact absurd q c2
            · have := (ris_low r3 q).1; omega
      · rcases List.mem_cons.1 (hu K' y hy (by omega) h1) with q | q
        · omega
        · exact q
/-- The sets of two, where their keys together, sorted, each once, are these. -/
theorem S_AndNot {ks us vs ws : List Int} {cs : List Cont} {js : List Int} {ds : List Cont} {F H : Int → Bool} {k : Nat} (hs : IsS ks cs F) (hj : IsS js ds H) (hk : 400000 ≤ k)
    (u1 : slices_Concat_uint16 k [ks, js] = some vs) (u2 : slices_Sort_uint16 k vs = some ws) (u3 : slices_Compact_uint16 k ws = some us) (hr : ris 0 us) (hm : ∀ K, K ∈ us ↔ (K ∈ ks ∨ K ∈ js)) :
    ∃ ko co, roaring_Set_AndNot k ks cs js ds = some (ks, cs, js, ds, ko, co) ∧ IsS ko co (mix ann F H) := by
  have hl := ris_len hr
  obtain ⟨ko, co, e, p⟩ := Each_AndNot_l0 (K0 := 300000) (Nat.le_refl _) hs hj hl us k 0 0 [] [] (by omega) rfl hr (by omega) (by omega) ⟨trivial, trivial, fun p hp => (nomatch hp), fun K y _ h0 h1 => by omega, fun K hk => (nomatch hk)⟩ fun K y hy h0 h1 => by
    rw [row_mix rfl] at hy
    rw [hm K]
    by_cases a : row F K y = true
    · exact .inl (hs.full K y a h0 h1)
    · by_cases b : row H K y = true
      · exact .inr (hj.full K y b h0 h1)
      · have a : row F K y = false := by simpa using a
        have b : row H K y = false := by simpa using b
        simp only [a, b] at hy
        cases hy
  refine ⟨ko, co, ?_, p.ris, p.con, fun K y hy h0 h1 => p.full K y hy h0 h1, p.ne, fun x hx => by show ann (F x) (H x) = false; rw [hs.sup x hx, hj.sup x hx]; rfl⟩
  have e' : roaring_each_Container_AndNot_l0 k ks cs js ds [] [] us (us.length : Int) 0 = some (ks, cs, js, ds, ko, co) := e
  unfold roaring_Set_AndNot roaring_each_Container_AndNot roaring_New
  simp only [Option.bind_some, SKeys hs, SKeys hj, u1, u2, u3, e']
end Go.Rx.Tryz
/-! RoaringTop's pure function answers true. -/
namespace Go.Rx.Tryz
open Go.Rx.Plain Go.IntWalk
set_option linter.unusedVariables false
set_option linter.unusedSimpArgs false
theorem or_none (f : Int → Bool) : (fun x => none0 x || f x) = f := rfl
theorem SSpans1 {lo hi : Int} {k : Nat} (h0 : 0 ≤ lo) (h1 : 0 ≤ hi) (hk : 400001 ≤ k) : ∃ ks cs, roaring_Spans k [(lo, hi)] = some (ks, cs) ∧ IsS ks cs (ivl lo (min hi 4294967296)) := by
  obtain ⟨k, rfl⟩ : ∃ j, k = j + 1 := ⟨k - 1, by omega⟩
  obtain ⟨k, rfl⟩ : ∃ j, k = j + 1 := ⟨k - 1, by omega⟩
  by_cases hk2 : 400000 ≤ k + 1
  · obtain ⟨ks, cs, e, h, _⟩ := SAdd (k := k + 1) (lo := lo) (hi := hi) IsS.empty h0 h1 (fun p hp => (nomatch hp)) hk2
    have hF : (fun x => (fun _ => false) x || ivl lo (min hi 4294967296) x) = ivl lo (min hi 4294967296) := by
      funext x
      exact Bool.false_or _
    rw [hF] at h
    refine ⟨ks, cs, ?_, h⟩
    have l1 : roaring_Spans_l0 (k + 1) ks cs [(lo, hi)] 1 1 = some (ks, cs) := by rw [roaring_Spans_l0]; rfl
    unfold roaring_Spans roaring_New
    simp only [Option.bind_some]
    have e0 : (([(lo, hi)] : List (Int × Int)).length : Int) = 1 := rfl
    have c0 : (0 : Int) < 1 := by omega
    have c1 : (0 : Int) ≤ 0 := by omega
    have e2 : IntKind.wrap .i64 ((0 : Int) + 1) = 1 := i64_in _ ⟨by omega, by omega⟩
    have e3 : ([(lo, hi)] : List (Int × Int)).getD (Int.toNat 0) ((0 : Int), (0 : Int)) = (lo, hi) := rfl
    rw [e0, roaring_Spans_l0]
    simp only [e0, decide_eq_true c0, decide_eq_true c1, cond_true, e3, e, Option.bind_some, e2, l1]
  · omega
theorem SRuns_is {ks : List Int} {cs : List Cont} {F : Int → Bool} {k : Nat} {l : List (Int × Int)} (h : IsS ks cs F) (hk : 210000 ≤ k) (hl : spF 0 l) (hh : ∀ x, hasS l x = F x) : roaring_Set_Runs k ks cs = some (ks, cs, l) := by
  obtain ⟨r, e, h1, h2⟩ := SRuns h hk
  rw [e, sp_ext h1 hl fun x => by rw [h2, hh]]
theorem sortKnowna (q : Nat) : slices_Sort_uint32 (q + 60) [5, 1] = some [1, 5] := by kernel_rfl
theorem sortKnown {k : Nat} (hk : 60 ≤ k) : slices_Sort_uint32 k [5, 1] = some [1, 5] := by
  obtain ⟨q, rfl⟩ : ∃ q, k = q + 60 := ⟨k - 60, by omega⟩
  exact sortKnowna q
theorem ofKnown0a (q : Nat) : roaring_Of_l0 (q + 60) [1, 5] [] [] [] 2 0 = some ([1, 5], [], [], [1, 5]) := by kernel_rfl
theorem ofKnown0 {k : Nat} (hk : 60 ≤ k) : roaring_Of_l0 k [1, 5] [] [] [] 2 0 = some ([1, 5], [], [], [1, 5]) := by
  obtain ⟨q, rfl⟩ : ∃ q, k = q + 60 := ⟨k - 60, by omega⟩
  exact ofKnown0a q
theorem catKnowna (q : Nat) : slices_Concat_uint16 (q + 60) [[0], [0]] = some [0, 0] := by kernel_rfl
theorem catKnown {k : Nat} (hk : 60 ≤ k) : slices_Concat_uint16 k [[0], [0]] = some [0, 0] := by
  obtain ⟨q, rfl⟩ : ∃ q, k = q + 60 := ⟨k - 60, by omega⟩
  exact catKnowna q
theorem sortKnown2a (q : Nat) : slices_Sort_uint16 (q + 60) [0, 0] = some [0, 0] := by kernel_rfl
theorem sortKnown2 {k : Nat} (hk : 60 ≤ k) : slices_Sort_uint16 k [0, 0] = some [0, 0] := by
  obtain ⟨q, rfl⟩ : ∃ q, k = q + 60 := ⟨k - 60, by omega⟩
  exact sortKnown2a q
theorem compKnowna (q : Nat) : slices_Compact_uint16 (q + 60) [0, 0] = some [0] := by kernel_rfl
theorem compKnown {k : Nat} (hk : 60 ≤ k) : slices_Compact_uint16 k [0, 0] = some [0] := by
  obtain ⟨q, rfl⟩ : ∃ q, k = q + 60 := ⟨k - 60, by omega⟩
  exact compKnowna q
theorem ris01 : ris 0 [0, 1] := ⟨by omega, by omega, by omega, by omega, trivial⟩
theorem ris15 : ris 0 [1, 5] := ⟨by omega, by omega, by omega, by omega, trivial⟩
theorem ris00 : ris 0 [0] := ⟨by omega, by omega, trivial⟩
theorem ofKnown {k : Nat} (hk : 600000 ≤ k) : ∃ c, roaring_Of k [5, 1] = some ([0], [c]) ∧ IsS [0] [c] (upd (fun _ => false) 0 (elem [1, 5])) := by
  obtain ⟨c, e, h⟩ := SPush (k := k) (K := 0) (l := [1, 5]) IsS.empty ⟨by omega, by omega⟩ (fun p hp => (nomatch hp)) ris15 (by simp) (by omega)
  refine ⟨c, ?_, h⟩
  have e1 : slices_Clone_uint32 k [5, 1] = some [5, 1] := rfl
  have e2 : (([1, 5] : List Int).length : Int) = 2 := rfl
  have e3 : IntKind.wrap .i64 ((2 : Int) - 1) = 1 := i64_in _ ⟨by omega, by omega⟩
  have e4 : ([1, 5] : List Int).getD (Int.toNat 1) (0 : Int) = 5 := rfl
  have e5 : IntKind.wrap .u16 (shrI .u32 5 16) = 0 := by rw [shr16 (by decide), u16_in _ ⟨by omega, by omega⟩]; omega
  have c0 : (0 : Int) < 2 := by omega
  have c1 : (0 : Int) ≤ 1 := by omega
  have c2 : (1 : Int) < 2 := by omega
  have e' : roaring_Set_push k [] [] 0 [1, 5] = some ([0], [c]) := e
  unfold roaring_Of roaring_New
  rw [e1]
  simp only [Option.bind_some, (sortKnown (k := k) (by omega)), e2, (ofKnown0 (k := k) (by omega)), decide_eq_true c0, cond_true, e3, decide_eq_true c1, decide_eq_true c2, e4, e5, e']
theorem row_one {F : Int → Bool} {K : Int} {l : List Int} (hl : ris 0 l) (h : ∀ K, (K ∈ l ↔ (0 ≤ K ∧ K < 65536) ∧ ∃ y, row F K y = true)) {ks : List Int} {cs : List Cont} (hs : IsS ks cs F) : ks = l := ris_eq hs.ris hl fun x => by rw [hs.mem, h]
theorem ivl_keys {lo hi : Int} {ks : List Int} {cs : List Cont} (hs : IsS ks cs (ivl lo hi)) (K : Int) : K ∈ ks ↔ (0 ≤ K ∧ K < 65536) ∧ max lo (K * 65536) < min hi ((K + 1) * 65536) := by
  rw [hs.mem]
  constructor
  · rintro ⟨h1, y, hy⟩
    refine ⟨h1, ?_⟩
    have hy2 : 0 ≤ y ∧ y < 65536 := by
      apply Classical.byContradiction
      intro q
      rw [row_sup _ K y (by omega)] at hy
      cases hy
    rw [row_in hy2.1 hy2.2] at hy
    unfold ivl at hy
    rw [Bool.and_eq_true, decide_eq_true_eq, decide_eq_true_eq] at hy
    omega
  · rintro ⟨h1, h2⟩
    refine ⟨h1, max lo (K * 65536) - K * 65536, ?_⟩
    rw [row_in (by omega) (by omega)]
    unfold ivl
    rw [decide_eq_true (by omega), decide_eq_true (by omega)]
    rfl
theorem rankKnown {k : Nat} (hk : 600000 ≤ k) {ks : List Int} {cs : List Cont} (hs : IsS ks cs (ivl 65535 65538)) (hk1 : ks = [0, 1]) : roaring_Set_Rank k ks cs 65537 = some (ks, cs, 2) := by
  subst hk1
  obtain ⟨k, rfl⟩ : ∃ j, k = j + 3 := ⟨k - 3, by omega⟩
  have hc := hs.con
  match cs, hc with
  | [c0, c1], ⟨⟨i0, _⟩, ⟨i1, k1⟩, _⟩ =>
    have n0 : nF (row (ivl 65535 65538) 0) = 1 := by rw [row_ivl]; omega
    have n1 : nF (row (ivl 65535 65538) 1) = 2 := by rw [row_ivl]; omega
    have r1 : rF (row (ivl 65535 65538) 1) = 1 := by
      rw [rF_def, memI_congr (g := ivl 0 1) fun x h0 h1 => by
        unfold startI
        have a : row (ivl 65535 65538) 1 x = ivl 0 2 x := by
          rw [row_in h0 (by omega)]
          unfold ivl
          congr 1
          · exact decide_eq_decide.2 (by omega)
          · exact decide_eq_decide.2 (by omega)
        have b : row (ivl 65535 65538) 1 (x - 1) = ivl 1 3 x := by
          by_cases q : 0 ≤ x - 1
          · rw [row_in q (by omega)]
            unfold ivl
            congr 1
            · exact decide_eq_decide.2 (by omega)
            · exact decide_eq_decide.2 (by omega)
          · rw [row_sup _ _ _ (by omega)]
            unfold ivl
            rw [decide_eq_false (by omega)]
            rfl
        rw [a, b]
        unfold ivl
        rw [Bool.eq_iff_iff]
        simp only [Bool.and_eq_true, Bool.not_eq_true', Bool.and_eq_false_iff, decide_eq_true_eq, decide_eq_false_iff_not]
        omega, cnt_ivl]
      omega
    rw [n1, r1] at k1
    have kk : max c1.1 1 = 1 := by rw [k1]; rfl
    have l0 : ∀ j, 140000 ≤ j → container_Container_Len j c0 = some 1 := fun j hj => by rw [CLen (row_sup _ 0) i0 (by omega), n0]
    have l1 : ∀ j, 140000 ≤ j → container_Container_Rank j c1 1 = some 1 := fun j hj => by
      have hm := mem_le (row (ivl 65535 65538) 1)
      obtain ⟨i, e, g1, g2, g3⟩ := Find_eq (k := j) (x := 1) (mem_ris (row (ivl 65535 65538) 1)) (by omega)
      have m0 : (0 : Int) ∈ mem (row (ivl 65535 65538) 1) := (mem_iff _ _).2 ⟨by omega, by rw [row_in (by omega) (by omega)]; rfl⟩
      have m1 : (1 : Int) ∈ mem (row (ivl 65535 65538) 1) := (mem_iff _ _).2 ⟨by omega, by rw [row_in (by omega) (by omega)]; rfl⟩
      have hlen : ((mem (row (ivl 65535 65538) 1)).length : Int) = 2 := n1
      have hr := mem_ris (row (ivl 65535 65538) 1)
      have hi1 : i = 1 := by
        obtain ⟨t, ht⟩ := List.getElem?_of_mem m0
        obtain ⟨s, hs⟩ := List.getElem?_of_mem m1
        have ht2 := (List.getElem?_eq_some_iff.1 ht).1
        have hs2 := (List.getElem?_eq_some_iff.1 hs).1
        have a1 : t < i := Nat.lt_of_not_le fun q => by have := g3 t _ q ht; omega
        have a2 : ¬ s < i := fun q => by have := g2 s _ q hs; omega
        omega
      have ha : c1.2.1 = mem (row (ivl 65535 65538) 1) := arr_of i1 kk
      have w : IntKind.wrap .u16 1 = 1 := u16_in _ ⟨by omega, by omega⟩
      have z1 : ¬ (1 : Int) ≤ 0 := by omega
      have z2 : ¬ (65536 : Int) ≤ 1 := by omega
      have z3 : ¬ (1 : Int) = 0 := by omega
      unfold container_Container_Rank container_Container_arrayRank
      rw [hi1] at e
      simp only [Kind_eq, Option.bind_some, kk, decide_eq_false z3, cond_false, decide_eq_false z1, decide_eq_false z2, ha, w, e, decide_true, cond_true]
      rfl
    have w1 : shrI .u64 65537 16 = 1 := by rw [shr16 (by decide)]; rfl
    have w2 : IntKind.wrap .i64 (bitsI .and .u64 65537 65535) = 1 := by
      have : bitsI .and .u64 65537 65535 = ((65537 &&& 65535 : Nat) : Int) := and64 (a := 65537) (b := 65535) (by decide) (by decide)
      rw [this]
      exact i64_in _ ⟨by decide, by decide⟩
    have u0 : IntKind.wrap .u64 0 = 0 := u64_in _ ⟨by omega, by omega⟩
    have u1 : IntKind.wrap .u64 1 = 1 := u64_in _ ⟨by omega, by omega⟩
    have v1 : IntKind.wrap .i64 ((0 : Int) + 1) = 1 := i64_in _ ⟨by omega, by omega⟩
    have v2 : IntKind.wrap .i64 ((1 : Int) + 1) = 2 := i64_in _ ⟨by omega, by omega⟩
    have b0 : ¬ (4294967296 : Int) ≤ 65537 := by omega
    have b1 : (0 : Int) < 2 := by omega
    have b2 : (0 : Int) ≤ 0 := by omega
    have b3 : (0 : Int) < 1 := by omega
    have b4 : (1 : Int) < 2 := by omega
    have b5 : (0 : Int) ≤ 1 := by omega
    have b6 : ¬ (1 : Int) < 1 := by omega
    have b7 : ¬ (2 : Int) < 2 := by omega
    have s3 : roaring_Set_Rank_l0 (k + 1) [0, 1] [c0, c1] 65537 2 2 2 = some ([0, 1], [c0, c1], 2) := by rw [roaring_Set_Rank_l0, decide_eq_false b7]; rfl
    have s2 : roaring_Set_Rank_l0 (k + 2) [0, 1] [c0, c1] 65537 1 2 1 = some ([0, 1], [c0, c1], 2) := by
      rw [roaring_Set_Rank_l0]
      have d1 : ([0, 1] : List Int).getD (Int.toNat 1) (0 : Int) = 1 := rfl
      have d2 : ([c0, c1] : List Cont).getD (Int.toNat 1) ((0 : Int), ([], ([], []))) = c1 := rfl
      have d3 : (([0, 1] : List Int).length : Int) = 2 := rfl
      have d4 : (([c0, c1] : List Cont).length : Int) = 2 := rfl
      simp only [decide_eq_true b4, decide_eq_true b5, cond_true, d1, d2, d3, d4, w1, u1, decide_eq_false b6, cond_false, decide_true, w2, l1 (k + 1) (by omega), Option.bind_some, v2, s3]
    have s1 : roaring_Set_Rank_l0 (k + 3) [0, 1] [c0, c1] 65537 0 2 0 = some ([0, 1], [c0, c1], 2) := by
      rw [roaring_Set_Rank_l0]
      have d1 : ([0, 1] : List Int).getD (Int.toNat 0) (0 : Int) = 0 := rfl
      have d2 : ([c0, c1] : List Cont).getD (Int.toNat 0) ((0 : Int), ([], ([], []))) = c0 := rfl
      have d3 : (([0, 1] : List Int).length : Int) = 2 := rfl
      have d4 : (([c0, c1] : List Cont).length : Int) = 2 := rfl
      simp only [decide_eq_true b1, decide_eq_true b2, cond_true, d1, d2, d3, d4, w1, u0, decide_eq_true b3, l0 (k + 2) (by omega), Option.bind_some, v1, s2]
    unfold roaring_Set_Rank roaring_Set_list
    rw [decide_eq_false b0]
    have d4 : (([c0, c1] : List Cont).length : Int) = 2 := rfl
    simp only [cond_false, Option.bind_some, d4, s1]
theorem knownA {k : Nat} (hk : 600000 ≤ k) : ∃ ks cs, roaring_Set_AddRange k [] [] 65535 65538 = some (ks, cs) ∧ IsS ks cs (ivl 65535 65538) ∧ ks = [0, 1] := by
  obtain ⟨ks, cs, e, h, _⟩ := SAdd (k := k) (lo := 65535) (hi := 65538) IsS.empty (by omega) (by omega) (fun p hp => (nomatch hp)) (by omega)
  have hF : (fun x => (fun _ => false) x || ivl 65535 (min 65538 4294967296) x) = ivl 65535 65538 := by
    funext x
    rw [show min (65538 : Int) 4294967296 = 65538 by omega]
    exact Bool.false_or _
  rw [hF] at h
  have hks : ks = [0, 1] := ris_eq h.ris ris01 fun x => by
    rw [ivl_keys h]
    simp only [List.mem_cons, List.not_mem_nil, or_false]
    omega
  exact ⟨ks, cs, e, h, hks⟩
theorem has4 (x : Int) : hasS [(0, 1), (2, 4)] x = mix ann (ivl 0 (min 4 4294967296)) (upd (fun _ => false) 0 (elem [1, 5])) x := by
  show _ = ann (ivl 0 (min 4 4294967296) x) (upd (fun _ => false) 0 (elem [1, 5]) x)
  unfold upd elem
  have m4 : min (4 : Int) 4294967296 = 4 := by omega
  rw [m4, hasS_cons, hasS_cons]
  unfold ivl
  by_cases q : 0 * 65536 ≤ x ∧ x < (0 + 1) * 65536
  · rw [if_pos q, Bool.eq_iff_iff]
    simp only [hasS, List.any_nil, Bool.or_false, Bool.or_eq_true, Bool.and_eq_true, Bool.not_eq_true', decide_eq_true_eq, decide_eq_false_iff_not, List.mem_cons, List.not_mem_nil, or_false]
    omega
  · rw [if_neg q, Bool.eq_iff_iff]
    simp only [hasS, List.any_nil, Bool.or_false, Bool.or_eq_true, Bool.and_eq_true, Bool.not_eq_true', decide_eq_true_eq, Bool.not_false, and_true]
    omega
theorem knownN {k : Nat} (hk : 600000 ≤ k) : ∃ c k4 c4, roaring_Of k [5, 1] = some ([0], [c]) ∧ roaring_Set_Not k [0] [c] 4 = some ([0], [c], k4, c4) ∧ roaring_Set_Runs k k4 c4 = some (k4, c4, [(0, 1), (2, 4)]) := by
  obtain ⟨c, e2, h2⟩ := (ofKnown hk)
  obtain ⟨k3, c3, e3, h3⟩ := SSpans1 (k := k) (lo := 0) (hi := 4) (by omega) (by omega) (by omega)
  have hk3 : k3 = [0] := ris_eq h3.ris ris00 fun x => by
    rw [ivl_keys h3]
    simp only [List.mem_cons, List.not_mem_nil, or_false]
    omega
  subst hk3
  obtain ⟨k4, c4, e4, h4⟩ := S_AndNot (k := k) h3 h2 (by omega) (catKnown (k := k) (by omega)) (sortKnown2 (k := k) (by omega)) (compKnown (k := k) (by omega)) ris00 (fun K => by simp)
  refine ⟨c, k4, c4, e2, ?_, SRuns_is h4 (by omega) ⟨by omega, by omega, by omega, by omega, by omega, by omega, trivial⟩ has4⟩
  unfold roaring_Set_Not
  simp only [e3, Option.bind_some, e4]
theorem kb1 {k : Nat} (hk : 600000 ≤ k) {ks : List Int} {cs : List Cont} (h : IsS ks cs (ivl 65535 65538)) : roaring_Set_Len k ks cs = some (ks, cs, 3) := by
  have e7 := SLen (k := k) h (by omega)
  have t7 : Tryz.tot (ivl 65535 65538) = 3 := by rw [tot_ivl (by omega) (by omega)]; omega
  rw [t7] at e7
  exact e7
theorem kb2 {k : Nat} (hk : 600000 ≤ k) : isinglassref08_Same k [(0, 1), (2, 4)] [(0, 1), (2, 4)] = some true := by rw [Same8_eq (by simp) (by simp only [List.length_cons, List.length_nil]; omega), decide_eq_true rfl]
theorem new8 {k : Nat} (hk : 600000 ≤ k) : roaring_New k = some ([], []) := rfl
/- Each step by its equation: the kernel is not to reckon with what it compares. -/
theorem known8 {k : Nat} (hk : 600000 ≤ k) : isinglasslaw08_known k = some true := by
  obtain ⟨ks, cs, e, h, hks⟩ := (knownA hk)
  obtain ⟨c, k4, c4, e2, e6, e5⟩ := (knownN hk)
  have e7 := (kb1 hk) h
  have e8 := (rankKnown hk) h hks
  have e9 := SKeys (k := k) h
  have x1 : decide ((ks.length : Int) = 2) = true := by rw [hks]; rfl
  have x2 : decide (ks.getD (Int.toNat 1) (0 : Int) = 1) = true := by rw [hks]; rfl
  have x3 : decide ((1 : Int) < (ks.length : Int)) = true := by rw [hks]; rfl
  have x4 : decide ((3 : Int) = 3) = true := rfl
  have x5 : decide ((2 : Int) = 2) = true := rfl
  unfold isinglasslaw08_known
  rw [(new8 hk), Option.bind_some]
  dsimp only
  rw [e, Option.bind_some]
  dsimp only
  rw [e9, Option.bind_some]
  dsimp only
  rw [e2, Option.bind_some]
  dsimp only
  rw [e6, Option.bind_some]
  dsimp only
  rw [e5, Option.bind_some]
  dsimp only
  rw [e7, Option.bind_some]
  dsimp only
  rw [x4, x1, x3, x2, cond_true, cond_true, cond_true, cond_true, e8, Option.bind_some]
  dsimp only
  rw [x5, cond_true, (kb2 hk), Option.bind_some]
end Go.Rx.Tryz

/- Containers, part 4: numbers sifted, arrays merged, and the containers of both, either, the rest, just one of two. Printed by contops.py. -/
import Derived.Test.YtlncjconodmjjaaDoorContC
namespace Go.Rx.Tryd
open Go.Rx.Plain Go.IntWalk
set_option linter.unusedVariables false
set_option linter.unusedSimpArgs false
theorem sub_len {k : Nat} {g : Int → Bool} {l : List Int} : (l.filter g).length ≤ l.length := List.length_filter_le _ _
theorem ris_filter {g : Int → Bool} : ∀ {l : List Int} {m : Int}, ris m l → ris m (l.filter g)
  | [], m, h => trivial
  | a :: t, m, ⟨h1, h2, h3⟩ => by
    rw [List.filter_cons]
    split
    · exact ⟨h1, h2, ris_filter h3⟩
    · exact ris_mono (ris_filter h3) (by omega)
/-- A rising list is told by what it has. -/
theorem ris_ext {l : List Int} {f : Int → Bool} (h : ris 0 l) (hf : ∀ x, 0 ≤ x → x < 65536 → (x ∈ l ↔ f x = true)) : l = mem f := by
  rw [ris_mem h (by omega), mem_def]
  exact memI_congr fun x h1 h2 => by
    rw [Bool.eq_iff_iff, decide_eq_true_eq]
    exact hf x (by omega) (by omega)
theorem mem_filter (f g : Int → Bool) : (mem f).filter g = mem (fun x => f x && g x) :=
  ris_ext (ris_filter (mem_ris f)) fun x h1 h2 => by
    rw [List.mem_filter, mem_iff, Bool.and_eq_true]
    constructor
    · exact fun h => ⟨h.1.2, h.2⟩
    · exact fun h => ⟨⟨⟨h1, h2⟩, h.1⟩, h.2⟩
theorem filter_all {g : Int → Bool} {l : List Int} (h : ∀ x, x ∈ l → g x = true) : l.filter g = l := List.filter_eq_self.2 h
theorem take_of_append {a b : List Int} {i : Nat} {l : List Int} (h : l.take i = a) (hi : i ≤ l.length) : (a ++ b).take i = a := by
  have : a.length = i := by rw [← h, List.length_take]; omega
  rw [← this, List.take_left']
  rfl
theorem set_take {l : List Int} {i j : Nat} (h : i < j) (v : Int) : (l.set i v).drop j = l.drop j := by
  rw [List.drop_set_of_lt h]
theorem set_snoc {l : List Int} {i : Nat} (h : i < l.length) (v : Int) : (l.set i v).take (i + 1) = l.take i ++ [v] := by
  rw [List.take_add_one, List.take_set_of_le (Nat.le_refl i)]
  simp [h]
abbrev ann (a b : Bool) : Bool := a && !b

theorem Idx_l0 {g : Int → Bool} {c : Cont} {K : Nat} (hp : ∀ k x, K ≤ k → 0 ≤ x → x < 65536 → container_sift_1 k c x = some (c, !g x)) {a : List Int} (ha : ∀ x, x ∈ a → 0 ≤ x ∧ x < 65536) (hb : a.length < 1000000) : ∀ (rest : List Int) (k j : Nat), j ≤ a.length → a.drop j = rest → rest.length + K + 1 ≤ k →
    ((∀ x, x ∈ rest → g x = true) ∧ slices_IndexFunc_uint16_sift_1_l0 k a c (a.length : Int) (j : Int) = some (.inr (a, c))) ∨
    (∃ i : Nat, j ≤ i ∧ i < a.length ∧ (∀ x, x ∈ rest.take (i - j) → g x = true) ∧ g (a.getD i 0) = false ∧ slices_IndexFunc_uint16_sift_1_l0 k a c (a.length : Int) (j : Int) = some (.inl (a, c, (i : Int))))
  | _, 0, _, _, _, hk => by omega
  | [], k + 1, j, hj, h, hk => by
    have := drop_nil h hj
    have q : ¬ ((j : Int) < (a.length : Int)) := by omega
    refine .inl ⟨fun x hx => (nomatch hx), ?_⟩
    rw [slices_IndexFunc_uint16_sift_1_l0, decide_eq_false q]
    rfl
  | x :: s, k + 1, j, hj, h, hk => by
    obtain ⟨h1, h2, h3⟩ := drop_cons h (0 : Int)
    have hx := ha x (List.mem_of_mem_drop (by rw [h]; simp))
    have q : ((j : Int) < (a.length : Int)) := by omega
    have q0 : (0 : Int) ≤ (j : Int) := by omega
    have e2 : IntKind.wrap .i64 ((j : Int) + 1) = ((j + 1 : Nat) : Int) := by rw [i64_in _ ⟨by omega, by omega⟩]; omega
    have n1 : K ≤ k := by simp at hk; omega
    have n2 : s.length + K + 1 ≤ k := by simp at hk; omega
    have e := hp k x n1 hx.1 hx.2
    rw [slices_IndexFunc_uint16_sift_1_l0, decide_eq_true q, decide_eq_true q0, Int.toNat_natCast, h2]
    simp only [cond_true, e, Option.bind_some, e2]
    cases hg : g x with
    | false =>
      refine .inr ⟨j, Nat.le_refl _, h1, fun y hy => ?_, by rw [h2]; exact hg, rfl⟩
      rw [Nat.sub_self] at hy
      cases hy
    | true =>
      simp only [Bool.not_true, cond_false]
      rcases Idx_l0 hp ha hb s k (j + 1) (by omega) h3 n2 with ⟨r1, r2⟩ | ⟨i, r1, r2, r3, r4, r5⟩
      · refine .inl ⟨fun y hy => ?_, r2⟩
        rcases List.mem_cons.1 hy with rfl | hy
        · exact hg
        · exact r1 y hy
      · refine .inr ⟨i, by omega, r2, fun y hy => ?_, r4, r5⟩
        rw [show i - j = (i - (j + 1)) + 1 by omega, List.take_succ_cons] at hy
        rcases List.mem_cons.1 hy with rfl | hy
        · exact hg
        · exact r3 y hy
theorem Del_l0 {g : Int → Bool} {c : Cont} {K : Nat} (hp : ∀ k x, K ≤ k → 0 ≤ x → x < 65536 → container_sift_1 k c x = some (c, !g x)) {n : Nat} (hb : n < 1000000) : ∀ (rest : List Int) (k i j : Nat) (a : List Int), (∀ x, x ∈ rest → 0 ≤ x ∧ x < 65536) → a.length = n → i < j → j ≤ n → a.drop j = rest → rest.length + K + 1 ≤ k →
    ∃ a', slices_DeleteFunc_uint16_sift_1_l0 k a c (i : Int) (j : Int) = some (a', c, ((i + (rest.filter g).length : Nat) : Int)) ∧ a'.length = n ∧ a'.take (i + (rest.filter g).length) = a.take i ++ rest.filter g
  | _, 0, _, _, _, _, _, _, _, _, hk => by omega
  | [], k + 1, i, j, a, hx, hn, hij, hj, h, hk => by
    have := drop_nil h (by omega)
    have q : ¬ ((j : Int) < (a.length : Int)) := by omega
    refine ⟨a, ?_, hn, by simp⟩
    rw [slices_DeleteFunc_uint16_sift_1_l0, decide_eq_false q]
    rfl
  | x :: s, k + 1, i, j, a, hx, hn, hij, hj, h, hk => by
    obtain ⟨h1, h2, h3⟩ := drop_cons h (0 : Int)
    have hx0 := hx x (by simp)
    have hxs : ∀ y, y ∈ s → 0 ≤ y ∧ y < 65536 := fun y hy => hx y (by simp [hy])
    have q : ((j : Int) < (a.length : Int)) := by omega
    have q0 : (0 : Int) ≤ (j : Int) := by omega
    have q1 : (0 : Int) ≤ (i : Int) := by omega
    have q2 : ((i : Int) < (a.length : Int)) := by omega
    have e2 : IntKind.wrap .i64 ((j : Int) + 1) = ((j + 1 : Nat) : Int) := by rw [i64_in _ ⟨by omega, by omega⟩]; omega
    have e3 : IntKind.wrap .i64 ((i : Int) + 1) = ((i + 1 : Nat) : Int) := by rw [i64_in _ ⟨by omega, by omega⟩]; omega
    have n1 : K ≤ k := by simp at hk; omega
    have n2 : s.length + K + 1 ≤ k := by simp at hk; omega
    have e := hp k x n1 hx0.1 hx0.2
    rw [slices_DeleteFunc_uint16_sift_1_l0, decide_eq_true q, decide_eq_true q0, decide_eq_true q1, decide_eq_true q2, Int.toNat_natCast, h2, Int.toNat_natCast]
    simp only [cond_true, e, Option.bind_some, e2, e3]
    cases hg : g x with
    | true =>
      simp only [Bool.not_true, Bool.not_false, cond_true, cond_false]
      obtain ⟨a', r1, r2, r3⟩ := Del_l0 hp hb s k (i + 1) (j + 1) (a.set i x) hxs (by simp [hn]) (by omega) (by omega) (by rw [set_take (by omega), h3]) n2
      have e4 : i + ((x :: s).filter g).length = i + 1 + (s.filter g).length := by rw [List.filter_cons, if_pos hg, List.length_cons]; omega
      refine ⟨a', ?_, r2, ?_⟩
      · rw [e4]; exact r1
      · rw [e4, r3, set_snoc (by omega), List.filter_cons, if_pos hg, List.append_assoc]
        rfl
    | false =>
      simp only [Bool.not_true, Bool.not_false, cond_true, cond_false]
      obtain ⟨a', r1, r2, r3⟩ := Del_l0 hp hb s k i (j + 1) a hxs hn (by omega) (by omega) h3 n2
      have e4 : (x :: s).filter g = s.filter g := by rw [List.filter_cons, if_neg (by rw [hg]; decide)]
      exact ⟨a', by rw [e4]; exact r1, r2, by rw [e4]; exact r3⟩
theorem Delete {g : Int → Bool} {c : Cont} {K k : Nat} (hp : ∀ k x, K ≤ k → 0 ≤ x → x < 65536 → container_sift_1 k c x = some (c, !g x)) {a : List Int} (ha : ∀ x, x ∈ a → 0 ≤ x ∧ x < 65536) (hb : a.length < 1000000) (hk : a.length + K + 1 ≤ k) :
    slices_DeleteFunc_uint16_sift_1 k a c = some (c, a.filter g) := by
  unfold slices_DeleteFunc_uint16_sift_1 slices_IndexFunc_uint16_sift_1
  rcases Idx_l0 hp ha hb a k 0 (by omega) rfl hk with ⟨r1, r2⟩ | ⟨i, _, r2, r3, r4, r5⟩
  · have r2' : slices_IndexFunc_uint16_sift_1_l0 k a c (a.length : Int) 0 = some (.inr (a, c)) := r2
    rw [r2', filter_all r1]
    rfl
  · have r5' : slices_IndexFunc_uint16_sift_1_l0 k a c (a.length : Int) 0 = some (.inl (a, c, (i : Int))) := r5
    have hd : a.drop i = a.getD i 0 :: a.drop (i + 1) := by
      rw [List.drop_eq_getElem_cons r2]
      simp [List.getD, r2]
    have hf : a.filter g = a.take i ++ (a.drop (i + 1)).filter g := by
      conv => lhs; rw [← List.take_append_drop i a, List.filter_append, hd, List.filter_cons, if_neg (by rw [r4]; decide)]
      rw [filter_all (l := a.take i) (fun x hx => r3 x (by rw [Nat.sub_zero]; exact hx))]
    have hm1 : ¬ ((i : Int) = -1) := by omega
    have e2 : IntKind.wrap .i64 ((i : Int) + 1) = ((i + 1 : Nat) : Int) := by rw [i64_in _ ⟨by omega, by omega⟩]; omega
    have hl := List.length_drop (i := i + 1) (l := a)
    have hl2 := List.length_filter_le g (a.drop (i + 1))
    obtain ⟨a', s1, s2, s3⟩ := Del_l0 hp (n := a.length) hb (a.drop (i + 1)) k i (i + 1) a (fun x hx => ha x (List.mem_of_mem_drop hx)) rfl (by omega) (by omega) rfl (by omega)
    generalize hq : i + ((a.drop (i + 1)).filter g).length = q at s1 s3
    have c0 : (0 : Int) ≤ (q : Int) := by omega
    have c1 : ((q : Int) ≤ ((List.length a' : Nat) : Int)) := by omega
    have c2 : Nat.blt q (List.length a') = true := by
      have : q < a'.length := by omega
      exact Nat.ble_eq_true_of_le this
    have c3 : (List.take q a' ++ List.replicate (List.length a' - q) (0 : Int)).length = a'.length := by
      rw [List.length_append, List.length_take, List.length_replicate]; omega
    have c4 : 0 < List.length a' := by omega
    have c5 : (List.take q a' ++ List.replicate (List.length a' - q) (0 : Int)).take q = a'.take q := by
      rw [List.take_append_of_le_length (by rw [List.length_take]; omega), List.take_take, Nat.min_self]
    rw [r5', hf]
    simp only [Option.bind_some, decide_eq_false hm1, cond_false, e2]
    rw [s1]
    simp only [Option.bind_some, decide_eq_true c0, decide_eq_true c1, cond_true, Int.toNat_natCast, c2, c3, decide_eq_true c4, c5]
    rw [s3]

theorem sift_has {c : Cont} {g : Int → Bool} {k : Nat} {x : Int} (hs : Sup g) (h : IsC c g) (hk : 140000 ≤ k) (h0 : 0 ≤ x) (h1 : x < 65536) : container_sift_1 k c x = some (c, !g x) := by
  unfold container_sift_1
  rw [CHas hs h hk ⟨h0, h1⟩]
  rfl
theorem sift_Has {c : Cont} {f g : Int → Bool} {k : Nat} (hf : Sup f) (hs : Sup g) (h : IsC c g) (hk : 300000 ≤ k) : ∃ e, container_sift_Container_Has k (mem f) c = some e ∧ IsC e (fun x => f x && g x) ∧ max e.1 1 = kF (nF (fun x => f x && g x)) (rF (fun x => f x && g x)) := by
  have hl := mem_le f
  have hm : ∀ x, x ∈ mem f → 0 ≤ x ∧ x < 65536 := fun x hx => ((mem_iff f x).1 hx).1
  have d := Delete (g := g) (c := c) (K := 140000) (k := k) (fun k x hk h0 h1 => sift_has hs h hk h0 h1) (a := mem f) hm (by omega) (by omega)
  rw [mem_filter] at d
  obtain ⟨e, e1, e2, e3⟩ := CCanon (k := k) (f := fun x => f x && g x) (fun x hx => by simp only [hf x hx, Bool.false_and]) (IsC.arr (w := []) (r := []) (.inr rfl)) (by omega)
  refine ⟨e, ?_, e2, e3⟩
  unfold container_sift_Container_Has
  rw [clone16_eq (by omega)]
  simp only [Option.bind_some, d, e1]

theorem Idx_o_l0 {g : Int → Bool} {c : Cont} {K : Nat} (hp : ∀ k x, K ≤ k → 0 ≤ x → x < 65536 → container_sift_1_o k c.1 c.2.1 c.2.2.1 c.2.2.2 x = some (c.1, c.2.1, c.2.2.1, c.2.2.2, !g x)) {a : List Int} (ha : ∀ x, x ∈ a → 0 ≤ x ∧ x < 65536) (hb : a.length < 1000000) : ∀ (rest : List Int) (k j : Nat), j ≤ a.length → a.drop j = rest → rest.length + K + 1 ≤ k →
    ((∀ x, x ∈ rest → g x = true) ∧ slices_IndexFunc_uint16_sift_1_o_l0 k a c.1 c.2.1 c.2.2.1 c.2.2.2 (a.length : Int) (j : Int) = some (.inr (a, c.1, c.2.1, c.2.2.1, c.2.2.2))) ∨
    (∃ i : Nat, j ≤ i ∧ i < a.length ∧ (∀ x, x ∈ rest.take (i - j) → g x = true) ∧ g (a.getD i 0) = false ∧ slices_IndexFunc_uint16_sift_1_o_l0 k a c.1 c.2.1 c.2.2.1 c.2.2.2 (a.length : Int) (j : Int) = some (.inl (a, c.1, c.2.1, c.2.2.1, c.2.2.2, (i : Int))))
  | _, 0, _, _, _, hk => by omega
  | [], k + 1, j, hj, h, hk => by
    have := drop_nil h hj
    have q : ¬ ((j : Int) < (a.length : Int)) := by omega
    refine .inl ⟨fun x hx => (nomatch hx), ?_⟩
    rw [slices_IndexFunc_uint16_sift_1_o_l0, decide_eq_false q]
    rfl
  | x :: s, k + 1, j, hj, h, hk => by
    obtain ⟨h1, h2, h3⟩ := drop_cons h (0 : Int)
    have hx := ha x (List.mem_of_mem_drop (by rw [h]; simp))
    have q : ((j : Int) < (a.length : Int)) := by omega
    have q0 : (0 : Int) ≤ (j : Int) := by omega
    have e2 : IntKind.wrap .i64 ((j : Int) + 1) = ((j + 1 : Nat) : Int) := by rw [i64_in _ ⟨by omega, by omega⟩]; omega
    have n1 : K ≤ k := by simp at hk; omega
    have n2 : s.length + K + 1 ≤ k := by simp at hk; omega
    have e := hp k x n1 hx.1 hx.2
    rw [slices_IndexFunc_uint16_sift_1_o_l0, decide_eq_true q, decide_eq_true q0, Int.toNat_natCast, h2]
    simp only [cond_true, e, Option.bind_some, e2]
    cases hg : g x with
    | false =>
      refine .inr ⟨j, Nat.le_refl _, h1, fun y hy => ?_, by rw [h2]; exact hg, rfl⟩
      rw [Nat.sub_self] at hy
      cases hy
    | true =>
      simp only [Bool.not_true, cond_false]
      rcases Idx_o_l0 hp ha hb s k (j + 1) (by omega) h3 n2 with ⟨r1, r2⟩ | ⟨i, r1, r2, r3, r4, r5⟩
      · refine .inl ⟨fun y hy => ?_, r2⟩
        rcases List.mem_cons.1 hy with rfl | hy
        · exact hg
        · exact r1 y hy
      · refine .inr ⟨i, by omega, r2, fun y hy => ?_, r4, r5⟩
        rw [show i - j = (i - (j + 1)) + 1 by omega, List.take_succ_cons] at hy
        rcases List.mem_cons.1 hy with rfl | hy
        · exact hg
        · exact r3 y hy
theorem Del_o_l0 {g : Int → Bool} {c : Cont} {K : Nat} (hp : ∀ k x, K ≤ k → 0 ≤ x → x < 65536 → container_sift_1_o k c.1 c.2.1 c.2.2.1 c.2.2.2 x = some (c.1, c.2.1, c.2.2.1, c.2.2.2, !g x)) {n : Nat} (hb : n < 1000000) : ∀ (rest : List Int) (k i j : Nat) (a : List Int), (∀ x, x ∈ rest → 0 ≤ x ∧ x < 65536) → a.length = n → i < j → j ≤ n → a.drop j = rest → rest.length + K + 1 ≤ k →
    ∃ a', slices_DeleteFunc_uint16_sift_1_o_l0 k a c.1 c.2.1 c.2.2.1 c.2.2.2 (i : Int) (j : Int) = some (a', c.1, c.2.1, c.2.2.1, c.2.2.2, ((i + (rest.filter g).length : Nat) : Int)) ∧ a'.length = n ∧ a'.take (i + (rest.filter g).length) = a.take i ++ rest.filter g
  | _, 0, _, _, _, _, _, _, _, _, hk => by omega
  | [], k + 1, i, j, a, hx, hn, hij, hj, h, hk => by
    have := drop_nil h (by omega)
    have q : ¬ ((j : Int) < (a.length : Int)) := by omega
    refine ⟨a, ?_, hn, by simp⟩
    rw [slices_DeleteFunc_uint16_sift_1_o_l0, decide_eq_false q]
    rfl
  | x :: s, k + 1, i, j, a, hx, hn, hij, hj, h, hk => by
    obtain ⟨h1, h2, h3⟩ := drop_cons h (0 : Int)
    have hx0 := hx x (by simp)
    have hxs : ∀ y, y ∈ s → 0 ≤ y ∧ y < 65536 := fun y hy => hx y (by simp [hy])
    have q : ((j : Int) < (a.length : Int)) := by omega
    have q0 : (0 : Int) ≤ (j : Int) := by omega
    have q1 : (0 : Int) ≤ (i : Int) := by omega
    have q2 : ((i : Int) < (a.length : Int)) := by omega
    have e2 : IntKind.wrap .i64 ((j : Int) + 1) = ((j + 1 : Nat) : Int) := by rw [i64_in _ ⟨by omega, by omega⟩]; omega
    have e3 : IntKind.wrap .i64 ((i : Int) + 1) = ((i + 1 : Nat) : Int) := by rw [i64_in _ ⟨by omega, by omega⟩]; omega
    have n1 : K ≤ k := by simp at hk; omega
    have n2 : s.length + K + 1 ≤ k := by simp at hk; omega
    have e := hp k x n1 hx0.1 hx0.2
    rw [slices_DeleteFunc_uint16_sift_1_o_l0, decide_eq_true q, decide_eq_true q0, decide_eq_true q1, decide_eq_true q2, Int.toNat_natCast, h2, Int.toNat_natCast]
    simp only [cond_true, e, Option.bind_some, e2, e3]
    cases hg : g x with
    | true =>
      simp only [Bool.not_true, Bool.not_false, cond_true, cond_false]
      obtain ⟨a', r1, r2, r3⟩ := Del_o_l0 hp hb s k (i + 1) (j + 1) (a.set i x) hxs (by simp [hn]) (by omega) (by omega) (by rw [set_take (by omega), h3]) n2
      have e4 : i + ((x :: s).filter g).length = i + 1 + (s.filter g).length := by rw [List.filter_cons, if_pos hg, List.length_cons]; omega
      refine ⟨a', ?_, r2, ?_⟩
      · rw [e4]; exact r1
      · rw [e4, r3, set_snoc (by omega), List.filter_cons, if_pos hg, List.append_assoc]
        rfl
    | false =>
      simp only [Bool.not_true, Bool.not_false, cond_true, cond_false]
      obtain ⟨a', r1, r2, r3⟩ := Del_o_l0 hp hb s k i (j + 1) a hxs hn (by omega) (by omega) h3 n2
      have e4 : (x :: s).filter g = s.filter g := by rw [List.filter_cons, if_neg (by rw [hg]; decide)]
      exact ⟨a', by rw [e4]; exact r1, r2, by rw [e4]; exact r3⟩
theorem Delete_o {g : Int → Bool} {c : Cont} {K k : Nat} (hp : ∀ k x, K ≤ k → 0 ≤ x → x < 65536 → container_sift_1_o k c.1 c.2.1 c.2.2.1 c.2.2.2 x = some (c.1, c.2.1, c.2.2.1, c.2.2.2, !g x)) {a : List Int} (ha : ∀ x, x ∈ a → 0 ≤ x ∧ x < 65536) (hb : a.length < 1000000) (hk : a.length + K + 1 ≤ k) :
    slices_DeleteFunc_uint16_sift_1_o k a c.1 c.2.1 c.2.2.1 c.2.2.2 = some (c.1, c.2.1, c.2.2.1, c.2.2.2, a.filter g) := by
  unfold slices_DeleteFunc_uint16_sift_1_o slices_IndexFunc_uint16_sift_1_o
  rcases Idx_o_l0 hp ha hb a k 0 (by omega) rfl hk with ⟨r1, r2⟩ | ⟨i, _, r2, r3, r4, r5⟩
  · have r2' : slices_IndexFunc_uint16_sift_1_o_l0 k a c.1 c.2.1 c.2.2.1 c.2.2.2 (a.length : Int) 0 = some (.inr (a, c.1, c.2.1, c.2.2.1, c.2.2.2)) := r2
    rw [r2', filter_all r1]
    rfl
  · have r5' : slices_IndexFunc_uint16_sift_1_o_l0 k a c.1 c.2.1 c.2.2.1 c.2.2.2 (a.length : Int) 0 = some (.inl (a, c.1, c.2.1, c.2.2.1, c.2.2.2, (i : Int))) := r5
    have hd : a.drop i = a.getD i 0 :: a.drop (i + 1) := by
      rw [List.drop_eq_getElem_cons r2]
      simp [List.getD, r2]
    have hf : a.filter g = a.take i ++ (a.drop (i + 1)).filter g := by
      conv => lhs; rw [← List.take_append_drop i a, List.filter_append, hd, List.filter_cons, if_neg (by rw [r4]; decide)]
      rw [filter_all (l := a.take i) (fun x hx => r3 x (by rw [Nat.sub_zero]; exact hx))]
    have hm1 : ¬ ((i : Int) = -1) := by omega
    have e2 : IntKind.wrap .i64 ((i : Int) + 1) = ((i + 1 : Nat) : Int) := by rw [i64_in _ ⟨by omega, by omega⟩]; omega
    have hl := List.length_drop (i := i + 1) (l := a)
    have hl2 := List.length_filter_le g (a.drop (i + 1))
    obtain ⟨a', s1, s2, s3⟩ := Del_o_l0 hp (n := a.length) hb (a.drop (i + 1)) k i (i + 1) a (fun x hx => ha x (List.mem_of_mem_drop hx)) rfl (by omega) (by omega) rfl (by omega)
    generalize hq : i + ((a.drop (i + 1)).filter g).length = q at s1 s3
    have c0 : (0 : Int) ≤ (q : Int) := by omega
    have c1 : ((q : Int) ≤ ((List.length a' : Nat) : Int)) := by omega
    have c2 : Nat.blt q (List.length a') = true := by
      have : q < a'.length := by omega
      exact Nat.ble_eq_true_of_le this
    have c3 : (List.take q a' ++ List.replicate (List.length a' - q) (0 : Int)).length = a'.length := by
      rw [List.length_append, List.length_take, List.length_replicate]; omega
    have c4 : 0 < List.length a' := by omega
    have c5 : (List.take q a' ++ List.replicate (List.length a' - q) (0 : Int)).take q = a'.take q := by
      rw [List.take_append_of_le_length (by rw [List.length_take]; omega), List.take_take, Nat.min_self]
    rw [r5', hf]
    simp only [Option.bind_some, decide_eq_false hm1, cond_false, e2]
    rw [s1]
    simp only [Option.bind_some, decide_eq_true c0, decide_eq_true c1, cond_true, Int.toNat_natCast, c2, c3, decide_eq_true c4, c5]
    rw [s3]

theorem sift_hasn {c : Cont} {g : Int → Bool} {k : Nat} {x : Int} (hs : Sup g) (h : IsC c g) (hk : 140000 ≤ k) (h0 : 0 ≤ x) (h1 : x < 65536) : container_sift_1_o k c.1 c.2.1 c.2.2.1 c.2.2.2 x = some (c.1, c.2.1, c.2.2.1, c.2.2.2, !(!g x)) := by
  have e : container_Container_Has k (c.1, (c.2.1, (c.2.2.1, c.2.2.2))) x = some (g x) := CHas hs h hk ⟨h0, h1⟩
  unfold container_sift_1_o container_Container_AndNot_1
  rw [e]
  rfl
theorem sift_AndNot {c : Cont} {f g : Int → Bool} {k : Nat} (hf : Sup f) (hs : Sup g) (h : IsC c g) (hk : 300000 ≤ k) : ∃ e, container_sift_Container_AndNot_1 k c.1 c.2.1 c.2.2.1 c.2.2.2 (mem f) = some (c.1, c.2.1, c.2.2.1, c.2.2.2, e) ∧ IsC e (fun x => f x && !g x) ∧ max e.1 1 = kF (nF (fun x => f x && !g x)) (rF (fun x => f x && !g x)) := by
  have hl := mem_le f
  have hm : ∀ x, x ∈ mem f → 0 ≤ x ∧ x < 65536 := fun x hx => ((mem_iff f x).1 hx).1
  have d := Delete_o (g := fun x => !g x) (c := c) (K := 140000) (k := k) (fun k x hk h0 h1 => sift_hasn hs h hk h0 h1) (a := mem f) hm (by omega) (by omega)
  rw [mem_filter] at d
  obtain ⟨e, e1, e2, e3⟩ := CCanon (k := k) (f := fun x => f x && !g x) (fun x hx => by simp only [hf x hx, Bool.false_and]) (IsC.arr (w := []) (r := []) (.inr rfl)) (by omega)
  refine ⟨e, ?_, e2, e3⟩
  unfold container_sift_Container_AndNot_1
  rw [clone16_eq (by omega)]
  simp only [Option.bind_some, d, e1]

theorem tk_And1 (k : Nat) : arrays_And_1 k true true = some (and true true) := rfl
theorem tk_And2 (k : Nat) : arrays_And_1 k true false = some (and true false) := rfl
theorem tk_And3 (k : Nat) : arrays_And_1 k false true = some (and false true) := rfl
theorem Merge_And_l0 : ∀ (d k : Nat) (acc a b : List Int) (m : Int), a.length + b.length ≤ d → d + 1 ≤ k → acc.length + d ≤ 1000000 → ris m a → ris m b →
    ∃ r, arrays_merge_And_1_l0 k acc a b = some (acc ++ r) ∧ ris m r ∧ ∀ x, x ∈ r ↔ and (decide (x ∈ a)) (decide (x ∈ b)) = true
  | d, 0, acc, a, b, m, hd, hk, _, _, _ => by omega
  | d, k + 1, acc, a, b, m, hd, hk, hn, ha, hb => by
    have put : ∀ (c : Bool) (z : Int) (a' b' : List Int), a'.length + b'.length + 1 ≤ d → m ≤ z → z < 65536 → ris (z + 1) a' → ris (z + 1) b' → (∀ x, x ≠ z → ((x ∈ a' ↔ x ∈ a) ∧ (x ∈ b' ↔ x ∈ b))) → c = and (decide (z ∈ a)) (decide (z ∈ b)) →
        ∃ r, (bif c then bif decide ((List.length acc + List.length [z]) * 2 ≤ 140737488355328) then bif decide (List.length acc + List.length [z] ≤ 140737488355328) then arrays_merge_And_1_l0 k (acc ++ [z]) a' b' else none else none else arrays_merge_And_1_l0 k acc a' b') = some (acc ++ r) ∧ ris m r ∧ ∀ x, x ∈ r ↔ and (decide (x ∈ a)) (decide (x ∈ b)) = true := by
      intro c z a' b' hd' hz1 hz2 ha' hb' hx hc
      have dx : ∀ x, x ≠ z → decide (x ∈ a') = decide (x ∈ a) := fun x q => by rw [Bool.eq_iff_iff, decide_eq_true_eq, decide_eq_true_eq]; exact (hx x q).1
      have dy : ∀ x, x ≠ z → decide (x ∈ b') = decide (x ∈ b) := fun x q => by rw [Bool.eq_iff_iff, decide_eq_true_eq, decide_eq_true_eq]; exact (hx x q).2
      have hz : ∀ r : List Int, ris (z + 1) r → ∀ x, x ∈ r → x ≠ z := fun r hr x hx he => by
        have := (ris_low hr hx).1
        omega
      cases hcc : c with
      | true =>
        obtain ⟨r, r1, r2, r3⟩ := Merge_And_l0 (d - 1) k (acc ++ [z]) a' b' (z + 1) (by omega) (by omega) (by simp; omega) ha' hb'
        have g1 : decide ((List.length acc + List.length [z]) * 2 ≤ 140737488355328) = true := decide_eq_true (by simp only [List.length_cons, List.length_nil]; omega)
        have g2 : decide (List.length acc + List.length [z] ≤ 140737488355328) = true := decide_eq_true (by simp only [List.length_cons, List.length_nil]; omega)
        refine ⟨z :: r, by rw [g1, g2, cond_true, cond_true, cond_true, r1, List.append_assoc]; rfl, ⟨hz1, hz2, r2⟩, fun x => ?_⟩
        by_cases q : x = z
        · subst q
          rw [← hc, hcc]
          simp
        · rw [List.mem_cons, r3 x, dx x q, dy x q]
          simp [q]
      | false =>
        obtain ⟨r, r1, r2, r3⟩ := Merge_And_l0 (d - 1) k acc a' b' (z + 1) (by omega) (by omega) (by omega) ha' hb'
        refine ⟨r, by rw [cond_false, r1], ris_mono r2 (by omega), fun x => ?_⟩
        by_cases q : x = z
        · subst q
          rw [← hc, hcc]
          exact ⟨fun h => absurd rfl (hz r r2 x h), fun h => absurd h (by decide)⟩
        · rw [r3 x, dx x q, dy x q]
    cases a with
    | nil =>
      cases b with
      | nil =>
        refine ⟨[], ?_, trivial, fun x => ?_⟩
        · rw [arrays_merge_And_1_l0, List.append_nil]
          rfl
        · refine ⟨fun h => (nomatch h), fun h => absurd h ?_⟩
          rw [decide_eq_false (List.not_mem_nil)]
          decide
      | cons y t =>
        obtain ⟨b1, b2, b3⟩ := hb
        have h1 : ¬ ((0 : Int) < ((List.length ([] : List Int) : Nat) : Int)) := by simp
        have h2 : (((List.length ([] : List Int) : Nat) : Int) = 0) := rfl
        have h3 : ((0 : Int) < ((List.length (y :: t) : Nat) : Int)) := by simp only [List.length_cons]; omega
        have h4 : ¬ (((List.length (y :: t) : Nat) : Int) = 0) := by omega
        have h5 : ((1 : Int) ≤ ((List.length (y :: t) : Nat) : Int)) := by omega
        have g1 : (y :: t).getD (Int.toNat 0) (0 : Int) = y := rfl
        have g2 : (y :: t).drop (Int.toNat 1) = t := rfl
        obtain ⟨r, r1, r2, r3⟩ := put (and false true) y [] t (by simp only [List.length_cons, List.length_nil] at hd ⊢; omega) b1 b2 trivial b3 (fun x hx => ⟨Iff.rfl, by simp [hx]⟩) (by simp)
        refine ⟨r, ?_, r2, r3⟩
        rw [arrays_merge_And_1_l0]
        simp only [h1, h2, h3, h4, h5, g1, g2, decide_true, decide_false, cond_true, cond_false, tk_And1, tk_And2, tk_And3, Option.bind_some]
        exact r1
    | cons x s =>
      obtain ⟨a1, a2, a3⟩ := ha
      have h1 : ((0 : Int) < ((List.length (x :: s) : Nat) : Int)) := by simp only [List.length_cons]; omega
      have h2 : ¬ (((List.length (x :: s) : Nat) : Int) = 0) := by omega
      have h5 : ((1 : Int) ≤ ((List.length (x :: s) : Nat) : Int)) := by omega
      have g1 : (x :: s).getD (Int.toNat 0) (0 : Int) = x := rfl
      have g2 : (x :: s).drop (Int.toNat 1) = s := rfl
      cases b with
      | nil =>
        have h3 : ¬ ((0 : Int) < ((List.length ([] : List Int) : Nat) : Int)) := by simp
        have h4 : (((List.length ([] : List Int) : Nat) : Int) = 0) := rfl
        obtain ⟨r, r1, r2, r3⟩ := put (and true false) x s [] (by simp only [List.length_cons, List.length_nil] at hd ⊢; omega) a1 a2 a3 trivial (fun x hx => ⟨by simp [hx], Iff.rfl⟩) (by simp)
        refine ⟨r, ?_, r2, r3⟩
        rw [arrays_merge_And_1_l0]
        simp only [h1, h2, h3, h4, h5, g1, g2, decide_true, decide_false, cond_true, cond_false, tk_And1, tk_And2, tk_And3, Option.bind_some]
        exact r1
      | cons y t =>
        obtain ⟨b1, b2, b3⟩ := hb
        have h3 : ((0 : Int) < ((List.length (y :: t) : Nat) : Int)) := by simp only [List.length_cons]; omega
        have h4 : ¬ (((List.length (y :: t) : Nat) : Int) = 0) := by omega
        have h6 : ((1 : Int) ≤ ((List.length (y :: t) : Nat) : Int)) := by omega
        have g3 : (y :: t).getD (Int.toNat 0) (0 : Int) = y := rfl
        have g4 : (y :: t).drop (Int.toNat 1) = t := rfl
        have nx : ∀ z, z ∈ s → x < z := fun z hz => by have := (ris_low a3 hz).1; omega
        have ny : ∀ z, z ∈ t → y < z := fun z hz => by have := (ris_low b3 hz).1; omega
        have hd' : s.length + t.length + 2 ≤ d := by simp only [List.length_cons] at hd; omega
        by_cases q1 : x ≤ y
        · by_cases q2 : y ≤ x
          · have : y = x := by omega
            subst this
            obtain ⟨r, r1, r2, r3⟩ := put (and true true) y s t (by omega) a1 a2 a3 b3 (fun x hx => ⟨by simp [hx], by simp [hx]⟩) (by simp)
            refine ⟨r, ?_, r2, r3⟩
            rw [arrays_merge_And_1_l0]
            simp only [h1, h2, h3, h4, h5, h6, g1, g2, g3, g4, q1, decide_true, decide_false, cond_true, cond_false, tk_And1, tk_And2, tk_And3, Option.bind_some]
            exact r1
          · have hn : ¬ x ∈ y :: t := fun h => by
              rcases List.mem_cons.1 h with h | h
              · omega
              · have := ny x h; omega
            obtain ⟨r, r1, r2, r3⟩ := put (and true false) x s (y :: t) (by simp only [List.length_cons]; omega) a1 a2 a3 ⟨by omega, b2, b3⟩ (fun x hx => ⟨by simp [hx], Iff.rfl⟩) (by rw [decide_eq_false hn]; simp)
            refine ⟨r, ?_, r2, r3⟩
            rw [arrays_merge_And_1_l0]
            simp only [h1, h2, h3, h4, h5, h6, g1, g2, g3, g4, q1, q2, decide_true, decide_false, cond_true, cond_false, tk_And1, tk_And2, tk_And3, Option.bind_some]
            exact r1
        · have q2 : y ≤ x := by omega
          have hn : ¬ y ∈ x :: s := fun h => by
            rcases List.mem_cons.1 h with h | h
            · omega
            · have := nx y h; omega
          obtain ⟨r, r1, r2, r3⟩ := put (and false true) y (x :: s) t (by simp only [List.length_cons]; omega) b1 b2 ⟨by omega, a2, a3⟩ b3 (fun x hx => ⟨Iff.rfl, by simp [hx]⟩) (by rw [decide_eq_false hn]; simp)
          refine ⟨r, ?_, r2, r3⟩
          rw [arrays_merge_And_1_l0]
          simp only [h1, h2, h3, h4, h5, h6, g1, g2, g3, g4, q1, q2, decide_true, decide_false, cond_true, cond_false, tk_And1, tk_And2, tk_And3, Option.bind_some]
          exact r1
theorem AAnd_eq (f g : Int → Bool) {k : Nat} (hk : 140000 ≤ k) : arrays_And k (mem f) (mem g) = some (mem fun x => and (f x) (g x)) := by
  have h1 := mem_le f
  have h2 := mem_le g
  obtain ⟨r, r1, r2, r3⟩ := Merge_And_l0 ((mem f).length + (mem g).length) k [] (mem f) (mem g) 0 (Nat.le_refl _) (by omega) (by simp; omega) (mem_ris f) (mem_ris g)
  have : r = mem fun x => and (f x) (g x) := ris_ext r2 fun x a b => by
    have e1 : decide (x ∈ mem f) = f x := by
      rw [Bool.eq_iff_iff, decide_eq_true_eq, mem_iff]
      exact ⟨fun h => h.2, fun h => ⟨⟨a, b⟩, h⟩⟩
    have e2 : decide (x ∈ mem g) = g x := by
      rw [Bool.eq_iff_iff, decide_eq_true_eq, mem_iff]
      exact ⟨fun h => h.2, fun h => ⟨⟨a, b⟩, h⟩⟩
    rw [r3, e1, e2]
  unfold arrays_And arrays_merge_And_1
  rw [r1, this]
  rfl

theorem sup_And {f g : Int → Bool} (hf : Sup f) (hg : Sup g) : Sup fun x => and (f x) (g x) := fun x hx => by show and (f x) (g x) = false; rw [hf x hx, hg x hx]; rfl
/-- The containers of two sets, of whatever kinds. -/
theorem Pair_And {c d : Cont} {f g : Int → Bool} {k : Nat} (hf : Sup f) (hg : Sup g) (hc : IsC c f) (hd : IsC d g) (hk : 300000 ≤ k) :
    ∃ e, container_pair_do k c d = some e ∧ IsC e (fun x => and (f x) (g x)) ∧ max e.1 1 = kF (nF fun x => and (f x) (g x)) (rF fun x => and (f x) (g x)) := by
  have hs := sup_And hf hg
  have wds : ∃ e, ((container_Container_Words k c).bind fun y => (container_Container_Words k d).bind fun z => (words_And k y z).bind fun w => (container_Container_Canonical k (2, (([] : (List Int)), (w, ([] : (List (Int × Int))))))).bind fun v => some v) = some e ∧ IsC e (fun x => and (f x) (g x)) ∧ max e.1 1 = kF (nF fun x => and (f x) (g x)) (rF fun x => and (f x) (g x)) := by
    obtain ⟨W, w1, w2, w3⟩ := CWords (k := k) hf hc (by omega)
    obtain ⟨V, v1, v2, v3⟩ := CWords (k := k) hg hd (by omega)
    obtain ⟨U, u1, u2, u3⟩ := WAnd_eq (k := k) w2 v2 (by omega)
    obtain ⟨e, e1, e2, e3⟩ := CCanon (c := ((2 : Int), (([] : List Int), (up U, ([] : List (Int × Int)))))) (k := k) hs (.wrd u2 fun x hx => by rw [u3 x hx, w3 x hx, v3 x hx]) (by omega)
    exact ⟨e, by rw [w1]; simp only [Option.bind_some, v1, u1, e1], e2, e3⟩
  unfold container_pair_do
  simp only [Kind_eq, Option.bind_some]
  cases hc with
  | arr h =>
    have k1 : ∀ n : Int, n = 0 ∨ n = 1 → max n 1 = 1 := fun n h => by rcases h with h | h <;> subst h <;> rfl
    have n3 : ∀ n : Int, n = 0 ∨ n = 1 → ¬ n = 3 := fun n h => by rcases h with h | h <;> subst h <;> omega
    cases hd with
    | arr h' =>
      obtain ⟨e, e1, e2, e3⟩ := CCanon (c := ((1 : Int), ((mem fun x => and (f x) (g x)), (([] : List Int), ([] : List (Int × Int)))))) (k := k) hs (.arr (.inr rfl)) (by omega)
      exact ⟨e, by simp only [k1 _ h, k1 _ h', decide_true, cond_true, AAnd_eq f g (k := k) (by omega), Option.bind_some, e1], e2, e3⟩
    | wrd _ _ => simp only [k1 _ h, n3 _ h, show max (2 : Int) 1 = 2 from rfl, show ¬ (2 : Int) = 1 by omega, decide_true, decide_false, cond_true, cond_false]; exact wds
    | run _ _ _ => simp only [k1 _ h, n3 _ h, show max (3 : Int) 1 = 3 from rfl, show ¬ (3 : Int) = 1 by omega, decide_true, decide_false, cond_true, cond_false]; exact wds
  | wrd hW h =>
    simp only [show max (2 : Int) 1 = 2 from rfl, show ¬ (2 : Int) = 1 by omega, show ¬ (2 : Int) = 3 by omega, decide_false, cond_false]
    exact wds
  | run hm hw h =>
    cases hd with
    | arr h' =>
      have n3 : ∀ n : Int, n = 0 ∨ n = 1 → ¬ n = 3 := fun n h => by rcases h with h | h <;> subst h <;> omega
      simp only [show max (3 : Int) 1 = 3 from rfl, show ¬ (3 : Int) = 1 by omega, n3 _ h', decide_true, decide_false, cond_true, cond_false]
      exact wds
    | wrd _ _ =>
      simp only [show max (3 : Int) 1 = 3 from rfl, show ¬ (3 : Int) = 1 by omega, show ¬ (2 : Int) = 3 by omega, decide_true, decide_false, cond_true, cond_false]
      exact wds
    | run hm' hw' h' =>
      have l1 := runs_len_le hm hw h
      have l2 := runs_len_le hm' hw' h'
      obtain ⟨r2, e2, q⟩ := And_ans (k := k) hm hm' hw hw' (by omega) (by omega) (by omega)
      obtain ⟨e, e3, i3, k3⟩ := CCanon (c := ((3 : Int), (([] : List Int), (([] : List Int), r2)))) (k := k) hs (.run q.may q.wf (fun x => by rw [q.has, h, h'])) (by omega)
      exact ⟨e, by simp only [show max (3 : Int) 1 = 3 from rfl, show ¬ (3 : Int) = 1 by omega, decide_true, decide_false, cond_true, cond_false, e2, e3, Option.bind_some], i3, k3⟩

theorem arr_of {c : Cont} {f : Int → Bool} (h : IsC c f) (hk : max c.1 1 = 1) : c.2.1 = mem f := by
  cases h with
  | arr h => rfl
  | wrd _ _ => exact absurd hk (by show ¬ max (2 : Int) 1 = 1; omega)
  | run _ _ _ => exact absurd hk (by show ¬ max (3 : Int) 1 = 1; omega)
theorem CAnd {c d : Cont} {f g : Int → Bool} {k : Nat} (hf : Sup f) (hg : Sup g) (hc : IsC c f) (hd : IsC d g) (hk : 300000 ≤ k) :
    ∃ e, container_Container_And k c d = some e ∧ IsC e (fun x => and (f x) (g x)) ∧ max e.1 1 = kF (nF fun x => and (f x) (g x)) (rF fun x => and (f x) (g x)) := by
  unfold container_Container_And
  simp only [Kind_eq, Option.bind_some]
  by_cases q : max c.1 1 = 1
  · obtain ⟨e, e1, e2⟩ := sift_Has hf hg hd hk
    exact ⟨e, by rw [decide_eq_true q, arr_of hc q, e1]; rfl, e2⟩
  · by_cases q2 : max d.1 1 = 1
    · obtain ⟨e, e1, e2, e3⟩ := sift_Has hg hf hc hk
      have : (fun x => g x && f x) = fun x => and (f x) (g x) := by funext x; cases f x <;> cases g x <;> rfl
      rw [this] at e2 e3
      exact ⟨e, by rw [decide_eq_false q, decide_eq_true q2, arr_of hd q2, e1]; rfl, e2, e3⟩
    · obtain ⟨e, e1, e2⟩ := Pair_And hf hg hc hd hk
      exact ⟨e, by rw [decide_eq_false q, decide_eq_false q2, e1]; rfl, e2⟩

theorem tk_Or1 (k : Nat) : arrays_Or_1 k true true = some (or true true) := rfl
theorem tk_Or2 (k : Nat) : arrays_Or_1 k true false = some (or true false) := rfl
theorem tk_Or3 (k : Nat) : arrays_Or_1 k false true = some (or false true) := rfl
theorem Merge_Or_l0 : ∀ (d k : Nat) (acc a b : List Int) (m : Int), a.length + b.length ≤ d → d + 1 ≤ k → acc.length + d ≤ 1000000 → ris m a → ris m b →
    ∃ r, arrays_merge_Or_1_l0 k acc a b = some (acc ++ r) ∧ ris m r ∧ ∀ x, x ∈ r ↔ or (decide (x ∈ a)) (decide (x ∈ b)) = true
  | d, 0, acc, a, b, m, hd, hk, _, _, _ => by omega
  | d, k + 1, acc, a, b, m, hd, hk, hn, ha, hb => by
    have put : ∀ (c : Bool) (z : Int) (a' b' : List Int), a'.length + b'.length + 1 ≤ d → m ≤ z → z < 65536 → ris (z + 1) a' → ris (z + 1) b' → (∀ x, x ≠ z → ((x ∈ a' ↔ x ∈ a) ∧ (x ∈ b' ↔ x ∈ b))) → c = or (decide (z ∈ a)) (decide (z ∈ b)) →
        ∃ r, (bif c then bif decide ((List.length acc + List.length [z]) * 2 ≤ 140737488355328) then bif decide (List.length acc + List.length [z] ≤ 140737488355328) then arrays_merge_Or_1_l0 k (acc ++ [z]) a' b' else none else none else arrays_merge_Or_1_l0 k acc a' b') = some (acc ++ r) ∧ ris m r ∧ ∀ x, x ∈ r ↔ or (decide (x ∈ a)) (decide (x ∈ b)) = true := by
      intro c z a' b' hd' hz1 hz2 ha' hb' hx hc
      have dx : ∀ x, x ≠ z → decide (x ∈ a') = decide (x ∈ a) := fun x q => by rw [Bool.eq_iff_iff, decide_eq_true_eq, decide_eq_true_eq]; exact (hx x q).1
      have dy : ∀ x, x ≠ z → decide (x ∈ b') = decide (x ∈ b) := fun x q => by rw [Bool.eq_iff_iff, decide_eq_true_eq, decide_eq_true_eq]; exact (hx x q).2
      have hz : ∀ r : List Int, ris (z + 1) r → ∀ x, x ∈ r → x ≠ z := fun r hr x hx he => by
        have := (ris_low hr hx).1
        omega
      cases hcc : c with
      | true =>
        obtain ⟨r, r1, r2, r3⟩ := Merge_Or_l0 (d - 1) k (acc ++ [z]) a' b' (z + 1) (by omega) (by omega) (by simp; omega) ha' hb'
        have g1 : decide ((List.length acc + List.length [z]) * 2 ≤ 140737488355328) = true := decide_eq_true (by simp only [List.length_cons, List.length_nil]; omega)
        have g2 : decide (List.length acc + List.length [z] ≤ 140737488355328) = true := decide_eq_true (by simp only [List.length_cons, List.length_nil]; omega)
        refine ⟨z :: r, by rw [g1, g2, cond_true, cond_true, cond_true, r1, List.append_assoc]; rfl, ⟨hz1, hz2, r2⟩, fun x => ?_⟩
        by_cases q : x = z
        · subst q
          rw [← hc, hcc]
          simp
        · rw [List.mem_cons, r3 x, dx x q, dy x q]
          simp [q]
      | false =>
        obtain ⟨r, r1, r2, r3⟩ := Merge_Or_l0 (d - 1) k acc a' b' (z + 1) (by omega) (by omega) (by omega) ha' hb'
        refine ⟨r, by rw [cond_false, r1], ris_mono r2 (by omega), fun x => ?_⟩
        by_cases q : x = z
        · subst q
          rw [← hc, hcc]
          exact ⟨fun h => absurd rfl (hz r r2 x h), fun h => absurd h (by decide)⟩
        · rw [r3 x, dx x q, dy x q]
    cases a with
    | nil =>
      cases b with
      | nil =>
        refine ⟨[], ?_, trivial, fun x => ?_⟩
        · rw [arrays_merge_Or_1_l0, List.append_nil]
          rfl
        · refine ⟨fun h => (nomatch h), fun h => absurd h ?_⟩
          rw [decide_eq_false (List.not_mem_nil)]
          decide
      | cons y t =>
        obtain ⟨b1, b2, b3⟩ := hb
        have h1 : ¬ ((0 : Int) < ((List.length ([] : List Int) : Nat) : Int)) := by simp
        have h2 : (((List.length ([] : List Int) : Nat) : Int) = 0) := rfl
        have h3 : ((0 : Int) < ((List.length (y :: t) : Nat) : Int)) := by simp only [List.length_cons]; omega
        have h4 : ¬ (((List.length (y :: t) : Nat) : Int) = 0) := by omega
        have h5 : ((1 : Int) ≤ ((List.length (y :: t) : Nat) : Int)) := by omega
        have g1 : (y :: t).getD (Int.toNat 0) (0 : Int) = y := rfl
        have g2 : (y :: t).drop (Int.toNat 1) = t := rfl
        obtain ⟨r, r1, r2, r3⟩ := put (or false true) y [] t (by simp only [List.length_cons, List.length_nil] at hd ⊢; omega) b1 b2 trivial b3 (fun x hx => ⟨Iff.rfl, by simp [hx]⟩) (by simp)
        refine ⟨r, ?_, r2, r3⟩
        rw [arrays_merge_Or_1_l0]
        simp only [h1, h2, h3, h4, h5, g1, g2, decide_true, decide_false, cond_true, cond_false, tk_Or1, tk_Or2, tk_Or3, Option.bind_some]
        exact r1
    | cons x s =>
      obtain ⟨a1, a2, a3⟩ := ha
      have h1 : ((0 : Int) < ((List.length (x :: s) : Nat) : Int)) := by simp only [List.length_cons]; omega
      have h2 : ¬ (((List.length (x :: s) : Nat) : Int) = 0) := by omega
      have h5 : ((1 : Int) ≤ ((List.length (x :: s) : Nat) : Int)) := by omega
      have g1 : (x :: s).getD (Int.toNat 0) (0 : Int) = x := rfl
      have g2 : (x :: s).drop (Int.toNat 1) = s := rfl
      cases b with
      | nil =>
        have h3 : ¬ ((0 : Int) < ((List.length ([] : List Int) : Nat) : Int)) := by simp
        have h4 : (((List.length ([] : List Int) : Nat) : Int) = 0) := rfl
        obtain ⟨r, r1, r2, r3⟩ := put (or true false) x s [] (by simp only [List.length_cons, List.length_nil] at hd ⊢; omega) a1 a2 a3 trivial (fun x hx => ⟨by simp [hx], Iff.rfl⟩) (by simp)
        refine ⟨r, ?_, r2, r3⟩
        rw [arrays_merge_Or_1_l0]
        simp only [h1, h2, h3, h4, h5, g1, g2, decide_true, decide_false, cond_true, cond_false, tk_Or1, tk_Or2, tk_Or3, Option.bind_some]
        exact r1
      | cons y t =>
        obtain ⟨b1, b2, b3⟩ := hb
        have h3 : ((0 : Int) < ((List.length (y :: t) : Nat) : Int)) := by simp only [List.length_cons]; omega
        have h4 : ¬ (((List.length (y :: t) : Nat) : Int) = 0) := by omega
        have h6 : ((1 : Int) ≤ ((List.length (y :: t) : Nat) : Int)) := by omega
        have g3 : (y :: t).getD (Int.toNat 0) (0 : Int) = y := rfl
        have g4 : (y :: t).drop (Int.toNat 1) = t := rfl
        have nx : ∀ z, z ∈ s → x < z := fun z hz => by have := (ris_low a3 hz).1; omega
        have ny : ∀ z, z ∈ t → y < z := fun z hz => by have := (ris_low b3 hz).1; omega
        have hd' : s.length + t.length + 2 ≤ d := by simp only [List.length_cons] at hd; omega
        by_cases q1 : x ≤ y
        · by_cases q2 : y ≤ x
          · have : y = x := by omega
            subst this
            obtain ⟨r, r1, r2, r3⟩ := put (or true true) y s t (by omega) a1 a2 a3 b3 (fun x hx => ⟨by simp [hx], by simp [hx]⟩) (by simp)
            refine ⟨r, ?_, r2, r3⟩
            rw [arrays_merge_Or_1_l0]
            simp only [h1, h2, h3, h4, h5, h6, g1, g2, g3, g4, q1, decide_true, decide_false, cond_true, cond_false, tk_Or1, tk_Or2, tk_Or3, Option.bind_some]
            exact r1
          · have hn : ¬ x ∈ y :: t := fun h => by
              rcases List.mem_cons.1 h with h | h
              · omega
              · have := ny x h; omega
            obtain ⟨r, r1, r2, r3⟩ := put (or true false) x s (y :: t) (by simp only [List.length_cons]; omega) a1 a2 a3 ⟨by omega, b2, b3⟩ (fun x hx => ⟨by simp [hx], Iff.rfl⟩) (by rw [decide_eq_false hn]; simp)
            refine ⟨r, ?_, r2, r3⟩
            rw [arrays_merge_Or_1_l0]
            simp only [h1, h2, h3, h4, h5, h6, g1, g2, g3, g4, q1, q2, decide_true, decide_false, cond_true, cond_false, tk_Or1, tk_Or2, tk_Or3, Option.bind_some]
            exact r1
        · have q2 : y ≤ x := by omega
          have hn : ¬ y ∈ x :: s := fun h => by
            rcases List.mem_cons.1 h with h | h
            · omega
            · have := nx y h; omega
          obtain ⟨r, r1, r2, r3⟩ := put (or false true) y (x :: s) t (by simp only [List.length_cons]; omega) b1 b2 ⟨by omega, a2, a3⟩ b3 (fun x hx => ⟨Iff.rfl, by simp [hx]⟩) (by rw [decide_eq_false hn]; simp)
          refine ⟨r, ?_, r2, r3⟩
          rw [arrays_merge_Or_1_l0]
          simp only [h1, h2, h3, h4, h5, h6, g1, g2, g3, g4, q1, q2, decide_true, decide_false, cond_true, cond_false, tk_Or1, tk_Or2, tk_Or3, Option.bind_some]
          exact r1
theorem AOr_eq (f g : Int → Bool) {k : Nat} (hk : 140000 ≤ k) : arrays_Or k (mem f) (mem g) = some (mem fun x => or (f x) (g x)) := by
  have h1 := mem_le f
  have h2 := mem_le g
  obtain ⟨r, r1, r2, r3⟩ := Merge_Or_l0 ((mem f).length + (mem g).length) k [] (mem f) (mem g) 0 (Nat.le_refl _) (by omega) (by simp; omega) (mem_ris f) (mem_ris g)
  have : r = mem fun x => or (f x) (g x) := ris_ext r2 fun x a b => by
    have e1 : decide (x ∈ mem f) = f x := by
      rw [Bool.eq_iff_iff, decide_eq_true_eq, mem_iff]
      exact ⟨fun h => h.2, fun h => ⟨⟨a, b⟩, h⟩⟩
    have e2 : decide (x ∈ mem g) = g x := by
      rw [Bool.eq_iff_iff, decide_eq_true_eq, mem_iff]
      exact ⟨fun h => h.2, fun h => ⟨⟨a, b⟩, h⟩⟩
    rw [r3, e1, e2]
  unfold arrays_Or arrays_merge_Or_1
  rw [r1, this]
  rfl

theorem sup_Or {f g : Int → Bool} (hf : Sup f) (hg : Sup g) : Sup fun x => or (f x) (g x) := fun x hx => by show or (f x) (g x) = false; rw [hf x hx, hg x hx]; rfl
/-- The containers of two sets, of whatever kinds. -/
theorem Pair_Or {c d : Cont} {f g : Int → Bool} {k : Nat} (hf : Sup f) (hg : Sup g) (hc : IsC c f) (hd : IsC d g) (hk : 300000 ≤ k) :
    ∃ e, container_pair_do_o k c d = some e ∧ IsC e (fun x => or (f x) (g x)) ∧ max e.1 1 = kF (nF fun x => or (f x) (g x)) (rF fun x => or (f x) (g x)) := by
  have hs := sup_Or hf hg
  have wds : ∃ e, ((container_Container_Words k c).bind fun y => (container_Container_Words k d).bind fun z => (words_Or k y z).bind fun w => (container_Container_Canonical k (2, (([] : (List Int)), (w, ([] : (List (Int × Int))))))).bind fun v => some v) = some e ∧ IsC e (fun x => or (f x) (g x)) ∧ max e.1 1 = kF (nF fun x => or (f x) (g x)) (rF fun x => or (f x) (g x)) := by
    obtain ⟨W, w1, w2, w3⟩ := CWords (k := k) hf hc (by omega)
    obtain ⟨V, v1, v2, v3⟩ := CWords (k := k) hg hd (by omega)
    obtain ⟨U, u1, u2, u3⟩ := WOr_eq (k := k) w2 v2 (by omega)
    obtain ⟨e, e1, e2, e3⟩ := CCanon (c := ((2 : Int), (([] : List Int), (up U, ([] : List (Int × Int)))))) (k := k) hs (.wrd u2 fun x hx => by rw [u3 x hx, w3 x hx, v3 x hx]) (by omega)
    exact ⟨e, by rw [w1]; simp only [Option.bind_some, v1, u1, e1], e2, e3⟩
  unfold container_pair_do_o
  simp only [Kind_eq, Option.bind_some]
  cases hc with
  | arr h =>
    have k1 : ∀ n : Int, n = 0 ∨ n = 1 → max n 1 = 1 := fun n h => by rcases h with h | h <;> subst h <;> rfl
    have n3 : ∀ n : Int, n = 0 ∨ n = 1 → ¬ n = 3 := fun n h => by rcases h with h | h <;> subst h <;> omega
    cases hd with
    | arr h' =>
      obtain ⟨e, e1, e2, e3⟩ := CCanon (c := ((1 : Int), ((mem fun x => or (f x) (g x)), (([] : List Int), ([] : List (Int × Int)))))) (k := k) hs (.arr (.inr rfl)) (by omega)
      exact ⟨e, by simp only [k1 _ h, k1 _ h', decide_true, cond_true, AOr_eq f g (k := k) (by omega), Option.bind_some, e1], e2, e3⟩
    | wrd _ _ => simp only [k1 _ h, n3 _ h, show max (2 : Int) 1 = 2 from rfl, show ¬ (2 : Int) = 1 by omega, decide_true, decide_false, cond_true, cond_false]; exact wds
    | run _ _ _ => simp only [k1 _ h, n3 _ h, show max (3 : Int) 1 = 3 from rfl, show ¬ (3 : Int) = 1 by omega, decide_true, decide_false, cond_true, cond_false]; exact wds
  | wrd hW h =>
    simp only [show max (2 : Int) 1 = 2 from rfl, show ¬ (2 : Int) = 1 by omega, show ¬ (2 : Int) = 3 by omega, decide_false, cond_false]
    exact wds
  | run hm hw h =>
    cases hd with
    | arr h' =>
      have n3 : ∀ n : Int, n = 0 ∨ n = 1 → ¬ n = 3 := fun n h => by rcases h with h | h <;> subst h <;> omega
      simp only [show max (3 : Int) 1 = 3 from rfl, show ¬ (3 : Int) = 1 by omega, n3 _ h', decide_true, decide_false, cond_true, cond_false]
      exact wds
    | wrd _ _ =>
      simp only [show max (3 : Int) 1 = 3 from rfl, show ¬ (3 : Int) = 1 by omega, show ¬ (2 : Int) = 3 by omega, decide_true, decide_false, cond_true, cond_false]
      exact wds
    | run hm' hw' h' =>
      have l1 := runs_len_le hm hw h
      have l2 := runs_len_le hm' hw' h'
      obtain ⟨r2, e2, q⟩ := Or_ans (k := k) hm hm' hw hw' (by omega) (by omega) (by omega)
      obtain ⟨e, e3, i3, k3⟩ := CCanon (c := ((3 : Int), (([] : List Int), (([] : List Int), r2)))) (k := k) hs (.run q.may q.wf (fun x => by rw [q.has, h, h'])) (by omega)
      exact ⟨e, by simp only [show max (3 : Int) 1 = 3 from rfl, show ¬ (3 : Int) = 1 by omega, decide_true, decide_false, cond_true, cond_false, e2, e3, Option.bind_some], i3, k3⟩

theorem COr {c d : Cont} {f g : Int → Bool} {k : Nat} (hf : Sup f) (hg : Sup g) (hc : IsC c f) (hd : IsC d g) (hk : 300000 ≤ k) :
    ∃ e, container_Container_Or k c d = some e ∧ IsC e (fun x => or (f x) (g x)) ∧ max e.1 1 = kF (nF fun x => or (f x) (g x)) (rF fun x => or (f x) (g x)) := by
  obtain ⟨e, e1, e2⟩ := Pair_Or hf hg hc hd hk
  exact ⟨e, by unfold container_Container_Or; rw [e1]; rfl, e2⟩

theorem tk_AndNot1 (k : Nat) : arrays_AndNot_1 k true true = some (ann true true) := rfl
theorem tk_AndNot2 (k : Nat) : arrays_AndNot_1 k true false = some (ann true false) := rfl
theorem tk_AndNot3 (k : Nat) : arrays_AndNot_1 k false true = some (ann false true) := rfl
theorem Merge_AndNot_l0 : ∀ (d k : Nat) (acc a b : List Int) (m : Int), a.length + b.length ≤ d → d + 1 ≤ k → acc.length + d ≤ 1000000 → ris m a → ris m b →
    ∃ r, arrays_merge_AndNot_1_l0 k acc a b = some (acc ++ r) ∧ ris m r ∧ ∀ x, x ∈ r ↔ ann (decide (x ∈ a)) (decide (x ∈ b)) = true
  | d, 0, acc, a, b, m, hd, hk, _, _, _ => by omega
  | d, k + 1, acc, a, b, m, hd, hk, hn, ha, hb => by
    have put : ∀ (c : Bool) (z : Int) (a' b' : List Int), a'.length + b'.length + 1 ≤ d → m ≤ z → z < 65536 → ris (z + 1) a' → ris (z + 1) b' → (∀ x, x ≠ z → ((x ∈ a' ↔ x ∈ a) ∧ (x ∈ b' ↔ x ∈ b))) → c = ann (decide (z ∈ a)) (decide (z ∈ b)) →
        ∃ r, (bif c then bif decide ((List.length acc + List.length [z]) * 2 ≤ 140737488355328) then bif decide (List.length acc + List.length [z] ≤ 140737488355328) then arrays_merge_AndNot_1_l0 k (acc ++ [z]) a' b' else none else none else arrays_merge_AndNot_1_l0 k acc a' b') = some (acc ++ r) ∧ ris m r ∧ ∀ x, x ∈ r ↔ ann (decide (x ∈ a)) (decide (x ∈ b)) = true := by
      intro c z a' b' hd' hz1 hz2 ha' hb' hx hc
      have dx : ∀ x, x ≠ z → decide (x ∈ a') = decide (x ∈ a) := fun x q => by rw [Bool.eq_iff_iff, decide_eq_true_eq, decide_eq_true_eq]; exact (hx x q).1
      have dy : ∀ x, x ≠ z → decide (x ∈ b') = decide (x ∈ b) := fun x q => by rw [Bool.eq_iff_iff, decide_eq_true_eq, decide_eq_true_eq]; exact (hx x q).2
      have hz : ∀ r : List Int, ris (z + 1) r → ∀ x, x ∈ r → x ≠ z := fun r hr x hx he => by
        have := (ris_low hr hx).1
        omega
      cases hcc : c with
      | true =>
        obtain ⟨r, r1, r2, r3⟩ := Merge_AndNot_l0 (d - 1) k (acc ++ [z]) a' b' (z + 1) (by omega) (by omega) (by simp; omega) ha' hb'
        have g1 : decide ((List.length acc + List.length [z]) * 2 ≤ 140737488355328) = true := decide_eq_true (by simp only [List.length_cons, List.length_nil]; omega)
        have g2 : decide (List.length acc + List.length [z] ≤ 140737488355328) = true := decide_eq_true (by simp only [List.length_cons, List.length_nil]; omega)
        refine ⟨z :: r, by rw [g1, g2, cond_true, cond_true, cond_true, r1, List.append_assoc]; rfl, ⟨hz1, hz2, r2⟩, fun x => ?_⟩
        by_cases q : x = z
        · subst q
          rw [← hc, hcc]
          simp
        · rw [List.mem_cons, r3 x, dx x q, dy x q]
          simp [q]
      | false =>
        obtain ⟨r, r1, r2, r3⟩ := Merge_AndNot_l0 (d - 1) k acc a' b' (z + 1) (by omega) (by omega) (by omega) ha' hb'
        refine ⟨r, by rw [cond_false, r1], ris_mono r2 (by omega), fun x => ?_⟩
        by_cases q : x = z
        · subst q
          rw [← hc, hcc]
          exact ⟨fun h => absurd rfl (hz r r2 x h), fun h => absurd h (by decide)⟩
        · rw [r3 x, dx x q, dy x q]
    cases a with
    | nil =>
      cases b with
      | nil =>
        refine ⟨[], ?_, trivial, fun x => ?_⟩
        · rw [arrays_merge_AndNot_1_l0, List.append_nil]
          rfl
        · refine ⟨fun h => (nomatch h), fun h => absurd h ?_⟩
          rw [decide_eq_false (List.not_mem_nil)]
          decide
      | cons y t =>
        obtain ⟨b1, b2, b3⟩ := hb
        have h1 : ¬ ((0 : Int) < ((List.length ([] : List Int) : Nat) : Int)) := by simp
        have h2 : (((List.length ([] : List Int) : Nat) : Int) = 0) := rfl
        have h3 : ((0 : Int) < ((List.length (y :: t) : Nat) : Int)) := by simp only [List.length_cons]; omega
        have h4 : ¬ (((List.length (y :: t) : Nat) : Int) = 0) := by omega
        have h5 : ((1 : Int) ≤ ((List.length (y :: t) : Nat) : Int)) := by omega
        have g1 : (y :: t).getD (Int.toNat 0) (0 : Int) = y := rfl
        have g2 : (y :: t).drop (Int.toNat 1) = t := rfl
        obtain ⟨r, r1, r2, r3⟩ := put (ann false true) y [] t (by simp only [List.length_cons, List.length_nil] at hd ⊢; omega) b1 b2 trivial b3 (fun x hx => ⟨Iff.rfl, by simp [hx]⟩) (by simp)
        refine ⟨r, ?_, r2, r3⟩
        rw [arrays_merge_AndNot_1_l0]
        simp only [h1, h2, h3, h4, h5, g1, g2, decide_true, decide_false, cond_true, cond_false, tk_AndNot1, tk_AndNot2, tk_AndNot3, Option.bind_some]
        exact r1
    | cons x s =>
      obtain ⟨a1, a2, a3⟩ := ha
      have h1 : ((0 : Int) < ((List.length (x :: s) : Nat) : Int)) := by simp only [List.length_cons]; omega
      have h2 : ¬ (((List.length (x :: s) : Nat) : Int) = 0) := by omega
      have h5 : ((1 : Int) ≤ ((List.length (x :: s) : Nat) : Int)) := by omega
      have g1 : (x :: s).getD (Int.toNat 0) (0 : Int) = x := rfl
      have g2 : (x :: s).drop (Int.toNat 1) = s := rfl
      cases b with
      | nil =>
        have h3 : ¬ ((0 : Int) < ((List.length ([] : List Int) : Nat) : Int)) := by simp
        have h4 : (((List.length ([] : List Int) : Nat) : Int) = 0) := rfl
        obtain ⟨r, r1, r2, r3⟩ := put (ann true false) x s [] (by simp only [List.length_cons, List.length_nil] at hd ⊢; omega) a1 a2 a3 trivial (fun x hx => ⟨by simp [hx], Iff.rfl⟩) (by simp)
        refine ⟨r, ?_, r2, r3⟩
        rw [arrays_merge_AndNot_1_l0]
        simp only [h1, h2, h3, h4, h5, g1, g2, decide_true, decide_false, cond_true, cond_false, tk_AndNot1, tk_AndNot2, tk_AndNot3, Option.bind_some]
        exact r1
      | cons y t =>
        obtain ⟨b1, b2, b3⟩ := hb
        have h3 : ((0 : Int) < ((List.length (y :: t) : Nat) : Int)) := by simp only [List.length_cons]; omega
        have h4 : ¬ (((List.length (y :: t) : Nat) : Int) = 0) := by omega
        have h6 : ((1 : Int) ≤ ((List.length (y :: t) : Nat) : Int)) := by omega
        have g3 : (y :: t).getD (Int.toNat 0) (0 : Int) = y := rfl
        have g4 : (y :: t).drop (Int.toNat 1) = t := rfl
        have nx : ∀ z, z ∈ s → x < z := fun z hz => by have := (ris_low a3 hz).1; omega
        have ny : ∀ z, z ∈ t → y < z := fun z hz => by have := (ris_low b3 hz).1; omega
        have hd' : s.length + t.length + 2 ≤ d := by simp only [List.length_cons] at hd; omega
        by_cases q1 : x ≤ y
        · by_cases q2 : y ≤ x
          · have : y = x := by omega
            subst this
            obtain ⟨r, r1, r2, r3⟩ := put (ann true true) y s t (by omega) a1 a2 a3 b3 (fun x hx => ⟨by simp [hx], by simp [hx]⟩) (by simp)
            refine ⟨r, ?_, r2, r3⟩
            rw [arrays_merge_AndNot_1_l0]
            simp only [h1, h2, h3, h4, h5, h6, g1, g2, g3, g4, q1, decide_true, decide_false, cond_true, cond_false, tk_AndNot1, tk_AndNot2, tk_AndNot3, Option.bind_some]
            exact r1
          · have hn : ¬ x ∈ y :: t := fun h => by
              rcases List.mem_cons.1 h with h | h
              · omega
              · have := ny x h; omega
            obtain ⟨r, r1, r2, r3⟩ := put (ann true false) x s (y :: t) (by simp only [List.length_cons]; omega) a1 a2 a3 ⟨by omega, b2, b3⟩ (fun x hx => ⟨by simp [hx], Iff.rfl⟩) (by rw [decide_eq_false hn]; simp)
            refine ⟨r, ?_, r2, r3⟩
            rw [arrays_merge_AndNot_1_l0]
            simp only [h1, h2, h3, h4, h5, h6, g1, g2, g3, g4, q1, q2, decide_true, decide_false, cond_true, cond_false, tk_AndNot1, tk_AndNot2, tk_AndNot3, Option.bind_some]
            exact r1
        · have q2 : y ≤ x := by omega
          have hn : ¬ y ∈ x :: s := fun h => by
            rcases List.mem_cons.1 h with h | h
            · omega
            · have := nx y h; omega
          obtain ⟨r, r1, r2, r3⟩ := put (ann false true) y (x :: s) t (by simp only [List.length_cons]; omega) b1 b2 ⟨by omega, a2, a3⟩ b3 (fun x hx => ⟨Iff.rfl, by simp [hx]⟩) (by rw [decide_eq_false hn]; simp)
          refine ⟨r, ?_, r2, r3⟩
          rw [arrays_merge_AndNot_1_l0]
          simp only [h1, h2, h3, h4, h5, h6, g1, g2, g3, g4, q1, q2, decide_true, decide_false, cond_true, cond_false, tk_AndNot1, tk_AndNot2, tk_AndNot3, Option.bind_some]
          exact r1
theorem AAndNot_eq (f g : Int → Bool) {k : Nat} (hk : 140000 ≤ k) : arrays_AndNot k (mem f) (mem g) = some (mem fun x => ann (f x) (g x)) := by
  have h1 := mem_le f
  have h2 := mem_le g
  obtain ⟨r, r1, r2, r3⟩ := Merge_AndNot_l0 ((mem f).length + (mem g).length) k [] (mem f) (mem g) 0 (Nat.le_refl _) (by omega) (by simp; omega) (mem_ris f) (mem_ris g)
  have : r = mem fun x => ann (f x) (g x) := ris_ext r2 fun x a b => by
    have e1 : decide (x ∈ mem f) = f x := by
      rw [Bool.eq_iff_iff, decide_eq_true_eq, mem_iff]
      exact ⟨fun h => h.2, fun h => ⟨⟨a, b⟩, h⟩⟩
    have e2 : decide (x ∈ mem g) = g x := by
      rw [Bool.eq_iff_iff, decide_eq_true_eq, mem_iff]
      exact ⟨fun h => h.2, fun h => ⟨⟨a, b⟩, h⟩⟩
    rw [r3, e1, e2]
  unfold arrays_AndNot arrays_merge_AndNot_1
  rw [r1, this]
  rfl

theorem sup_AndNot {f g : Int → Bool} (hf : Sup f) (hg : Sup g) : Sup fun x => ann (f x) (g x) := fun x hx => by show ann (f x) (g x) = false; rw [hf x hx, hg x hx]; rfl
/-- The containers of two sets, of whatever kinds. -/
theorem Pair_AndNot {c d : Cont} {f g : Int → Bool} {k : Nat} (hf : Sup f) (hg : Sup g) (hc : IsC c f) (hd : IsC d g) (hk : 300000 ≤ k) :
    ∃ e, container_pair_do_o_o k c d = some e ∧ IsC e (fun x => ann (f x) (g x)) ∧ max e.1 1 = kF (nF fun x => ann (f x) (g x)) (rF fun x => ann (f x) (g x)) := by
  have hs := sup_AndNot hf hg
  have wds : ∃ e, ((container_Container_Words k c).bind fun y => (container_Container_Words k d).bind fun z => (words_AndNot k y z).bind fun w => (container_Container_Canonical k (2, (([] : (List Int)), (w, ([] : (List (Int × Int))))))).bind fun v => some v) = some e ∧ IsC e (fun x => ann (f x) (g x)) ∧ max e.1 1 = kF (nF fun x => ann (f x) (g x)) (rF fun x => ann (f x) (g x)) := by
    obtain ⟨W, w1, w2, w3⟩ := CWords (k := k) hf hc (by omega)
    obtain ⟨V, v1, v2, v3⟩ := CWords (k := k) hg hd (by omega)
    obtain ⟨U, u1, u2, u3⟩ := WAndNot_eq (k := k) w2 v2 (by omega)
    obtain ⟨e, e1, e2, e3⟩ := CCanon (c := ((2 : Int), (([] : List Int), (up U, ([] : List (Int × Int)))))) (k := k) hs (.wrd u2 fun x hx => by rw [u3 x hx, w3 x hx, v3 x hx]) (by omega)
    exact ⟨e, by rw [w1]; simp only [Option.bind_some, v1, u1, e1], e2, e3⟩
  unfold container_pair_do_o_o
  simp only [Kind_eq, Option.bind_some]
  cases hc with
  | arr h =>
    have k1 : ∀ n : Int, n = 0 ∨ n = 1 → max n 1 = 1 := fun n h => by rcases h with h | h <;> subst h <;> rfl
    have n3 : ∀ n : Int, n = 0 ∨ n = 1 → ¬ n = 3 := fun n h => by rcases h with h | h <;> subst h <;> omega
    cases hd with
    | arr h' =>
      obtain ⟨e, e1, e2, e3⟩ := CCanon (c := ((1 : Int), ((mem fun x => ann (f x) (g x)), (([] : List Int), ([] : List (Int × Int)))))) (k := k) hs (.arr (.inr rfl)) (by omega)
      exact ⟨e, by simp only [k1 _ h, k1 _ h', decide_true, cond_true, AAndNot_eq f g (k := k) (by omega), Option.bind_some, e1], e2, e3⟩
    | wrd _ _ => simp only [k1 _ h, n3 _ h, show max (2 : Int) 1 = 2 from rfl, show ¬ (2 : Int) = 1 by omega, decide_true, decide_false, cond_true, cond_false]; exact wds
    | run _ _ _ => simp only [k1 _ h, n3 _ h, show max (3 : Int) 1 = 3 from rfl, show ¬ (3 : Int) = 1 by omega, decide_true, decide_false, cond_true, cond_false]; exact wds
  | wrd hW h =>
    simp only [show max (2 : Int) 1 = 2 from rfl, show ¬ (2 : Int) = 1 by omega, show ¬ (2 : Int) = 3 by omega, decide_false, cond_false]
    exact wds
  | run hm hw h =>
    cases hd with
    | arr h' =>
      have n3 : ∀ n : Int, n = 0 ∨ n = 1 → ¬ n = 3 := fun n h => by rcases h with h | h <;> subst h <;> omega
      simp only [show max (3 : Int) 1 = 3 from rfl, show ¬ (3 : Int) = 1 by omega, n3 _ h', decide_true, decide_false, cond_true, cond_false]
      exact wds
    | wrd _ _ =>
      simp only [show max (3 : Int) 1 = 3 from rfl, show ¬ (3 : Int) = 1 by omega, show ¬ (2 : Int) = 3 by omega, decide_true, decide_false, cond_true, cond_false]
      exact wds
    | run hm' hw' h' =>
      have l1 := runs_len_le hm hw h
      have l2 := runs_len_le hm' hw' h'
      obtain ⟨r2, e2, q⟩ := AndNot_ans (k := k) hm hm' hw hw' (by omega) (by omega) (by omega)
      obtain ⟨e, e3, i3, k3⟩ := CCanon (c := ((3 : Int), (([] : List Int), (([] : List Int), r2)))) (k := k) hs (.run q.may q.wf (fun x => by rw [q.has, h, h'])) (by omega)
      exact ⟨e, by simp only [show max (3 : Int) 1 = 3 from rfl, show ¬ (3 : Int) = 1 by omega, decide_true, decide_false, cond_true, cond_false, e2, e3, Option.bind_some], i3, k3⟩

theorem CAndNot {c d : Cont} {f g : Int → Bool} {k : Nat} (hf : Sup f) (hg : Sup g) (hc : IsC c f) (hd : IsC d g) (hk : 300000 ≤ k) :
    ∃ e, container_Container_AndNot k c d = some e ∧ IsC e (fun x => ann (f x) (g x)) ∧ max e.1 1 = kF (nF fun x => ann (f x) (g x)) (rF fun x => ann (f x) (g x)) := by
  unfold container_Container_AndNot
  simp only [Kind_eq, Option.bind_some]
  by_cases q : max c.1 1 = 1
  · obtain ⟨e, e1, e2⟩ := sift_AndNot hf hg hd hk
    exact ⟨e, by rw [decide_eq_true q, arr_of hc q, e1]; rfl, e2⟩
  · obtain ⟨e, e1, e2⟩ := Pair_AndNot hf hg hc hd hk
    exact ⟨e, by rw [decide_eq_false q, e1]; rfl, e2⟩

theorem tk_Xor1 (k : Nat) : arrays_Xor_1 k true true = some (bne true true) := rfl
theorem tk_Xor2 (k : Nat) : arrays_Xor_1 k true false = some (bne true false) := rfl
theorem tk_Xor3 (k : Nat) : arrays_Xor_1 k false true = some (bne false true) := rfl
theorem Merge_Xor_l0 : ∀ (d k : Nat) (acc a b : List Int) (m : Int), a.length + b.length ≤ d → d + 1 ≤ k → acc.length + d ≤ 1000000 → ris m a → ris m b →
    ∃ r, arrays_merge_Xor_1_l0 k acc a b = some (acc ++ r) ∧ ris m r ∧ ∀ x, x ∈ r ↔ bne (decide (x ∈ a)) (decide (x ∈ b)) = true
  | d, 0, acc, a, b, m, hd, hk, _, _, _ => by omega
  | d, k + 1, acc, a, b, m, hd, hk, hn, ha, hb => by
    have put : ∀ (c : Bool) (z : Int) (a' b' : List Int), a'.length + b'.length + 1 ≤ d → m ≤ z → z < 65536 → ris (z + 1) a' → ris (z + 1) b' → (∀ x, x ≠ z → ((x ∈ a' ↔ x ∈ a) ∧ (x ∈ b' ↔ x ∈ b))) → c = bne (decide (z ∈ a)) (decide (z ∈ b)) →
        ∃ r, (bif c then bif decide ((List.length acc + List.length [z]) * 2 ≤ 140737488355328) then bif decide (List.length acc + List.length [z] ≤ 140737488355328) then arrays_merge_Xor_1_l0 k (acc ++ [z]) a' b' else none else none else arrays_merge_Xor_1_l0 k acc a' b') = some (acc ++ r) ∧ ris m r ∧ ∀ x, x ∈ r ↔ bne (decide (x ∈ a)) (decide (x ∈ b)) = true := by
      intro c z a' b' hd' hz1 hz2 ha' hb' hx hc
      have dx : ∀ x, x ≠ z → decide (x ∈ a') = decide (x ∈ a) := fun x q => by rw [Bool.eq_iff_iff, decide_eq_true_eq, decide_eq_true_eq]; exact (hx x q).1
      have dy : ∀ x, x ≠ z → decide (x ∈ b') = decide (x ∈ b) := fun x q => by rw [Bool.eq_iff_iff, decide_eq_true_eq, decide_eq_true_eq]; exact (hx x q).2
      have hz : ∀ r : List Int, ris (z + 1) r → ∀ x, x ∈ r → x ≠ z := fun r hr x hx he => by
        have := (ris_low hr hx).1
        omega
      cases hcc : c with
      | true =>
        obtain ⟨r, r1, r2, r3⟩ := Merge_Xor_l0 (d - 1) k (acc ++ [z]) a' b' (z + 1) (by omega) (by omega) (by simp; omega) ha' hb'
        have g1 : decide ((List.length acc + List.length [z]) * 2 ≤ 140737488355328) = true := decide_eq_true (by simp only [List.length_cons, List.length_nil]; omega)
        have g2 : decide (List.length acc + List.length [z] ≤ 140737488355328) = true := decide_eq_true (by simp only [List.length_cons, List.length_nil]; omega)
        refine ⟨z :: r, by rw [g1, g2, cond_true, cond_true, cond_true, r1, List.append_assoc]; rfl, ⟨hz1, hz2, r2⟩, fun x => ?_⟩
        by_cases q : x = z
        · subst q
          rw [← hc, hcc]
          simp
        · rw [List.mem_cons, r3 x, dx x q, dy x q]
          simp [q]
      | false =>
        obtain ⟨r, r1, r2, r3⟩ := Merge_Xor_l0 (d - 1) k acc a' b' (z + 1) (by omega) (by omega) (by omega) ha' hb'
        refine ⟨r, by rw [cond_false, r1], ris_mono r2 (by omega), fun x => ?_⟩
        by_cases q : x = z
        · subst q
          rw [← hc, hcc]
          exact ⟨fun h => absurd rfl (hz r r2 x h), fun h => absurd h (by decide)⟩
        · rw [r3 x, dx x q, dy x q]
    cases a with
    | nil =>
      cases b with
      | nil =>
        refine ⟨[], ?_, trivial, fun x => ?_⟩
        · rw [arrays_merge_Xor_1_l0, List.append_nil]
          rfl
        · refine ⟨fun h => (nomatch h), fun h => absurd h ?_⟩
          rw [decide_eq_false (List.not_mem_nil)]
          decide
      | cons y t =>
        obtain ⟨b1, b2, b3⟩ := hb
        have h1 : ¬ ((0 : Int) < ((List.length ([] : List Int) : Nat) : Int)) := by simp
        have h2 : (((List.length ([] : List Int) : Nat) : Int) = 0) := rfl
        have h3 : ((0 : Int) < ((List.length (y :: t) : Nat) : Int)) := by simp only [List.length_cons]; omega
        have h4 : ¬ (((List.length (y :: t) : Nat) : Int) = 0) := by omega
        have h5 : ((1 : Int) ≤ ((List.length (y :: t) : Nat) : Int)) := by omega
        have g1 : (y :: t).getD (Int.toNat 0) (0 : Int) = y := rfl
        have g2 : (y :: t).drop (Int.toNat 1) = t := rfl
        obtain ⟨r, r1, r2, r3⟩ := put (bne false true) y [] t (by simp only [List.length_cons, List.length_nil] at hd ⊢; omega) b1 b2 trivial b3 (fun x hx => ⟨Iff.rfl, by simp [hx]⟩) (by simp)
        refine ⟨r, ?_, r2, r3⟩
        rw [arrays_merge_Xor_1_l0]
        simp only [h1, h2, h3, h4, h5, g1, g2, decide_true, decide_false, cond_true, cond_false, tk_Xor1, tk_Xor2, tk_Xor3, Option.bind_some]
        exact r1
    | cons x s =>
      obtain ⟨a1, a2, a3⟩ := ha
      have h1 : ((0 : Int) < ((List.length (x :: s) : Nat) : Int)) := by simp only [List.length_cons]; omega
      have h2 : ¬ (((List.length (x :: s) : Nat) : Int) = 0) := by omega
      have h5 : ((1 : Int) ≤ ((List.length (x :: s) : Nat) : Int)) := by omega
      have g1 : (x :: s).getD (Int.toNat 0) (0 : Int) = x := rfl
      have g2 : (x :: s).drop (Int.toNat 1) = s := rfl
      cases b with
      | nil =>
        have h3 : ¬ ((0 : Int) < ((List.length ([] : List Int) : Nat) : Int)) := by simp
        have h4 : (((List.length ([] : List Int) : Nat) : Int) = 0) := rfl
        obtain ⟨r, r1, r2, r3⟩ := put (bne true false) x s [] (by simp only [List.length_cons, List.length_nil] at hd ⊢; omega) a1 a2 a3 trivial (fun x hx => ⟨by simp [hx], Iff.rfl⟩) (by simp)
        refine ⟨r, ?_, r2, r3⟩
        rw [arrays_merge_Xor_1_l0]
        simp only [h1, h2, h3, h4, h5, g1, g2, decide_true, decide_false, cond_true, cond_false, tk_Xor1, tk_Xor2, tk_Xor3, Option.bind_some]
        exact r1
      | cons y t =>
        obtain ⟨b1, b2, b3⟩ := hb
        have h3 : ((0 : Int) < ((List.length (y :: t) : Nat) : Int)) := by simp only [List.length_cons]; omega
        have h4 : ¬ (((List.length (y :: t) : Nat) : Int) = 0) := by omega
        have h6 : ((1 : Int) ≤ ((List.length (y :: t) : Nat) : Int)) := by omega
        have g3 : (y :: t).getD (Int.toNat 0) (0 : Int) = y := rfl
        have g4 : (y :: t).drop (Int.toNat 1) = t := rfl
        have nx : ∀ z, z ∈ s → x < z := fun z hz => by have := (ris_low a3 hz).1; omega
        have ny : ∀ z, z ∈ t → y < z := fun z hz => by have := (ris_low b3 hz).1; omega
        have hd' : s.length + t.length + 2 ≤ d := by simp only [List.length_cons] at hd; omega
        by_cases q1 : x ≤ y
        · by_cases q2 : y ≤ x
          · have : y = x := by omega
            subst this
            obtain ⟨r, r1, r2, r3⟩ := put (bne true true) y s t (by omega) a1 a2 a3 b3 (fun x hx => ⟨by simp [hx], by simp [hx]⟩) (by simp)
            refine ⟨r, ?_, r2, r3⟩
            rw [arrays_merge_Xor_1_l0]
            simp only [h1, h2, h3, h4, h5, h6, g1, g2, g3, g4, q1, decide_true, decide_false, cond_true, cond_false, tk_Xor1, tk_Xor2, tk_Xor3, Option.bind_some]
            exact r1
          · have hn : ¬ x ∈ y :: t := fun h => by
              rcases List.mem_cons.1 h with h | h
              · omega
              · have := ny x h; omega
            obtain ⟨r, r1, r2, r3⟩ := put (bne true false) x s (y :: t) (by simp only [List.length_cons]; omega) a1 a2 a3 ⟨by omega, b2, b3⟩ (fun x hx => ⟨by simp [hx], Iff.rfl⟩) (by rw [decide_eq_false hn]; simp)
            refine ⟨r, ?_, r2, r3⟩
            rw [arrays_merge_Xor_1_l0]
            simp only [h1, h2, h3, h4, h5, h6, g1, g2, g3, g4, q1, q2, decide_true, decide_false, cond_true, cond_false, tk_Xor1, tk_Xor2, tk_Xor3, Option.bind_some]
            exact r1
        · have q2 : y ≤ x := by omega
          have hn : ¬ y ∈ x :: s := fun h => by
            rcases List.mem_cons.1 h with h | h
            · omega
            · have := nx y h; omega
          obtain ⟨r, r1, r2, r3⟩ := put (bne false true) y (x :: s) t (by simp only [List.length_cons]; omega) b1 b2 ⟨by omega, a2, a3⟩ b3 (fun x hx => ⟨Iff.rfl, by simp [hx]⟩) (by rw [decide_eq_false hn]; simp)
          refine ⟨r, ?_, r2, r3⟩
          rw [arrays_merge_Xor_1_l0]
          simp only [h1, h2, h3, h4, h5, h6, g1, g2, g3, g4, q1, q2, decide_true, decide_false, cond_true, cond_false, tk_Xor1, tk_Xor2, tk_Xor3, Option.bind_some]
          exact r1
theorem AXor_eq (f g : Int → Bool) {k : Nat} (hk : 140000 ≤ k) : arrays_Xor k (mem f) (mem g) = some (mem fun x => bne (f x) (g x)) := by
  have h1 := mem_le f
  have h2 := mem_le g
  obtain ⟨r, r1, r2, r3⟩ := Merge_Xor_l0 ((mem f).length + (mem g).length) k [] (mem f) (mem g) 0 (Nat.le_refl _) (by omega) (by simp; omega) (mem_ris f) (mem_ris g)
  have : r = mem fun x => bne (f x) (g x) := ris_ext r2 fun x a b => by
    have e1 : decide (x ∈ mem f) = f x := by
      rw [Bool.eq_iff_iff, decide_eq_true_eq, mem_iff]
      exact ⟨fun h => h.2, fun h => ⟨⟨a, b⟩, h⟩⟩
    have e2 : decide (x ∈ mem g) = g x := by
      rw [Bool.eq_iff_iff, decide_eq_true_eq, mem_iff]
      exact ⟨fun h => h.2, fun h => ⟨⟨a, b⟩, h⟩⟩
    rw [r3, e1, e2]
  unfold arrays_Xor arrays_merge_Xor_1
  rw [r1, this]
  rfl

theorem sup_Xor {f g : Int → Bool} (hf : Sup f) (hg : Sup g) : Sup fun x => bne (f x) (g x) := fun x hx => by show bne (f x) (g x) = false; rw [hf x hx, hg x hx]; rfl
/-- The containers of two sets, of whatever kinds. -/
theorem Pair_Xor {c d : Cont} {f g : Int → Bool} {k : Nat} (hf : Sup f) (hg : Sup g) (hc : IsC c f) (hd : IsC d g) (hk : 300000 ≤ k) :
    ∃ e, container_pair_do_o_o_o k c d = some e ∧ IsC e (fun x => bne (f x) (g x)) ∧ max e.1 1 = kF (nF fun x => bne (f x) (g x)) (rF fun x => bne (f x) (g x)) := by
  have hs := sup_Xor hf hg
  have wds : ∃ e, ((container_Container_Words k c).bind fun y => (container_Container_Words k d).bind fun z => (words_Xor k y z).bind fun w => (container_Container_Canonical k (2, (([] : (List Int)), (w, ([] : (List (Int × Int))))))).bind fun v => some v) = some e ∧ IsC e (fun x => bne (f x) (g x)) ∧ max e.1 1 = kF (nF fun x => bne (f x) (g x)) (rF fun x => bne (f x) (g x)) := by
    obtain ⟨W, w1, w2, w3⟩ := CWords (k := k) hf hc (by omega)
    obtain ⟨V, v1, v2, v3⟩ := CWords (k := k) hg hd (by omega)
    obtain ⟨U, u1, u2, u3⟩ := WXor_eq (k := k) w2 v2 (by omega)
    obtain ⟨e, e1, e2, e3⟩ := CCanon (c := ((2 : Int), (([] : List Int), (up U, ([] : List (Int × Int)))))) (k := k) hs (.wrd u2 fun x hx => by rw [u3 x hx, w3 x hx, v3 x hx]) (by omega)
    exact ⟨e, by rw [w1]; simp only [Option.bind_some, v1, u1, e1], e2, e3⟩
  unfold container_pair_do_o_o_o
  simp only [Kind_eq, Option.bind_some]
  cases hc with
  | arr h =>
    have k1 : ∀ n : Int, n = 0 ∨ n = 1 → max n 1 = 1 := fun n h => by rcases h with h | h <;> subst h <;> rfl
    have n3 : ∀ n : Int, n = 0 ∨ n = 1 → ¬ n = 3 := fun n h => by rcases h with h | h <;> subst h <;> omega
    cases hd with
    | arr h' =>
      obtain ⟨e, e1, e2, e3⟩ := CCanon (c := ((1 : Int), ((mem fun x => bne (f x) (g x)), (([] : List Int), ([] : List (Int × Int)))))) (k := k) hs (.arr (.inr rfl)) (by omega)
      exact ⟨e, by simp only [k1 _ h, k1 _ h', decide_true, cond_true, AXor_eq f g (k := k) (by omega), Option.bind_some, e1], e2, e3⟩
    | wrd _ _ => simp only [k1 _ h, n3 _ h, show max (2 : Int) 1 = 2 from rfl, show ¬ (2 : Int) = 1 by omega, decide_true, decide_false, cond_true, cond_false]; exact wds
    | run _ _ _ => simp only [k1 _ h, n3 _ h, show max (3 : Int) 1 = 3 from rfl, show ¬ (3 : Int) = 1 by omega, decide_true, decide_false, cond_true, cond_false]; exact wds
  | wrd hW h =>
    simp only [show max (2 : Int) 1 = 2 from rfl, show ¬ (2 : Int) = 1 by omega, show ¬ (2 : Int) = 3 by omega, decide_false, cond_false]
    exact wds
  | run hm hw h =>
    cases hd with
    | arr h' =>
      have n3 : ∀ n : Int, n = 0 ∨ n = 1 → ¬ n = 3 := fun n h => by rcases h with h | h <;> subst h <;> omega
      simp only [show max (3 : Int) 1 = 3 from rfl, show ¬ (3 : Int) = 1 by omega, n3 _ h', decide_true, decide_false, cond_true, cond_false]
      exact wds
    | wrd _ _ =>
      simp only [show max (3 : Int) 1 = 3 from rfl, show ¬ (3 : Int) = 1 by omega, show ¬ (2 : Int) = 3 by omega, decide_true, decide_false, cond_true, cond_false]
      exact wds
    | run hm' hw' h' =>
      have l1 := runs_len_le hm hw h
      have l2 := runs_len_le hm' hw' h'
      obtain ⟨r2, e2, q⟩ := Xor_ans (k := k) hm hm' hw hw' (by omega) (by omega) (by omega)
      obtain ⟨e, e3, i3, k3⟩ := CCanon (c := ((3 : Int), (([] : List Int), (([] : List Int), r2)))) (k := k) hs (.run q.may q.wf (fun x => by rw [q.has, h, h'])) (by omega)
      exact ⟨e, by simp only [show max (3 : Int) 1 = 3 from rfl, show ¬ (3 : Int) = 1 by omega, decide_true, decide_false, cond_true, cond_false, e2, e3, Option.bind_some], i3, k3⟩

theorem CXor {c d : Cont} {f g : Int → Bool} {k : Nat} (hf : Sup f) (hg : Sup g) (hc : IsC c f) (hd : IsC d g) (hk : 300000 ≤ k) :
    ∃ e, container_Container_Xor k c d = some e ∧ IsC e (fun x => bne (f x) (g x)) ∧ max e.1 1 = kF (nF fun x => bne (f x) (g x)) (rF fun x => bne (f x) (g x)) := by
  obtain ⟨e, e1, e2⟩ := Pair_Xor hf hg hc hd hk
  exact ⟨e, by unfold container_Container_Xor; rw [e1]; rfl, e2⟩
end Go.Rx.Tryd

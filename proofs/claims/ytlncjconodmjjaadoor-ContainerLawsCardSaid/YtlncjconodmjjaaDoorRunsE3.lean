/- Printed by edges.py: each copy of the walk over edges. -/
import Derived.Test.YtlncjconodmjjaaDoorRunsT
import Derived.Test.YtlncjconodmjjaaDoorCpF
namespace Go.Rx.Tryd
open Go.Rx.Plain Go.IntWalk
set_option linter.unusedVariables false
set_option linter.unusedSimpArgs false

theorem runs_edges_Flip_1_l1_eq {k : Nat} {r : List Run} {a b : List Int} {on : Bool} {fr : Int} {i j : Nat} {t m : Int} (hi : i ≤ a.length) (hs : srt m (a.drop i)) (ht : ∀ x s, a.drop i = x :: s → t ≤ x) (hb : a.length < 1000000000) :
    runs_edges_Flip_1_l1 (k + 2) r a b on fr i j t = some (r, a, b, on, fr, ((i + adv (a.drop i) t : Nat) : Int), (j : Int), t) := by
  cases h : a.drop i with
  | nil =>
    have := drop_nil h hi
    have c : ¬ ((i : Int) < (a.length : Int)) := by omega
    simp only [runs_edges_Flip_1_l1, adv, c, decide_false, cond_false, Nat.add_zero]
  | cons x s =>
    obtain ⟨h1, h2, h3⟩ := drop_cons h (0 : Int)
    rw [h] at hs
    have c : ((i : Int) < (a.length : Int)) := by omega
    have c0 : (0 : Int) ≤ (i : Int) := by omega
    rw [runs_edges_Flip_1_l1]
    simp only [c, c0, decide_true, cond_true, Int.toNat_natCast, h2, adv]
    by_cases q : x ≤ t
    · rw [i64_in _ ⟨by omega, by omega⟩, show ((i : Int) + 1) = ((i + 1 : Nat) : Int) by omega]
      simp only [q, decide_true, cond_true, if_true]
      cases h' : s with
      | nil =>
        rw [h'] at h3
        have := drop_nil h3 (by omega)
        have c : ¬ (((i + 1 : Nat) : Int) < (a.length : Int)) := by omega
        simp only [runs_edges_Flip_1_l1, c, decide_false, cond_false]
      | cons y u =>
        rw [h'] at h3
        obtain ⟨g1, g2, g3⟩ := drop_cons h3 (0 : Int)
        have c : (((i + 1 : Nat) : Int) < (a.length : Int)) := by omega
        have c0 : (0 : Int) ≤ ((i + 1 : Nat) : Int) := by omega
        rw [h'] at hs
        have := ht x s h
        have := hs.2.2.1
        have q2 : ¬ y ≤ t := by omega
        simp only [runs_edges_Flip_1_l1, c, c0, decide_true, cond_true, Int.toNat_natCast, g2, q2, decide_false, cond_false]
    · simp only [q, decide_false, cond_false, if_false, Nat.add_zero]
theorem runs_edges_Flip_1_l2_eq {k : Nat} {r : List Run} {a b : List Int} {on : Bool} {fr : Int} {i : Int} {j : Nat} {t m : Int} (hi : j ≤ b.length) (hs : srt m (b.drop j)) (ht : ∀ x s, b.drop j = x :: s → t ≤ x) (hb : b.length < 1000000000) :
    runs_edges_Flip_1_l2 (k + 2) r a b on fr i j t = some (r, a, b, on, fr, i, ((j + adv (b.drop j) t : Nat) : Int), t) := by
  cases h : b.drop j with
  | nil =>
    have := drop_nil h hi
    have c : ¬ ((j : Int) < (b.length : Int)) := by omega
    simp only [runs_edges_Flip_1_l2, adv, c, decide_false, cond_false, Nat.add_zero]
  | cons x s =>
    obtain ⟨h1, h2, h3⟩ := drop_cons h (0 : Int)
    rw [h] at hs
    have c : ((j : Int) < (b.length : Int)) := by omega
    have c0 : (0 : Int) ≤ (j : Int) := by omega
    rw [runs_edges_Flip_1_l2]
    simp only [c, c0, decide_true, cond_true, Int.toNat_natCast, h2, adv]
    by_cases q : x ≤ t
    · rw [i64_in _ ⟨by omega, by omega⟩, show ((j : Int) + 1) = ((j + 1 : Nat) : Int) by omega]
      simp only [q, decide_true, cond_true, if_true]
      cases h' : s with
      | nil =>
        rw [h'] at h3
        have := drop_nil h3 (by omega)
        have c : ¬ (((j + 1 : Nat) : Int) < (b.length : Int)) := by omega
        simp only [runs_edges_Flip_1_l2, c, decide_false, cond_false]
      | cons y u =>
        rw [h'] at h3
        obtain ⟨g1, g2, g3⟩ := drop_cons h3 (0 : Int)
        have c : (((j + 1 : Nat) : Int) < (b.length : Int)) := by omega
        have c0 : (0 : Int) ≤ ((j + 1 : Nat) : Int) := by omega
        rw [h'] at hs
        have := ht x s h
        have := hs.2.2.1
        have q2 : ¬ y ≤ t := by omega
        simp only [runs_edges_Flip_1_l2, c, c0, decide_true, cond_true, Int.toNat_natCast, g2, q2, decide_false, cond_false]
    · simp only [q, decide_false, cond_false, if_false, Nat.add_zero]
theorem runs_edges_Flip_1_turn {a b : List Int} (ha : a.length < 1000000) (hb : b.length < 1000000) {k : Nat} {m : Int} {r : List Run} {on : Bool} {fr : Int} {i j : Nat} (hk : 2 ≤ k) (h : EInv (fun x y => x != y) a b m r on fr i j) :
    runs_edges_Flip_1_l0 (k + 1) r a b on fr i j = Turn (fun x y => x != y) a b (fun k r on fr i j => runs_edges_Flip_1_l0 k r a b on fr i j) k r on fr i j := by
  obtain ⟨k, rfl⟩ : ∃ k', k = k' + 2 := ⟨k - 2, by omega⟩
  have hC : ∀ x y, runs_Flip_1 (k + 2) x y = some ((fun x y => x != y) x y) := by intro x y; cases x <;> cases y <;> rfl
  have lr := h.len
  have ia := h.ia
  have jb := h.jb
  have m0 := h.m0
  have fin : ∀ (t : Int), m ≤ t → t ≤ 65536 → (∀ x s, a.drop i = x :: s → t ≤ x) → (∀ x s, b.drop j = x :: s → t ≤ x) →
      ((runs_edges_Flip_1_l1 (k + 2) r a b on fr i j t).bind fun y160 =>
                  (runs_edges_Flip_1_l2 (k + 2) y160.1 y160.2.1 y160.2.2.1 y160.2.2.2.1 y160.2.2.2.2.1 y160.2.2.2.2.2.1 y160.2.2.2.2.2.2.1 y160.2.2.2.2.2.2.2).bind fun y161 =>
                  (runs_Flip_1 (k + 2) (decide ((y161.2.2.2.2.2.1.tmod 2) = 1)) (decide ((y161.2.2.2.2.2.2.1.tmod 2) = 1))).bind fun y166 =>
                  bif (y166 == y161.2.2.2.1) then
                    runs_edges_Flip_1_l0 (k + 2) y161.1 y161.2.1 y161.2.2.1 y161.2.2.2.1 y161.2.2.2.2.1 y161.2.2.2.2.2.1 y161.2.2.2.2.2.2.1
                  else
                    bif y161.2.2.2.1 then
                      let v168 := IntKind.wrap .u16 y161.2.2.2.2.1
                      let v170 := IntKind.wrap .i64 ((IntKind.wrap .i64 (y161.2.2.2.2.2.2.2 - y161.2.2.2.2.1)) - 1)
                      bif decide ((List.length y161.1 + List.length [(v168, (IntKind.wrap .u16 v170))]) * 4 ≤ 140737488355328) then
                        bif decide (List.length y161.1 + List.length [(v168, (IntKind.wrap .u16 v170))] ≤ 140737488355328) then
                          runs_edges_Flip_1_l0 (k + 2) (y161.1 ++ [(v168, (IntKind.wrap .u16 v170))]) y161.2.1 y161.2.2.1 y166 y161.2.2.2.2.2.2.2 y161.2.2.2.2.2.1 y161.2.2.2.2.2.2.1
                        else none
                      else none
                    else
                      runs_edges_Flip_1_l0 (k + 2) y161.1 y161.2.1 y161.2.2.1 y166 y161.2.2.2.2.2.2.2 y161.2.2.2.2.2.1 y161.2.2.2.2.2.2.1) =
      (bif ((fun x y => x != y) (od (i + adv (a.drop i) t)) (od (j + adv (b.drop j) t)) == on) then runs_edges_Flip_1_l0 (k + 2) r a b on fr ((i + adv (a.drop i) t : Nat) : Int) ((j + adv (b.drop j) t : Nat) : Int)
       else bif on then runs_edges_Flip_1_l0 (k + 2) (r ++ [(fr, t - fr - 1)]) a b ((fun x y => x != y) (od (i + adv (a.drop i) t)) (od (j + adv (b.drop j) t))) t ((i + adv (a.drop i) t : Nat) : Int) ((j + adv (b.drop j) t : Nat) : Int)
       else runs_edges_Flip_1_l0 (k + 2) r a b ((fun x y => x != y) (od (i + adv (a.drop i) t)) (od (j + adv (b.drop j) t))) t ((i + adv (a.drop i) t : Nat) : Int) ((j + adv (b.drop j) t : Nat) : Int)) := by
    intro t ht0 ht1 hta htb
    rw [runs_edges_Flip_1_l1_eq ia h.sa hta (by omega)]
    simp only [Option.bind_some]
    rw [runs_edges_Flip_1_l2_eq jb h.sb htb (by omega)]
    simp only [Option.bind_some, od_tmod, hC]
    have g1 : decide ((r.length + 1) * 4 ≤ 140737488355328) = true := by simp; omega
    have g2 : decide (r.length + 1 ≤ 140737488355328) = true := by simp; omega
    simp only [List.length_cons, List.length_nil, Nat.zero_add, g1, g2, cond_true]
    cases on with
    | false => simp only [cond_false]
    | true =>
      obtain ⟨f1, f2, f3⟩ := h.fr' rfl
      simp only [cond_true]
      rw [i64_in (t - fr) ⟨by omega, by omega⟩, i64_in (t - fr - 1) ⟨by omega, by omega⟩, u16_in fr ⟨by omega, by omega⟩, u16_in (t - fr - 1) ⟨by omega, by omega⟩]
  unfold Turn
  rw [runs_edges_Flip_1_l0]
  have sa := h.sa
  have sb := h.sb
  cases e1 : a.drop i with
  | nil =>
    have i1 := drop_nil e1 ia
    have c1 : ¬ ((i : Int) < (a.length : Int)) := by omega
    cases e2 : b.drop j with
    | nil =>
      have j1 := drop_nil e2 jb
      have c2 : ¬ ((j : Int) < (b.length : Int)) := by omega
      simp only [c1, c2, decide_false, cond_false]
    | cons y u =>
      obtain ⟨g1, g2, g3⟩ := drop_cons e2 (0 : Int)
      have c2 : ((j : Int) < (b.length : Int)) := by omega
      have c3 : (0 : Int) ≤ (j : Int) := by omega
      rw [e2] at sb
      have ly := srt_low sb
      have hm : min 65537 y = y := by omega
      simp only [c1, c2, c3, decide_false, cond_false, decide_true, cond_true, Int.toNat_natCast, g2, hm, edgeAt]
      rw [fin y ly.1 ly.2 (fun x s e => by rw [e1] at e; cases e) (fun x s e => by rw [e2] at e; cases e; exact Int.le_refl _), e1, e2]
  | cons x s =>
    obtain ⟨p1, p2, p3⟩ := drop_cons e1 (0 : Int)
    have c1 : ((i : Int) < (a.length : Int)) := by omega
    have c0 : (0 : Int) ≤ (i : Int) := by omega
    rw [e1] at sa
    have lx := srt_low sa
    cases e2 : b.drop j with
    | nil =>
      have j1 := drop_nil e2 jb
      have c2 : ¬ ((j : Int) < (b.length : Int)) := by omega
      simp only [c1, c2, c0, decide_false, cond_false, decide_true, cond_true, Int.toNat_natCast, p2, edgeAt]
      rw [fin x lx.1 lx.2 (fun x s e => by rw [e1] at e; cases e; exact Int.le_refl _) (fun x s e => by rw [e2] at e; cases e), e1, e2]
    | cons y u =>
      obtain ⟨g1, g2, g3⟩ := drop_cons e2 (0 : Int)
      have c2 : ((j : Int) < (b.length : Int)) := by omega
      have c3 : (0 : Int) ≤ (j : Int) := by omega
      rw [e2] at sb
      have ly := srt_low sb
      simp only [c1, c2, c0, c3, decide_true, cond_true, Int.toNat_natCast, p2, g2, edgeAt]
      rw [fin (min x y) (by omega) (by omega) (fun x s e => by rw [e1] at e; cases e; omega) (fun x s e => by rw [e2] at e; cases e; omega), e1, e2]
theorem runs_edges_Flip_1_good {k : Nat} {a b : List Int} (za : srt 0 a) (zb : srt 0 b) (ea : od a.length = false) (eb : od b.length = false) (ha : a.length < 1000000) (hb : b.length < 1000000) (hk : a.length + b.length + 3 ≤ k) :
    ∃ r, runs_edges_Flip_1 k a b = some r ∧ Good (fun x y => x != y) a b r := by
  obtain ⟨r, h1, h2⟩ := walk_all (op := (fun x y => x != y)) (L := fun k r on fr i j => runs_edges_Flip_1_l0 k r a b on fr i j) (K := 2) rfl za zb ea eb (fun k m r on fr i j hk h => runs_edges_Flip_1_turn ha hb hk h) k (by omega)
  refine ⟨r, ?_, h2⟩
  have h1 : runs_edges_Flip_1_l0 k [] a b false 0 0 0 = some r := h1
  unfold runs_edges_Flip_1
  rw [h1]
  rfl


theorem runs_edges_And_1_l1_eq {k : Nat} {r : List Run} {a b : List Int} {on : Bool} {fr : Int} {i j : Nat} {t m : Int} (hi : i ≤ a.length) (hs : srt m (a.drop i)) (ht : ∀ x s, a.drop i = x :: s → t ≤ x) (hb : a.length < 1000000000) :
    runs_edges_And_1_l1 (k + 2) r a b on fr i j t = some (r, a, b, on, fr, ((i + adv (a.drop i) t : Nat) : Int), (j : Int), t) := by
  cases h : a.drop i with
  | nil =>
    have := drop_nil h hi
    have c : ¬ ((i : Int) < (a.length : Int)) := by omega
    simp only [runs_edges_And_1_l1, adv, c, decide_false, cond_false, Nat.add_zero]
  | cons x s =>
    obtain ⟨h1, h2, h3⟩ := drop_cons h (0 : Int)
    rw [h] at hs
    have c : ((i : Int) < (a.length : Int)) := by omega
    have c0 : (0 : Int) ≤ (i : Int) := by omega
    rw [runs_edges_And_1_l1]
    simp only [c, c0, decide_true, cond_true, Int.toNat_natCast, h2, adv]
    by_cases q : x ≤ t
    · rw [i64_in _ ⟨by omega, by omega⟩, show ((i : Int) + 1) = ((i + 1 : Nat) : Int) by omega]
      simp only [q, decide_true, cond_true, if_true]
      cases h' : s with
      | nil =>
        rw [h'] at h3
        have := drop_nil h3 (by omega)
        have c : ¬ (((i + 1 : Nat) : Int) < (a.length : Int)) := by omega
        simp only [runs_edges_And_1_l1, c, decide_false, cond_false]
      | cons y u =>
        rw [h'] at h3
        obtain ⟨g1, g2, g3⟩ := drop_cons h3 (0 : Int)
        have c : (((i + 1 : Nat) : Int) < (a.length : Int)) := by omega
        have c0 : (0 : Int) ≤ ((i + 1 : Nat) : Int) := by omega
        rw [h'] at hs
        have := ht x s h
        have := hs.2.2.1
        have q2 : ¬ y ≤ t := by omega
        simp only [runs_edges_And_1_l1, c, c0, decide_true, cond_true, Int.toNat_natCast, g2, q2, decide_false, cond_false]
    · simp only [q, decide_false, cond_false, if_false, Nat.add_zero]
theorem runs_edges_And_1_l2_eq {k : Nat} {r : List Run} {a b : List Int} {on : Bool} {fr : Int} {i : Int} {j : Nat} {t m : Int} (hi : j ≤ b.length) (hs : srt m (b.drop j)) (ht : ∀ x s, b.drop j = x :: s → t ≤ x) (hb : b.length < 1000000000) :
    runs_edges_And_1_l2 (k + 2) r a b on fr i j t = some (r, a, b, on, fr, i, ((j + adv (b.drop j) t : Nat) : Int), t) := by
  cases h : b.drop j with
  | nil =>
    have := drop_nil h hi
    have c : ¬ ((j : Int) < (b.length : Int)) := by omega
    simp only [runs_edges_And_1_l2, adv, c, decide_false, cond_false, Nat.add_zero]
  | cons x s =>
    obtain ⟨h1, h2, h3⟩ := drop_cons h (0 : Int)
    rw [h] at hs
    have c : ((j : Int) < (b.length : Int)) := by omega
    have c0 : (0 : Int) ≤ (j : Int) := by omega
    rw [runs_edges_And_1_l2]
    simp only [c, c0, decide_true, cond_true, Int.toNat_natCast, h2, adv]
    by_cases q : x ≤ t
    · rw [i64_in _ ⟨by omega, by omega⟩, show ((j : Int) + 1) = ((j + 1 : Nat) : Int) by omega]
      simp only [q, decide_true, cond_true, if_true]
      cases h' : s with
      | nil =>
        rw [h'] at h3
        have := drop_nil h3 (by omega)
        have c : ¬ (((j + 1 : Nat) : Int) < (b.length : Int)) := by omega
        simp only [runs_edges_And_1_l2, c, decide_false, cond_false]
      | cons y u =>
        rw [h'] at h3
        obtain ⟨g1, g2, g3⟩ := drop_cons h3 (0 : Int)
        have c : (((j + 1 : Nat) : Int) < (b.length : Int)) := by omega
        have c0 : (0 : Int) ≤ ((j + 1 : Nat) : Int) := by omega
        rw [h'] at hs
        have := ht x s h
        have := hs.2.2.1
        have q2 : ¬ y ≤ t := by omega
        simp only [runs_edges_And_1_l2, c, c0, decide_true, cond_true, Int.toNat_natCast, g2, q2, decide_false, cond_false]
    · simp only [q, decide_false, cond_false, if_false, Nat.add_zero]
theorem runs_edges_And_1_turn {a b : List Int} (ha : a.length < 1000000) (hb : b.length < 1000000) {k : Nat} {m : Int} {r : List Run} {on : Bool} {fr : Int} {i j : Nat} (hk : 2 ≤ k) (h : EInv (fun x y => x && y) a b m r on fr i j) :
    runs_edges_And_1_l0 (k + 1) r a b on fr i j = Turn (fun x y => x && y) a b (fun k r on fr i j => runs_edges_And_1_l0 k r a b on fr i j) k r on fr i j := by
  obtain ⟨k, rfl⟩ : ∃ k', k = k' + 2 := ⟨k - 2, by omega⟩
  have hC : ∀ x y, runs_And_1 (k + 2) x y = some ((fun x y => x && y) x y) := by intro x y; cases x <;> cases y <;> rfl
  have lr := h.len
  have ia := h.ia
  have jb := h.jb
  have m0 := h.m0
  have fin : ∀ (t : Int), m ≤ t → t ≤ 65536 → (∀ x s, a.drop i = x :: s → t ≤ x) → (∀ x s, b.drop j = x :: s → t ≤ x) →
      ((runs_edges_And_1_l1 (k + 2) r a b on fr i j t).bind fun y160 =>
                  (runs_edges_And_1_l2 (k + 2) y160.1 y160.2.1 y160.2.2.1 y160.2.2.2.1 y160.2.2.2.2.1 y160.2.2.2.2.2.1 y160.2.2.2.2.2.2.1 y160.2.2.2.2.2.2.2).bind fun y161 =>
                  (runs_And_1 (k + 2) (decide ((y161.2.2.2.2.2.1.tmod 2) = 1)) (decide ((y161.2.2.2.2.2.2.1.tmod 2) = 1))).bind fun y166 =>
                  bif (y166 == y161.2.2.2.1) then
                    runs_edges_And_1_l0 (k + 2) y161.1 y161.2.1 y161.2.2.1 y161.2.2.2.1 y161.2.2.2.2.1 y161.2.2.2.2.2.1 y161.2.2.2.2.2.2.1
                  else
                    bif y161.2.2.2.1 then
                      let v168 := IntKind.wrap .u16 y161.2.2.2.2.1
                      let v170 := IntKind.wrap .i64 ((IntKind.wrap .i64 (y161.2.2.2.2.2.2.2 - y161.2.2.2.2.1)) - 1)
                      bif decide ((List.length y161.1 + List.length [(v168, (IntKind.wrap .u16 v170))]) * 4 ≤ 140737488355328) then
                        bif decide (List.length y161.1 + List.length [(v168, (IntKind.wrap .u16 v170))] ≤ 140737488355328) then
                          runs_edges_And_1_l0 (k + 2) (y161.1 ++ [(v168, (IntKind.wrap .u16 v170))]) y161.2.1 y161.2.2.1 y166 y161.2.2.2.2.2.2.2 y161.2.2.2.2.2.1 y161.2.2.2.2.2.2.1
                        else none
                      else none
                    else
                      runs_edges_And_1_l0 (k + 2) y161.1 y161.2.1 y161.2.2.1 y166 y161.2.2.2.2.2.2.2 y161.2.2.2.2.2.1 y161.2.2.2.2.2.2.1) =
      (bif ((fun x y => x && y) (od (i + adv (a.drop i) t)) (od (j + adv (b.drop j) t)) == on) then runs_edges_And_1_l0 (k + 2) r a b on fr ((i + adv (a.drop i) t : Nat) : Int) ((j + adv (b.drop j) t : Nat) : Int)
       else bif on then runs_edges_And_1_l0 (k + 2) (r ++ [(fr, t - fr - 1)]) a b ((fun x y => x && y) (od (i + adv (a.drop i) t)) (od (j + adv (b.drop j) t))) t ((i + adv (a.drop i) t : Nat) : Int) ((j + adv (b.drop j) t : Nat) : Int)
       else runs_edges_And_1_l0 (k + 2) r a b ((fun x y => x && y) (od (i + adv (a.drop i) t)) (od (j + adv (b.drop j) t))) t ((i + adv (a.drop i) t : Nat) : Int) ((j + adv (b.drop j) t : Nat) : Int)) := by
    intro t ht0 ht1 hta htb
    rw [runs_edges_And_1_l1_eq ia h.sa hta (by omega)]
    simp only [Option.bind_some]
    rw [runs_edges_And_1_l2_eq jb h.sb htb (by omega)]
    simp only [Option.bind_some, od_tmod, hC]
    have g1 : decide ((r.length + 1) * 4 ≤ 140737488355328) = true := by simp; omega
    have g2 : decide (r.length + 1 ≤ 140737488355328) = true := by simp; omega
    simp only [List.length_cons, List.length_nil, Nat.zero_add, g1, g2, cond_true]
    cases on with
    | false => simp only [cond_false]
    | true =>
      obtain ⟨f1, f2, f3⟩ := h.fr' rfl
      simp only [cond_true]
      rw [i64_in (t - fr) ⟨by omega, by omega⟩, i64_in (t - fr - 1) ⟨by omega, by omega⟩, u16_in fr ⟨by omega, by omega⟩, u16_in (t - fr - 1) ⟨by omega, by omega⟩]
  unfold Turn
  rw [runs_edges_And_1_l0]
  have sa := h.sa
  have sb := h.sb
  cases e1 : a.drop i with
  | nil =>
    have i1 := drop_nil e1 ia
    have c1 : ¬ ((i : Int) < (a.length : Int)) := by omega
    cases e2 : b.drop j with
    | nil =>
      have j1 := drop_nil e2 jb
      have c2 : ¬ ((j : Int) < (b.length : Int)) := by omega
      simp only [c1, c2, decide_false, cond_false]
    | cons y u =>
      obtain ⟨g1, g2, g3⟩ := drop_cons e2 (0 : Int)
      have c2 : ((j : Int) < (b.length : Int)) := by omega
      have c3 : (0 : Int) ≤ (j : Int) := by omega
      rw [e2] at sb
      have ly := srt_low sb
      have hm : min 65537 y = y := by omega
      simp only [c1, c2, c3, decide_false, cond_false, decide_true, cond_true, Int.toNat_natCast, g2, hm, edgeAt]
      rw [fin y ly.1 ly.2 (fun x s e => by rw [e1] at e; cases e) (fun x s e => by rw [e2] at e; cases e; exact Int.le_refl _), e1, e2]
  | cons x s =>
    obtain ⟨p1, p2, p3⟩ := drop_cons e1 (0 : Int)
    have c1 : ((i : Int) < (a.length : Int)) := by omega
    have c0 : (0 : Int) ≤ (i : Int) := by omega
    rw [e1] at sa
    have lx := srt_low sa
    cases e2 : b.drop j with
    | nil =>
      have j1 := drop_nil e2 jb
      have c2 : ¬ ((j : Int) < (b.length : Int)) := by omega
      simp only [c1, c2, c0, decide_false, cond_false, decide_true, cond_true, Int.toNat_natCast, p2, edgeAt]
      rw [fin x lx.1 lx.2 (fun x s e => by rw [e1] at e; cases e; exact Int.le_refl _) (fun x s e => by rw [e2] at e; cases e), e1, e2]
    | cons y u =>
      obtain ⟨g1, g2, g3⟩ := drop_cons e2 (0 : Int)
      have c2 : ((j : Int) < (b.length : Int)) := by omega
      have c3 : (0 : Int) ≤ (j : Int) := by omega
      rw [e2] at sb
      have ly := srt_low sb
      simp only [c1, c2, c0, c3, decide_true, cond_true, Int.toNat_natCast, p2, g2, edgeAt]
      rw [fin (min x y) (by omega) (by omega) (fun x s e => by rw [e1] at e; cases e; omega) (fun x s e => by rw [e2] at e; cases e; omega), e1, e2]
theorem runs_edges_And_1_good {k : Nat} {a b : List Int} (za : srt 0 a) (zb : srt 0 b) (ea : od a.length = false) (eb : od b.length = false) (ha : a.length < 1000000) (hb : b.length < 1000000) (hk : a.length + b.length + 3 ≤ k) :
    ∃ r, runs_edges_And_1 k a b = some r ∧ Good (fun x y => x && y) a b r := by
  obtain ⟨r, h1, h2⟩ := walk_all (op := (fun x y => x && y)) (L := fun k r on fr i j => runs_edges_And_1_l0 k r a b on fr i j) (K := 2) rfl za zb ea eb (fun k m r on fr i j hk h => runs_edges_And_1_turn ha hb hk h) k (by omega)
  refine ⟨r, ?_, h2⟩
  have h1 : runs_edges_And_1_l0 k [] a b false 0 0 0 = some r := h1
  unfold runs_edges_And_1
  rw [h1]
  rfl


theorem runs_edges_Or_1_l1_eq {k : Nat} {r : List Run} {a b : List Int} {on : Bool} {fr : Int} {i j : Nat} {t m : Int} (hi : i ≤ a.length) (hs : srt m (a.drop i)) (ht : ∀ x s, a.drop i = x :: s → t ≤ x) (hb : a.length < 1000000000) :
    runs_edges_Or_1_l1 (k + 2) r a b on fr i j t = some (r, a, b, on, fr, ((i + adv (a.drop i) t : Nat) : Int), (j : Int), t) := by
  cases h : a.drop i with
  | nil =>
    have := drop_nil h hi
    have c : ¬ ((i : Int) < (a.length : Int)) := by omega
    simp only [runs_edges_Or_1_l1, adv, c, decide_false, cond_false, Nat.add_zero]
  | cons x s =>
    obtain ⟨h1, h2, h3⟩ := drop_cons h (0 : Int)
    rw [h] at hs
    have c : ((i : Int) < (a.length : Int)) := by omega
    have c0 : (0 : Int) ≤ (i : Int) := by omega
    rw [runs_edges_Or_1_l1]
    simp only [c, c0, decide_true, cond_true, Int.toNat_natCast, h2, adv]
    by_cases q : x ≤ t
    · rw [i64_in _ ⟨by omega, by omega⟩, show ((i : Int) + 1) = ((i + 1 : Nat) : Int) by omega]
      simp only [q, decide_true, cond_true, if_true]
      cases h' : s with
      | nil =>
        rw [h'] at h3
        have := drop_nil h3 (by omega)
        have c : ¬ (((i + 1 : Nat) : Int) < (a.length : Int)) := by omega
        simp only [runs_edges_Or_1_l1, c, decide_false, cond_false]
      | cons y u =>
        rw [h'] at h3
        obtain ⟨g1, g2, g3⟩ := drop_cons h3 (0 : Int)
        have c : (((i + 1 : Nat) : Int) < (a.length : Int)) := by omega
        have c0 : (0 : Int) ≤ ((i + 1 : Nat) : Int) := by omega
        rw [h'] at hs
        have := ht x s h
        have := hs.2.2.1
        have q2 : ¬ y ≤ t := by omega
        simp only [runs_edges_Or_1_l1, c, c0, decide_true, cond_true, Int.toNat_natCast, g2, q2, decide_false, cond_false]
    · simp only [q, decide_false, cond_false, if_false, Nat.add_zero]
theorem runs_edges_Or_1_l2_eq {k : Nat} {r : List Run} {a b : List Int} {on : Bool} {fr : Int} {i : Int} {j : Nat} {t m : Int} (hi : j ≤ b.length) (hs : srt m (b.drop j)) (ht : ∀ x s, b.drop j = x :: s → t ≤ x) (hb : b.length < 1000000000) :
    runs_edges_Or_1_l2 (k + 2) r a b on fr i j t = some (r, a, b, on, fr, i, ((j + adv (b.drop j) t : Nat) : Int), t) := by
  cases h : b.drop j with
  | nil =>
    have := drop_nil h hi
    have c : ¬ ((j : Int) < (b.length : Int)) := by omega
    simp only [runs_edges_Or_1_l2, adv, c, decide_false, cond_false, Nat.add_zero]
  | cons x s =>
    obtain ⟨h1, h2, h3⟩ := drop_cons h (0 : Int)
    rw [h] at hs
    have c : ((j : Int) < (b.length : Int)) := by omega
    have c0 : (0 : Int) ≤ (j : Int) := by omega
    rw [runs_edges_Or_1_l2]
    simp only [c, c0, decide_true, cond_true, Int.toNat_natCast, h2, adv]
    by_cases q : x ≤ t
    · rw [i64_in _ ⟨by omega, by omega⟩, show ((j : Int) + 1) = ((j + 1 : Nat) : Int) by omega]
      simp only [q, decide_true, cond_true, if_true]
      cases h' : s with
      | nil =>
        rw [h'] at h3
        have := drop_nil h3 (by omega)
        have c : ¬ (((j + 1 : Nat) : Int) < (b.length : Int)) := by omega
        simp only [runs_edges_Or_1_l2, c, decide_false, cond_false]
      | cons y u =>
        rw [h'] at h3
        obtain ⟨g1, g2, g3⟩ := drop_cons h3 (0 : Int)
        have c : (((j + 1 : Nat) : Int) < (b.length : Int)) := by omega
        have c0 : (0 : Int) ≤ ((j + 1 : Nat) : Int) := by omega
        rw [h'] at hs
        have := ht x s h
        have := hs.2.2.1
        have q2 : ¬ y ≤ t := by omega
        simp only [runs_edges_Or_1_l2, c, c0, decide_true, cond_true, Int.toNat_natCast, g2, q2, decide_false, cond_false]
    · simp only [q, decide_false, cond_false, if_false, Nat.add_zero]
theorem runs_edges_Or_1_turn {a b : List Int} (ha : a.length < 1000000) (hb : b.length < 1000000) {k : Nat} {m : Int} {r : List Run} {on : Bool} {fr : Int} {i j : Nat} (hk : 2 ≤ k) (h : EInv (fun x y => x || y) a b m r on fr i j) :
    runs_edges_Or_1_l0 (k + 1) r a b on fr i j = Turn (fun x y => x || y) a b (fun k r on fr i j => runs_edges_Or_1_l0 k r a b on fr i j) k r on fr i j := by
  obtain ⟨k, rfl⟩ : ∃ k', k = k' + 2 := ⟨k - 2, by omega⟩
  have hC : ∀ x y, runs_Or_1 (k + 2) x y = some ((fun x y => x || y) x y) := by intro x y; cases x <;> cases y <;> rfl
  have lr := h.len
  have ia := h.ia
  have jb := h.jb
  have m0 := h.m0
  have fin : ∀ (t : Int), m ≤ t → t ≤ 65536 → (∀ x s, a.drop i = x :: s → t ≤ x) → (∀ x s, b.drop j = x :: s → t ≤ x) →
      ((runs_edges_Or_1_l1 (k + 2) r a b on fr i j t).bind fun y160 =>
                  (runs_edges_Or_1_l2 (k + 2) y160.1 y160.2.1 y160.2.2.1 y160.2.2.2.1 y160.2.2.2.2.1 y160.2.2.2.2.2.1 y160.2.2.2.2.2.2.1 y160.2.2.2.2.2.2.2).bind fun y161 =>
                  (runs_Or_1 (k + 2) (decide ((y161.2.2.2.2.2.1.tmod 2) = 1)) (decide ((y161.2.2.2.2.2.2.1.tmod 2) = 1))).bind fun y166 =>
                  bif (y166 == y161.2.2.2.1) then
                    runs_edges_Or_1_l0 (k + 2) y161.1 y161.2.1 y161.2.2.1 y161.2.2.2.1 y161.2.2.2.2.1 y161.2.2.2.2.2.1 y161.2.2.2.2.2.2.1
                  else
                    bif y161.2.2.2.1 then
                      let v168 := IntKind.wrap .u16 y161.2.2.2.2.1
                      let v170 := IntKind.wrap .i64 ((IntKind.wrap .i64 (y161.2.2.2.2.2.2.2 - y161.2.2.2.2.1)) - 1)
                      bif decide ((List.length y161.1 + List.length [(v168, (IntKind.wrap .u16 v170))]) * 4 ≤ 140737488355328) then
                        bif decide (List.length y161.1 + List.length [(v168, (IntKind.wrap .u16 v170))] ≤ 140737488355328) then
                          runs_edges_Or_1_l0 (k + 2) (y161.1 ++ [(v168, (IntKind.wrap .u16 v170))]) y161.2.1 y161.2.2.1 y166 y161.2.2.2.2.2.2.2 y161.2.2.2.2.2.1 y161.2.2.2.2.2.2.1
                        else none
                      else none
                    else
                      runs_edges_Or_1_l0 (k + 2) y161.1 y161.2.1 y161.2.2.1 y166 y161.2.2.2.2.2.2.2 y161.2.2.2.2.2.1 y161.2.2.2.2.2.2.1) =
      (bif ((fun x y => x || y) (od (i + adv (a.drop i) t)) (od (j + adv (b.drop j) t)) == on) then runs_edges_Or_1_l0 (k + 2) r a b on fr ((i + adv (a.drop i) t : Nat) : Int) ((j + adv (b.drop j) t : Nat) : Int)
       else bif on then runs_edges_Or_1_l0 (k + 2) (r ++ [(fr, t - fr - 1)]) a b ((fun x y => x || y) (od (i + adv (a.drop i) t)) (od (j + adv (b.drop j) t))) t ((i + adv (a.drop i) t : Nat) : Int) ((j + adv (b.drop j) t : Nat) : Int)
       else runs_edges_Or_1_l0 (k + 2) r a b ((fun x y => x || y) (od (i + adv (a.drop i) t)) (od (j + adv (b.drop j) t))) t ((i + adv (a.drop i) t : Nat) : Int) ((j + adv (b.drop j) t : Nat) : Int)) := by
    intro t ht0 ht1 hta htb
    rw [runs_edges_Or_1_l1_eq ia h.sa hta (by omega)]
    simp only [Option.bind_some]
    rw [runs_edges_Or_1_l2_eq jb h.sb htb (by omega)]
    simp only [Option.bind_some, od_tmod, hC]
    have g1 : decide ((r.length + 1) * 4 ≤ 140737488355328) = true := by simp; omega
    have g2 : decide (r.length + 1 ≤ 140737488355328) = true := by simp; omega
    simp only [List.length_cons, List.length_nil, Nat.zero_add, g1, g2, cond_true]
    cases on with
    | false => simp only [cond_false]
    | true =>
      obtain ⟨f1, f2, f3⟩ := h.fr' rfl
      simp only [cond_true]
      rw [i64_in (t - fr) ⟨by omega, by omega⟩, i64_in (t - fr - 1) ⟨by omega, by omega⟩, u16_in fr ⟨by omega, by omega⟩, u16_in (t - fr - 1) ⟨by omega, by omega⟩]
  unfold Turn
  rw [runs_edges_Or_1_l0]
  have sa := h.sa
  have sb := h.sb
  cases e1 : a.drop i with
  | nil =>
    have i1 := drop_nil e1 ia
    have c1 : ¬ ((i : Int) < (a.length : Int)) := by omega
    cases e2 : b.drop j with
    | nil =>
      have j1 := drop_nil e2 jb
      have c2 : ¬ ((j : Int) < (b.length : Int)) := by omega
      simp only [c1, c2, decide_false, cond_false]
    | cons y u =>
      obtain ⟨g1, g2, g3⟩ := drop_cons e2 (0 : Int)
      have c2 : ((j : Int) < (b.length : Int)) := by omega
      have c3 : (0 : Int) ≤ (j : Int) := by omega
      rw [e2] at sb
      have ly := srt_low sb
      have hm : min 65537 y = y := by omega
      simp only [c1, c2, c3, decide_false, cond_false, decide_true, cond_true, Int.toNat_natCast, g2, hm, edgeAt]
      rw [fin y ly.1 ly.2 (fun x s e => by rw [e1] at e; cases e) (fun x s e => by rw [e2] at e; cases e; exact Int.le_refl _), e1, e2]
  | cons x s =>
    obtain ⟨p1, p2, p3⟩ := drop_cons e1 (0 : Int)
    have c1 : ((i : Int) < (a.length : Int)) := by omega
    have c0 : (0 : Int) ≤ (i : Int) := by omega
    rw [e1] at sa
    have lx := srt_low sa
    cases e2 : b.drop j with
    | nil =>
      have j1 := drop_nil e2 jb
      have c2 : ¬ ((j : Int) < (b.length : Int)) := by omega
      simp only [c1, c2, c0, decide_false, cond_false, decide_true, cond_true, Int.toNat_natCast, p2, edgeAt]
      rw [fin x lx.1 lx.2 (fun x s e => by rw [e1] at e; cases e; exact Int.le_refl _) (fun x s e => by rw [e2] at e; cases e), e1, e2]
    | cons y u =>
      obtain ⟨g1, g2, g3⟩ := drop_cons e2 (0 : Int)
      have c2 : ((j : Int) < (b.length : Int)) := by omega
      have c3 : (0 : Int) ≤ (j : Int) := by omega
      rw [e2] at sb
      have ly := srt_low sb
      simp only [c1, c2, c0, c3, decide_true, cond_true, Int.toNat_natCast, p2, g2, edgeAt]
      rw [fin (min x y) (by omega) (by omega) (fun x s e => by rw [e1] at e; cases e; omega) (fun x s e => by rw [e2] at e; cases e; omega), e1, e2]
theorem runs_edges_Or_1_good {k : Nat} {a b : List Int} (za : srt 0 a) (zb : srt 0 b) (ea : od a.length = false) (eb : od b.length = false) (ha : a.length < 1000000) (hb : b.length < 1000000) (hk : a.length + b.length + 3 ≤ k) :
    ∃ r, runs_edges_Or_1 k a b = some r ∧ Good (fun x y => x || y) a b r := by
  obtain ⟨r, h1, h2⟩ := walk_all (op := (fun x y => x || y)) (L := fun k r on fr i j => runs_edges_Or_1_l0 k r a b on fr i j) (K := 2) rfl za zb ea eb (fun k m r on fr i j hk h => runs_edges_Or_1_turn ha hb hk h) k (by omega)
  refine ⟨r, ?_, h2⟩
  have h1 : runs_edges_Or_1_l0 k [] a b false 0 0 0 = some r := h1
  unfold runs_edges_Or_1
  rw [h1]
  rfl


theorem runs_edges_AndNot_1_l1_eq {k : Nat} {r : List Run} {a b : List Int} {on : Bool} {fr : Int} {i j : Nat} {t m : Int} (hi : i ≤ a.length) (hs : srt m (a.drop i)) (ht : ∀ x s, a.drop i = x :: s → t ≤ x) (hb : a.length < 1000000000) :
    runs_edges_AndNot_1_l1 (k + 2) r a b on fr i j t = some (r, a, b, on, fr, ((i + adv (a.drop i) t : Nat) : Int), (j : Int), t) := by
  cases h : a.drop i with
  | nil =>
    have := drop_nil h hi
    have c : ¬ ((i : Int) < (a.length : Int)) := by omega
    simp only [runs_edges_AndNot_1_l1, adv, c, decide_false, cond_false, Nat.add_zero]
  | cons x s =>
    obtain ⟨h1, h2, h3⟩ := drop_cons h (0 : Int)
    rw [h] at hs
    have c : ((i : Int) < (a.length : Int)) := by omega
    have c0 : (0 : Int) ≤ (i : Int) := by omega
    rw [runs_edges_AndNot_1_l1]
    simp only [c, c0, decide_true, cond_true, Int.toNat_natCast, h2, adv]
    by_cases q : x ≤ t
    · rw [i64_in _ ⟨by omega, by omega⟩, show ((i : Int) + 1) = ((i + 1 : Nat) : Int) by omega]
      simp only [q, decide_true, cond_true, if_true]
      cases h' : s with
      | nil =>
        rw [h'] at h3
        have := drop_nil h3 (by omega)
        have c : ¬ (((i + 1 : Nat) : Int) < (a.length : Int)) := by omega
        simp only [runs_edges_AndNot_1_l1, c, decide_false, cond_false]
      | cons y u =>
        rw [h'] at h3
        obtain ⟨g1, g2, g3⟩ := drop_cons h3 (0 : Int)
        have c : (((i + 1 : Nat) : Int) < (a.length : Int)) := by omega
        have c0 : (0 : Int) ≤ ((i + 1 : Nat) : Int) := by omega
        rw [h'] at hs
        have := ht x s h
        have := hs.2.2.1
        have q2 : ¬ y ≤ t := by omega
        simp only [runs_edges_AndNot_1_l1, c, c0, decide_true, cond_true, Int.toNat_natCast, g2, q2, decide_false, cond_false]
    · simp only [q, decide_false, cond_false, if_false, Nat.add_zero]
theorem runs_edges_AndNot_1_l2_eq {k : Nat} {r : List Run} {a b : List Int} {on : Bool} {fr : Int} {i : Int} {j : Nat} {t m : Int} (hi : j ≤ b.length) (hs : srt m (b.drop j)) (ht : ∀ x s, b.drop j = x :: s → t ≤ x) (hb : b.length < 1000000000) :
    runs_edges_AndNot_1_l2 (k + 2) r a b on fr i j t = some (r, a, b, on, fr, i, ((j + adv (b.drop j) t : Nat) : Int), t) := by
  cases h : b.drop j with
  | nil =>
    have := drop_nil h hi
    have c : ¬ ((j : Int) < (b.length : Int)) := by omega
    simp only [runs_edges_AndNot_1_l2, adv, c, decide_false, cond_false, Nat.add_zero]
  | cons x s =>
    obtain ⟨h1, h2, h3⟩ := drop_cons h (0 : Int)
    rw [h] at hs
    have c : ((j : Int) < (b.length : Int)) := by omega
    have c0 : (0 : Int) ≤ (j : Int) := by omega
    rw [runs_edges_AndNot_1_l2]
    simp only [c, c0, decide_true, cond_true, Int.toNat_natCast, h2, adv]
    by_cases q : x ≤ t
    · rw [i64_in _ ⟨by omega, by omega⟩, show ((j : Int) + 1) = ((j + 1 : Nat) : Int) by omega]
      simp only [q, decide_true, cond_true, if_true]
      cases h' : s with
      | nil =>
        rw [h'] at h3
        have := drop_nil h3 (by omega)
        have c : ¬ (((j + 1 : Nat) : Int) < (b.length : Int)) := by omega
        simp only [runs_edges_AndNot_1_l2, c, decide_false, cond_false]
      | cons y u =>
        rw [h'] at h3
        obtain ⟨g1, g2, g3⟩ := drop_cons h3 (0 : Int)
        have c : (((j + 1 : Nat) : Int) < (b.length : Int)) := by omega
        have c0 : (0 : Int) ≤ ((j + 1 : Nat) : Int) := by omega
        rw [h'] at hs
        have := ht x s h
        have := hs.2.2.1
        have q2 : ¬ y ≤ t := by omega
        simp only [runs_edges_AndNot_1_l2, c, c0, decide_true, cond_true, Int.toNat_natCast, g2, q2, decide_false, cond_false]
    · simp only [q, decide_false, cond_false, if_false, Nat.add_zero]
theorem runs_edges_AndNot_1_turn {a b : List Int} (ha : a.length < 1000000) (hb : b.length < 1000000) {k : Nat} {m : Int} {r : List Run} {on : Bool} {fr : Int} {i j : Nat} (hk : 2 ≤ k) (h : EInv (fun x y => x && !y) a b m r on fr i j) :
    runs_edges_AndNot_1_l0 (k + 1) r a b on fr i j = Turn (fun x y => x && !y) a b (fun k r on fr i j => runs_edges_AndNot_1_l0 k r a b on fr i j) k r on fr i j := by
  obtain ⟨k, rfl⟩ : ∃ k', k = k' + 2 := ⟨k - 2, by omega⟩
  have hC : ∀ x y, runs_AndNot_1 (k + 2) x y = some ((fun x y => x && !y) x y) := by intro x y; cases x <;> cases y <;> rfl
  have lr := h.len
  have ia := h.ia
  have jb := h.jb
  have m0 := h.m0
  have fin : ∀ (t : Int), m ≤ t → t ≤ 65536 → (∀ x s, a.drop i = x :: s → t ≤ x) → (∀ x s, b.drop j = x :: s → t ≤ x) →
      ((runs_edges_AndNot_1_l1 (k + 2) r a b on fr i j t).bind fun y160 =>
                  (runs_edges_AndNot_1_l2 (k + 2) y160.1 y160.2.1 y160.2.2.1 y160.2.2.2.1 y160.2.2.2.2.1 y160.2.2.2.2.2.1 y160.2.2.2.2.2.2.1 y160.2.2.2.2.2.2.2).bind fun y161 =>
                  (runs_AndNot_1 (k + 2) (decide ((y161.2.2.2.2.2.1.tmod 2) = 1)) (decide ((y161.2.2.2.2.2.2.1.tmod 2) = 1))).bind fun y166 =>
                  bif (y166 == y161.2.2.2.1) then
                    runs_edges_AndNot_1_l0 (k + 2) y161.1 y161.2.1 y161.2.2.1 y161.2.2.2.1 y161.2.2.2.2.1 y161.2.2.2.2.2.1 y161.2.2.2.2.2.2.1
                  else
                    bif y161.2.2.2.1 then
                      let v168 := IntKind.wrap .u16 y161.2.2.2.2.1
                      let v170 := IntKind.wrap .i64 ((IntKind.wrap .i64 (y161.2.2.2.2.2.2.2 - y161.2.2.2.2.1)) - 1)
                      bif decide ((List.length y161.1 + List.length [(v168, (IntKind.wrap .u16 v170))]) * 4 ≤ 140737488355328) then
                        bif decide (List.length y161.1 + List.length [(v168, (IntKind.wrap .u16 v170))] ≤ 140737488355328) then
                          runs_edges_AndNot_1_l0 (k + 2) (y161.1 ++ [(v168, (IntKind.wrap .u16 v170))]) y161.2.1 y161.2.2.1 y166 y161.2.2.2.2.2.2.2 y161.2.2.2.2.2.1 y161.2.2.2.2.2.2.1
                        else none
                      else none
                    else
                      runs_edges_AndNot_1_l0 (k + 2) y161.1 y161.2.1 y161.2.2.1 y166 y161.2.2.2.2.2.2.2 y161.2.2.2.2.2.1 y161.2.2.2.2.2.2.1) =
      (bif ((fun x y => x && !y) (od (i + adv (a.drop i) t)) (od (j + adv (b.drop j) t)) == on) then runs_edges_AndNot_1_l0 (k + 2) r a b on fr ((i + adv (a.drop i) t : Nat) : Int) ((j + adv (b.drop j) t : Nat) : Int)
       else bif on then runs_edges_AndNot_1_l0 (k + 2) (r ++ [(fr, t - fr - 1)]) a b ((fun x y => x && !y) (od (i + adv (a.drop i) t)) (od (j + adv (b.drop j) t))) t ((i + adv (a.drop i) t : Nat) : Int) ((j + adv (b.drop j) t : Nat) : Int)
       else runs_edges_AndNot_1_l0 (k + 2) r a b ((fun x y => x && !y) (od (i + adv (a.drop i) t)) (od (j + adv (b.drop j) t))) t ((i + adv (a.drop i) t : Nat) : Int) ((j + adv (b.drop j) t : Nat) : Int)) := by
    intro t ht0 ht1 hta htb
    rw [runs_edges_AndNot_1_l1_eq ia h.sa hta (by omega)]
    simp only [Option.bind_some]
    rw [runs_edges_AndNot_1_l2_eq jb h.sb htb (by omega)]
    simp only [Option.bind_some, od_tmod, hC]
    have g1 : decide ((r.length + 1) * 4 ≤ 140737488355328) = true := by simp; omega
    have g2 : decide (r.length + 1 ≤ 140737488355328) = true := by simp; omega
    simp only [List.length_cons, List.length_nil, Nat.zero_add, g1, g2, cond_true]
    cases on with
    | false => simp only [cond_false]
    | true =>
      obtain ⟨f1, f2, f3⟩ := h.fr' rfl
      simp only [cond_true]
      rw [i64_in (t - fr) ⟨by omega, by omega⟩, i64_in (t - fr - 1) ⟨by omega, by omega⟩, u16_in fr ⟨by omega, by omega⟩, u16_in (t - fr - 1) ⟨by omega, by omega⟩]
  unfold Turn
  rw [runs_edges_AndNot_1_l0]
  have sa := h.sa
  have sb := h.sb
  cases e1 : a.drop i with
  | nil =>
    have i1 := drop_nil e1 ia
    have c1 : ¬ ((i : Int) < (a.length : Int)) := by omega
    cases e2 : b.drop j with
    | nil =>
      have j1 := drop_nil e2 jb
      have c2 : ¬ ((j : Int) < (b.length : Int)) := by omega
      simp only [c1, c2, decide_false, cond_false]
    | cons y u =>
      obtain ⟨g1, g2, g3⟩ := drop_cons e2 (0 : Int)
      have c2 : ((j : Int) < (b.length : Int)) := by omega
      have c3 : (0 : Int) ≤ (j : Int) := by omega
      rw [e2] at sb
      have ly := srt_low sb
      have hm : min 65537 y = y := by omega
      simp only [c1, c2, c3, decide_false, cond_false, decide_true, cond_true, Int.toNat_natCast, g2, hm, edgeAt]
      rw [fin y ly.1 ly.2 (fun x s e => by rw [e1] at e; cases e) (fun x s e => by rw [e2] at e; cases e; exact Int.le_refl _), e1, e2]
  | cons x s =>
    obtain ⟨p1, p2, p3⟩ := drop_cons e1 (0 : Int)
    have c1 : ((i : Int) < (a.length : Int)) := by omega
    have c0 : (0 : Int) ≤ (i : Int) := by omega
    rw [e1] at sa
    have lx := srt_low sa
    cases e2 : b.drop j with
    | nil =>
      have j1 := drop_nil e2 jb
      have c2 : ¬ ((j : Int) < (b.length : Int)) := by omega
      simp only [c1, c2, c0, decide_false, cond_false, decide_true, cond_true, Int.toNat_natCast, p2, edgeAt]
      rw [fin x lx.1 lx.2 (fun x s e => by rw [e1] at e; cases e; exact Int.le_refl _) (fun x s e => by rw [e2] at e; cases e), e1, e2]
    | cons y u =>
      obtain ⟨g1, g2, g3⟩ := drop_cons e2 (0 : Int)
      have c2 : ((j : Int) < (b.length : Int)) := by omega
      have c3 : (0 : Int) ≤ (j : Int) := by omega
      rw [e2] at sb
      have ly := srt_low sb
      simp only [c1, c2, c0, c3, decide_true, cond_true, Int.toNat_natCast, p2, g2, edgeAt]
      rw [fin (min x y) (by omega) (by omega) (fun x s e => by rw [e1] at e; cases e; omega) (fun x s e => by rw [e2] at e; cases e; omega), e1, e2]
theorem runs_edges_AndNot_1_good {k : Nat} {a b : List Int} (za : srt 0 a) (zb : srt 0 b) (ea : od a.length = false) (eb : od b.length = false) (ha : a.length < 1000000) (hb : b.length < 1000000) (hk : a.length + b.length + 3 ≤ k) :
    ∃ r, runs_edges_AndNot_1 k a b = some r ∧ Good (fun x y => x && !y) a b r := by
  obtain ⟨r, h1, h2⟩ := walk_all (op := (fun x y => x && !y)) (L := fun k r on fr i j => runs_edges_AndNot_1_l0 k r a b on fr i j) (K := 2) rfl za zb ea eb (fun k m r on fr i j hk h => runs_edges_AndNot_1_turn ha hb hk h) k (by omega)
  refine ⟨r, ?_, h2⟩
  have h1 : runs_edges_AndNot_1_l0 k [] a b false 0 0 0 = some r := h1
  unfold runs_edges_AndNot_1
  rw [h1]
  rfl


theorem runs_edges_Xor_1_l1_eq {k : Nat} {r : List Run} {a b : List Int} {on : Bool} {fr : Int} {i j : Nat} {t m : Int} (hi : i ≤ a.length) (hs : srt m (a.drop i)) (ht : ∀ x s, a.drop i = x :: s → t ≤ x) (hb : a.length < 1000000000) :
    runs_edges_Xor_1_l1 (k + 2) r a b on fr i j t = some (r, a, b, on, fr, ((i + adv (a.drop i) t : Nat) : Int), (j : Int), t) := by
  cases h : a.drop i with
  | nil =>
    have := drop_nil h hi
    have c : ¬ ((i : Int) < (a.length : Int)) := by omega
    simp only [runs_edges_Xor_1_l1, adv, c, decide_false, cond_false, Nat.add_zero]
  | cons x s =>
    obtain ⟨h1, h2, h3⟩ := drop_cons h (0 : Int)
    rw [h] at hs
    have c : ((i : Int) < (a.length : Int)) := by omega
    have c0 : (0 : Int) ≤ (i : Int) := by omega
    rw [runs_edges_Xor_1_l1]
    simp only [c, c0, decide_true, cond_true, Int.toNat_natCast, h2, adv]
    by_cases q : x ≤ t
    · rw [i64_in _ ⟨by omega, by omega⟩, show ((i : Int) + 1) = ((i + 1 : Nat) : Int) by omega]
      simp only [q, decide_true, cond_true, if_true]
      cases h' : s with
      | nil =>
        rw [h'] at h3
        have := drop_nil h3 (by omega)
        have c : ¬ (((i + 1 : Nat) : Int) < (a.length : Int)) := by omega
        simp only [runs_edges_Xor_1_l1, c, decide_false, cond_false]
      | cons y u =>
        rw [h'] at h3
        obtain ⟨g1, g2, g3⟩ := drop_cons h3 (0 : Int)
        have c : (((i + 1 : Nat) : Int) < (a.length : Int)) := by omega
        have c0 : (0 : Int) ≤ ((i + 1 : Nat) : Int) := by omega
        rw [h'] at hs
        have := ht x s h
        have := hs.2.2.1
        have q2 : ¬ y ≤ t := by omega
        simp only [runs_edges_Xor_1_l1, c, c0, decide_true, cond_true, Int.toNat_natCast, g2, q2, decide_false, cond_false]
    · simp only [q, decide_false, cond_false, if_false, Nat.add_zero]
theorem runs_edges_Xor_1_l2_eq {k : Nat} {r : List Run} {a b : List Int} {on : Bool} {fr : Int} {i : Int} {j : Nat} {t m : Int} (hi : j ≤ b.length) (hs : srt m (b.drop j)) (ht : ∀ x s, b.drop j = x :: s → t ≤ x) (hb : b.length < 1000000000) :
    runs_edges_Xor_1_l2 (k + 2) r a b on fr i j t = some (r, a, b, on, fr, i, ((j + adv (b.drop j) t : Nat) : Int), t) := by
  cases h : b.drop j with
  | nil =>
    have := drop_nil h hi
    have c : ¬ ((j : Int) < (b.length : Int)) := by omega
    simp only [runs_edges_Xor_1_l2, adv, c, decide_false, cond_false, Nat.add_zero]
  | cons x s =>
    obtain ⟨h1, h2, h3⟩ := drop_cons h (0 : Int)
    rw [h] at hs
    have c : ((j : Int) < (b.length : Int)) := by omega
    have c0 : (0 : Int) ≤ (j : Int) := by omega
    rw [runs_edges_Xor_1_l2]
    simp only [c, c0, decide_true, cond_true, Int.toNat_natCast, h2, adv]
    by_cases q : x ≤ t
    · rw [i64_in _ ⟨by omega, by omega⟩, show ((j : Int) + 1) = ((j + 1 : Nat) : Int) by omega]
      simp only [q, decide_true, cond_true, if_true]
      cases h' : s with
      | nil =>
        rw [h'] at h3
        have := drop_nil h3 (by omega)
        have c : ¬ (((j + 1 : Nat) : Int) < (b.length : Int)) := by omega
        simp only [runs_edges_Xor_1_l2, c, decide_false, cond_false]
      | cons y u =>
        rw [h'] at h3
        obtain ⟨g1, g2, g3⟩ := drop_cons h3 (0 : Int)
        have c : (((j + 1 : Nat) : Int) < (b.length : Int)) := by omega
        have c0 : (0 : Int) ≤ ((j + 1 : Nat) : Int) := by omega
        rw [h'] at hs
        have := ht x s h
        have := hs.2.2.1
        have q2 : ¬ y ≤ t := by omega
        simp only [runs_edges_Xor_1_l2, c, c0, decide_true, cond_true, Int.toNat_natCast, g2, q2, decide_false, cond_false]
    · simp only [q, decide_false, cond_false, if_false, Nat.add_zero]
theorem runs_edges_Xor_1_turn {a b : List Int} (ha : a.length < 1000000) (hb : b.length < 1000000) {k : Nat} {m : Int} {r : List Run} {on : Bool} {fr : Int} {i j : Nat} (hk : 2 ≤ k) (h : EInv (fun x y => x != y) a b m r on fr i j) :
    runs_edges_Xor_1_l0 (k + 1) r a b on fr i j = Turn (fun x y => x != y) a b (fun k r on fr i j => runs_edges_Xor_1_l0 k r a b on fr i j) k r on fr i j := by
  obtain ⟨k, rfl⟩ : ∃ k', k = k' + 2 := ⟨k - 2, by omega⟩
  have hC : ∀ x y, runs_Xor_1 (k + 2) x y = some ((fun x y => x != y) x y) := by intro x y; cases x <;> cases y <;> rfl
  have lr := h.len
  have ia := h.ia
  have jb := h.jb
  have m0 := h.m0
  have fin : ∀ (t : Int), m ≤ t → t ≤ 65536 → (∀ x s, a.drop i = x :: s → t ≤ x) → (∀ x s, b.drop j = x :: s → t ≤ x) →
      ((runs_edges_Xor_1_l1 (k + 2) r a b on fr i j t).bind fun y160 =>
                  (runs_edges_Xor_1_l2 (k + 2) y160.1 y160.2.1 y160.2.2.1 y160.2.2.2.1 y160.2.2.2.2.1 y160.2.2.2.2.2.1 y160.2.2.2.2.2.2.1 y160.2.2.2.2.2.2.2).bind fun y161 =>
                  (runs_Xor_1 (k + 2) (decide ((y161.2.2.2.2.2.1.tmod 2) = 1)) (decide ((y161.2.2.2.2.2.2.1.tmod 2) = 1))).bind fun y166 =>
                  bif (y166 == y161.2.2.2.1) then
                    runs_edges_Xor_1_l0 (k + 2) y161.1 y161.2.1 y161.2.2.1 y161.2.2.2.1 y161.2.2.2.2.1 y161.2.2.2.2.2.1 y161.2.2.2.2.2.2.1
                  else
                    bif y161.2.2.2.1 then
                      let v168 := IntKind.wrap .u16 y161.2.2.2.2.1
                      let v170 := IntKind.wrap .i64 ((IntKind.wrap .i64 (y161.2.2.2.2.2.2.2 - y161.2.2.2.2.1)) - 1)
                      bif decide ((List.length y161.1 + List.length [(v168, (IntKind.wrap .u16 v170))]) * 4 ≤ 140737488355328) then
                        bif decide (List.length y161.1 + List.length [(v168, (IntKind.wrap .u16 v170))] ≤ 140737488355328) then
                          runs_edges_Xor_1_l0 (k + 2) (y161.1 ++ [(v168, (IntKind.wrap .u16 v170))]) y161.2.1 y161.2.2.1 y166 y161.2.2.2.2.2.2.2 y161.2.2.2.2.2.1 y161.2.2.2.2.2.2.1
                        else none
                      else none
                    else
                      runs_edges_Xor_1_l0 (k + 2) y161.1 y161.2.1 y161.2.2.1 y166 y161.2.2.2.2.2.2.2 y161.2.2.2.2.2.1 y161.2.2.2.2.2.2.1) =
      (bif ((fun x y => x != y) (od (i + adv (a.drop i) t)) (od (j + adv (b.drop j) t)) == on) then runs_edges_Xor_1_l0 (k + 2) r a b on fr ((i + adv (a.drop i) t : Nat) : Int) ((j + adv (b.drop j) t : Nat) : Int)
       else bif on then runs_edges_Xor_1_l0 (k + 2) (r ++ [(fr, t - fr - 1)]) a b ((fun x y => x != y) (od (i + adv (a.drop i) t)) (od (j + adv (b.drop j) t))) t ((i + adv (a.drop i) t : Nat) : Int) ((j + adv (b.drop j) t : Nat) : Int)
       else runs_edges_Xor_1_l0 (k + 2) r a b ((fun x y => x != y) (od (i + adv (a.drop i) t)) (od (j + adv (b.drop j) t))) t ((i + adv (a.drop i) t : Nat) : Int) ((j + adv (b.drop j) t : Nat) : Int)) := by
    intro t ht0 ht1 hta htb
    rw [runs_edges_Xor_1_l1_eq ia h.sa hta (by omega)]
    simp only [Option.bind_some]
    rw [runs_edges_Xor_1_l2_eq jb h.sb htb (by omega)]
    simp only [Option.bind_some, od_tmod, hC]
    have g1 : decide ((r.length + 1) * 4 ≤ 140737488355328) = true := by simp; omega
    have g2 : decide (r.length + 1 ≤ 140737488355328) = true := by simp; omega
    simp only [List.length_cons, List.length_nil, Nat.zero_add, g1, g2, cond_true]
    cases on with
    | false => simp only [cond_false]
    | true =>
      obtain ⟨f1, f2, f3⟩ := h.fr' rfl
      simp only [cond_true]
      rw [i64_in (t - fr) ⟨by omega, by omega⟩, i64_in (t - fr - 1) ⟨by omega, by omega⟩, u16_in fr ⟨by omega, by omega⟩, u16_in (t - fr - 1) ⟨by omega, by omega⟩]
  unfold Turn
  rw [runs_edges_Xor_1_l0]
  have sa := h.sa
  have sb := h.sb
  cases e1 : a.drop i with
  | nil =>
    have i1 := drop_nil e1 ia
    have c1 : ¬ ((i : Int) < (a.length : Int)) := by omega
    cases e2 : b.drop j with
    | nil =>
      have j1 := drop_nil e2 jb
      have c2 : ¬ ((j : Int) < (b.length : Int)) := by omega
      simp only [c1, c2, decide_false, cond_false]
    | cons y u =>
      obtain ⟨g1, g2, g3⟩ := drop_cons e2 (0 : Int)
      have c2 : ((j : Int) < (b.length : Int)) := by omega
      have c3 : (0 : Int) ≤ (j : Int) := by omega
      rw [e2] at sb
      have ly := srt_low sb
      have hm : min 65537 y = y := by omega
      simp only [c1, c2, c3, decide_false, cond_false, decide_true, cond_true, Int.toNat_natCast, g2, hm, edgeAt]
      rw [fin y ly.1 ly.2 (fun x s e => by rw [e1] at e; cases e) (fun x s e => by rw [e2] at e; cases e; exact Int.le_refl _), e1, e2]
  | cons x s =>
    obtain ⟨p1, p2, p3⟩ := drop_cons e1 (0 : Int)
    have c1 : ((i : Int) < (a.length : Int)) := by omega
    have c0 : (0 : Int) ≤ (i : Int) := by omega
    rw [e1] at sa
    have lx := srt_low sa
    cases e2 : b.drop j with
    | nil =>
      have j1 := drop_nil e2 jb
      have c2 : ¬ ((j : Int) < (b.length : Int)) := by omega
      simp only [c1, c2, c0, decide_false, cond_false, decide_true, cond_true, Int.toNat_natCast, p2, edgeAt]
      rw [fin x lx.1 lx.2 (fun x s e => by rw [e1] at e; cases e; exact Int.le_refl _) (fun x s e => by rw [e2] at e; cases e), e1, e2]
    | cons y u =>
      obtain ⟨g1, g2, g3⟩ := drop_cons e2 (0 : Int)
      have c2 : ((j : Int) < (b.length : Int)) := by omega
      have c3 : (0 : Int) ≤ (j : Int) := by omega
      rw [e2] at sb
      have ly := srt_low sb
      simp only [c1, c2, c0, c3, decide_true, cond_true, Int.toNat_natCast, p2, g2, edgeAt]
      rw [fin (min x y) (by omega) (by omega) (fun x s e => by rw [e1] at e; cases e; omega) (fun x s e => by rw [e2] at e; cases e; omega), e1, e2]
theorem runs_edges_Xor_1_good {k : Nat} {a b : List Int} (za : srt 0 a) (zb : srt 0 b) (ea : od a.length = false) (eb : od b.length = false) (ha : a.length < 1000000) (hb : b.length < 1000000) (hk : a.length + b.length + 3 ≤ k) :
    ∃ r, runs_edges_Xor_1 k a b = some r ∧ Good (fun x y => x != y) a b r := by
  obtain ⟨r, h1, h2⟩ := walk_all (op := (fun x y => x != y)) (L := fun k r on fr i j => runs_edges_Xor_1_l0 k r a b on fr i j) (K := 2) rfl za zb ea eb (fun k m r on fr i j hk h => runs_edges_Xor_1_turn ha hb hk h) k (by omega)
  refine ⟨r, ?_, h2⟩
  have h1 : runs_edges_Xor_1_l0 k [] a b false 0 0 0 = some r := h1
  unfold runs_edges_Xor_1
  rw [h1]
  rfl

end Go.Rx.Tryd

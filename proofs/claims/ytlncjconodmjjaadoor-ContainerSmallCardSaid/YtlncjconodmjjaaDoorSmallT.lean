/- ContainerSmall's pure function answers true. -/
import Derived.Test.YtlncjconodmjjaaDoorContE
import Derived.KernelRfl
namespace Go.Rx.Tryd
open Go.Rx.Plain Go.IntWalk
set_option linter.unusedVariables false
set_option linter.unusedSimpArgs false
theorem known_small : isinglasslaw07_known 400000 = some true := by kernel_rfl
theorem CSize {c : Cont} {f : Int → Bool} {k : Nat} (hs : Sup f) (h : IsC c f) : container_Container_Size k c = some (if max c.1 1 = 2 then 8192 else if max c.1 1 = 3 then 2 + 4 * rF f else 2 * nF f) := by
  have b1 := nF_bound f
  have b2 := rF_bound f
  unfold container_Container_Size
  cases h with
  | arr h =>
    have hn : ((mem f).length : Int) = nF f := rfl
    have w3 : IntKind.wrap .i64 (2 * nF f) = 2 * nF f := i64_in _ ⟨by omega, by omega⟩
    generalize mem f = l at hn
    generalize nF f = n at *
    generalize rF f = m at *
    rcases h with h | h
    · subst h
      rw [show max (0 : Int) 1 = 1 from rfl, if_neg (by omega), if_neg (by omega)]
      simp only [show ¬ (0 : Int) = 2 by omega, show ¬ (0 : Int) = 3 by omega, decide_false, cond_false, hn, w3]
    · subst h
      rw [show max (1 : Int) 1 = 1 from rfl, if_neg (by omega), if_neg (by omega)]
      simp only [show ¬ (1 : Int) = 2 by omega, show ¬ (1 : Int) = 3 by omega, decide_false, cond_false, hn, w3]
  | wrd hW h =>
    rw [show max (2 : Int) 1 = 2 from rfl, if_pos rfl]
    rfl
  | run hm hw h =>
    have hr := (runs_facts hm hw h).2.1
    generalize nF f = n at *
    generalize rF f = m at *
    have w1 : IntKind.wrap .i64 (4 * m) = 4 * m := i64_in _ ⟨by omega, by omega⟩
    have w2 : IntKind.wrap .i64 (2 + 4 * m) = 2 + 4 * m := i64_in _ ⟨by omega, by omega⟩
    rw [show max (3 : Int) 1 = 3 from rfl, if_neg (by omega), if_pos rfl]
    simp only [show ¬ (3 : Int) = 2 by omega, decide_true, decide_false, cond_true, cond_false, hr, w1, w2]
theorem nF_congr {f g : Int → Bool} (h : ∀ x, 0 ≤ x → x < 65536 → f x = g x) : nF f = nF g := by
  unfold nF
  rw [mem_def, mem_def, memI_congr fun x h1 h2 => h x h1 (by omega)]
theorem memI_count (f : Int → Bool) (n : Nat) : (memI f 0 n).length = (List.range n).countP fun (j : Nat) => f (j : Int) := by
  unfold memI
  rw [List.length_map, ← List.countP_eq_length_filter]
  simp only [Int.zero_add]
theorem memI_add (f : Int → Bool) (n : Nat) : (memI f 0 n).length + (memI (fun x => !f x) 0 n).length = n := by
  rw [memI_count, memI_count]
  have := List.length_eq_countP_add_countP (fun (j : Nat) => f (j : Int)) (l := List.range n)
  rw [List.length_range] at this
  have e : (List.range n).countP (fun (j : Nat) => decide (¬ f (j : Int) = true)) = (List.range n).countP (fun (j : Nat) => !f (j : Int)) := List.countP_congr fun j hj => by simp
  rw [e] at this
  omega
theorem nF_add (f : Int → Bool) : nF f + nF (fun x => !f x) = 65536 := by
  unfold nF
  rw [mem_def, mem_def]
  have := memI_add f 65536
  omega
theorem nF_false {f : Int → Bool} (h : ∀ x, 0 ≤ x → x < 65536 → f x = false) : nF f = 0 := by
  unfold nF
  rw [mem_def, memI_none fun x h1 h2 => h x h1 (by omega)]
  rfl
theorem nF_true {f : Int → Bool} (h : ∀ x, 0 ≤ x → x < 65536 → f x = true) : nF f = 65536 := by
  have := nF_add f
  rw [nF_false (f := fun x => !f x) fun x h1 h2 => by rw [h x h1 h2]; rfl] at this
  omega
theorem fx_all {f : Int → Bool} {x : Int} (h0 : 0 ≤ x) (h1 : x < 65536) : fx f 0 65536 x = !f x := by
  unfold fx
  rw [decide_eq_true (by omega), decide_eq_true (by omega)]
  cases f x <;> rfl
theorem fx_twice (f : Int → Bool) (lo hi : Int) : fx (fx f lo hi) lo hi = f := by
  funext x
  unfold fx
  cases f x <;> cases (decide (max lo 0 ≤ x) && decide (x < min hi 65536)) <;> rfl
theorem small_size {c n r : Int} (hk : c = kF n r) (h0 : 0 ≤ n) (h1 : 0 ≤ r) : (if c = 2 then (8192 : Int) else if c = 3 then 2 + 4 * r else 2 * n) = (if n ≤ 4096 then min (min 8192 (2 + 4 * r)) (2 * n) else min 8192 (2 + 4 * r)) ∧ (if c = 2 then (8192 : Int) else if c = 3 then 2 + 4 * r else 2 * n) ≤ 8192 := by
  unfold kF at hk
  by_cases q1 : n ≤ 4096
  · simp only [if_pos q1] at hk ⊢
    by_cases q2 : 2 + 4 * r < 2 * n
    · rw [if_pos q2] at hk
      subst hk
      rw [if_neg (by decide), if_pos rfl]
      omega
    · rw [if_neg q2] at hk
      subst hk
      rw [if_neg (by decide), if_neg (by decide)]
      omega
  · simp only [if_neg q1] at hk ⊢
    by_cases q2 : 2 + 4 * r < 8192
    · rw [if_pos q2] at hk
      subst hk
      rw [if_neg (by decide), if_pos rfl]
      omega
    · rw [if_neg q2] at hk
      subst hk
      rw [if_pos rfl]
      omega
theorem small {a : List Int} {lo hi : Int} (ha : ∀ y, y ∈ a → 0 ≤ y ∧ y < 65536) : isinglasslaw07_ContainerSmall 400000 a lo hi = some true := by
  unfold isinglasslaw07_ContainerSmall
  by_cases la : (1000 : Int) < (a.length : Int)
  · rw [decide_eq_true la]
    simp only [cond_true, known_small, Option.bind_some]
  rw [decide_eq_false la]
  simp only [cond_false]
  have hs := setL_sup ha
  obtain ⟨M, e, hM⟩ := IsM.of (k := 400000) ha (by omega) (by omega)
  obtain ⟨W, w1, w2, w3⟩ := RWords_eq (k := 400000) hM (by omega)
  have hc := IsC.wrd (a := []) (r := []) w2 w3
  generalize setL a = f at *
  obtain ⟨d, d1, d2, d3⟩ := CFlip (k := 400000) (lo := lo) (hi := hi) hs hc (by omega)
  have hsg := fx_sup hs lo hi
  have tw := fx_twice f lo hi
  generalize hgg : fx f lo hi = g at *
  obtain ⟨r, r1, r2, r3, r4⟩ := CRuns (k := 400000) hsg d2 (by omega)
  have rl := (runs_facts r2 r3 r4).2.1
  have dl := CLen (k := 400000) hsg d2 (by omega)
  have ds := CSize (k := 400000) hsg d2
  have b1 := nF_bound g
  have b2 := rF_bound g
  obtain ⟨s1, s2⟩ := small_size d3 b1.1 b2.1
  obtain ⟨x, x1, x2, x3⟩ := CFlip (k := 400000) (lo := lo) (hi := hi) hsg d2 (by omega)
  rw [tw] at x2
  obtain ⟨y, y1, y2, y3⟩ := CFlip (k := 400000) (lo := 0) (hi := 65536) hsg d2 (by omega)
  have hsh := fx_sup hsg 0 65536
  have n1 : nF (fx g 0 65536) = 65536 - nF g := by
    have := nF_add g
    rw [nF_congr (f := fx g 0 65536) (g := fun x => !g x) fun x h0 h1 => fx_all h0 h1]
    omega
  have ax := CArray (k := 400000) hs x2 (by omega)
  have ac := CArray (k := 400000) hs hc (by omega)
  have same := SameM f (k := 400000) (by omega)
  have yl := CLen (k := 400000) hsh y2 (by omega)
  obtain ⟨u, u1, u2, u3⟩ := CAnd (k := 400000) hsh hsg y2 d2 (by omega)
  obtain ⟨v, v1, v2, v3⟩ := COr (k := 400000) hsh hsg y2 d2 (by omega)
  have ul := CLen (k := 400000) (sup_And hsh hsg) u2 (by omega)
  have vl := CLen (k := 400000) (sup_Or hsh hsg) v2 (by omega)
  rw [nF_false fun x h0 h1 => by rw [fx_all h0 h1]; cases g x <;> rfl] at ul
  rw [nF_true fun x h0 h1 => by rw [fx_all h0 h1]; cases g x <;> rfl] at vl
  have wr : IntKind.wrap .i64 (2 + IntKind.wrap .i64 (4 * rF g)) = 2 + 4 * rF g := by rw [i64_in (4 * rF g) ⟨by omega, by omega⟩, i64_in _ ⟨by omega, by omega⟩]
  have wn : IntKind.wrap .i64 (2 * nF g) = 2 * nF g := i64_in _ ⟨by omega, by omega⟩
  have wl : IntKind.wrap .i64 (65536 - nF g) = 65536 - nF g := i64_in _ ⟨by omega, by omega⟩
  rw [n1] at yl
  generalize (if max d.1 1 = 2 then (8192 : Int) else if max d.1 1 = 3 then 2 + 4 * rF g else 2 * nF g) = sz at *
  have s3 : ¬ (8192 : Int) < sz := by omega
  generalize nF g = n at *
  generalize rF g = m at *
  simp only [e, w1, OfWords_eq (k := 400000) w2, Option.bind_some, Bool.not_true, cond_false, d1, r1, rl, dl, ds, wr, wn, wl, x1, y1, ax, ac, same, cond_true, yl, decide_true, u1, v1, ul, vl, known_small, s3, decide_false]
  by_cases q : n ≤ 4096
  · rw [if_pos q] at s1
    simp only [decide_eq_true q, cond_true, decide_eq_true s1, Bool.not_true, cond_false]
  · rw [if_neg q] at s1
    simp only [decide_eq_false q, cond_false, decide_eq_true s1, Bool.not_true]
end Go.Rx.Tryd

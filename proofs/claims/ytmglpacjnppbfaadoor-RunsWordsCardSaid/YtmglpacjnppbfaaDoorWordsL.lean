/- RunsWords' pure function answers true. -/
import Derived.Test.YtmglpacjnppbfaaDoorWordsO
import Derived.Test.YtmglpacjnppbfaaDoorRunsLd
import Derived.KernelRfl
namespace Go.Rx.Tryd
open Go.Rx.Plain Go.IntWalk
set_option linter.unusedVariables false
set_option linter.unusedSimpArgs false
theorem known_big : isinglasslaw06_known 20000 = some true := by kernel_rfl
theorem RMay_l0_eq {r : List Run} (hw : wfR r) (hb : r.length < 1000000) : ∀ (rest : List Run) (k : Nat) (m : Int) (i : Nat), i ≤ r.length → r.drop i = rest → rest.length + 1 ≤ k → isinglassref06_May_l0 k r m i = some (bif mayF m rest then .inr () else .inl false)
  | [], 0, _, _, _, _, hk => by simp at hk
  | _ :: _, 0, _, _, _, _, hk => by simp at hk
  | [], k + 1, m, i, hi, h, hk => by
    have := drop_nil h hi
    have c : ¬ ((i : Int) < (r.length : Int)) := by omega
    simp only [isinglassref06_May_l0, c, decide_false, cond_false, mayF, cond_true]
  | x :: s, k + 1, m, i, hi, h, hk => by
    obtain ⟨h1, h2, h3⟩ := drop_cons h ((0 : Int), (0 : Int))
    have hx := wf_get hw h
    have c : ((i : Int) < (r.length : Int)) := by omega
    have c0 : (0 : Int) ≤ (i : Int) := by omega
    rw [isinglassref06_May_l0]
    simp only [c, c0, decide_true, cond_true, Int.toNat_natCast, h2, mayF]
    rw [i64_in x.1 ⟨by omega, by omega⟩, i64_in x.2 ⟨by omega, by omega⟩, i64_in (x.1 + x.2) ⟨by omega, by omega⟩, i64_in (i + 1) ⟨by omega, by omega⟩, i64_in (x.1 + x.2 + 2) ⟨by omega, by omega⟩, show ((i : Int) + 1) = ((i + 1 : Nat) : Int) by omega]
    rw [RMay_l0_eq hw hb s k _ (i + 1) (by omega) h3 (by simp at hk; omega)]
    by_cases q1 : x.1 < m
    · have : ¬ m ≤ x.1 := by omega
      simp [q1, this]
    · have q1' : m ≤ x.1 := by omega
      by_cases q2 : 65535 < x.1 + x.2
      · have : ¬ x.1 + x.2 < 65536 := by omega
        simp [q1, q2, this]
      · have q2' : x.1 + x.2 < 65536 := by omega
        simp only [q1, q2, q1', q2', decide_false, cond_false, decide_true, Bool.true_and]
theorem RMay_eq {r : List Run} {k : Nat} (hw : wfR r) (hb : r.length < 1000000) (hk : r.length + 1 ≤ k) : isinglassref06_May k r = some (mayF 0 r) := by
  unfold isinglassref06_May
  rw [show isinglassref06_May_l0 k r 0 0 = isinglassref06_May_l0 k r 0 ((0 : Nat) : Int) from rfl, RMay_l0_eq hw hb r k 0 0 (by omega) rfl hk]
  cases mayF 0 r <;> rfl
theorem RSame_l0_eq {a b : List Int} (hl : a.length = b.length) (hb : a.length < 1000000) : ∀ (rest : List Int) (k i : Nat), i ≤ a.length → a.drop i = rest → rest.length + 1 ≤ k → isinglassref04_Same_l0 k a b i = some (bif decide (rest = b.drop i) then .inr () else .inl false)
  | [], 0, _, _, _, hk => by simp at hk
  | _ :: _, 0, _, _, _, hk => by simp at hk
  | [], k + 1, i, hi, h, hk => by
    have h0 := drop_nil h hi
    have c : ¬ ((i : Int) < (a.length : Int)) := by omega
    have e : b.drop i = [] := List.drop_eq_nil_of_le (by omega)
    simp only [isinglassref04_Same_l0, c, decide_false, cond_false, e, decide_true, cond_true]
  | x :: s, k + 1, i, hi, h, hk => by
    obtain ⟨h1, h2, h3⟩ := drop_cons h (0 : Int)
    obtain ⟨y, t, hy⟩ : ∃ y t, b.drop i = y :: t := by
      cases e : b.drop i with
      | nil => have := drop_nil e (by omega); omega
      | cons y t => exact ⟨y, t, rfl⟩
    obtain ⟨g1, g2, g3⟩ := drop_cons hy (0 : Int)
    have c : ((i : Int) < (a.length : Int)) := by omega
    have c0 : (0 : Int) ≤ (i : Int) := by omega
    have c1 : ((i : Int) < (b.length : Int)) := by omega
    rw [isinglassref04_Same_l0]
    simp only [c, c0, c1, decide_true, cond_true, Int.toNat_natCast, h2, g2]
    rw [i64_in _ ⟨by omega, by omega⟩, show ((i : Int) + 1) = ((i + 1 : Nat) : Int) by omega]
    rw [RSame_l0_eq hl hb s k (i + 1) (by omega) h3 (by simp at hk; omega), g3, hy]
    by_cases q : x = y
    · subst q
      simp
    · simp [q]
theorem RSame_eq {a b : List Int} {k : Nat} (hb : a.length < 1000000) (hk : a.length + 1 ≤ k) : isinglassref04_Same k a b = some (decide (a = b)) := by
  unfold isinglassref04_Same
  by_cases hl : a.length = b.length
  · have c : decide ((a.length : Int) = (b.length : Int)) = true := by simp; omega
    rw [c]
    simp only [Bool.not_true, cond_false]
    rw [show isinglassref04_Same_l0 k a b 0 = isinglassref04_Same_l0 k a b ((0 : Nat) : Int) from rfl, RSame_l0_eq hl hb a k 0 (by omega) rfl hk, List.drop_zero]
    cases decide (a = b) <;> rfl
  · have c : decide ((a.length : Int) = (b.length : Int)) = false := by simp; omega
    have q : a ≠ b := fun e => hl (by rw [e])
    rw [c]
    simp [q]
theorem List_l1_eq {r : List Run} {n idx : Int} {p : Run} (hp : 0 ≤ p.1 ∧ p.1 < 65536 ∧ 0 ≤ p.2 ∧ p.2 < 65536) (he : p.1 + p.2 < 65536) : ∀ (d k : Nat) (x : Int) (acc : List Int), p.1 ≤ x → x + d = p.1 + p.2 + 1 → d + 1 ≤ k → acc.length + d ≤ 1000000 →
    runs_List_l1 k acc p.1 p.2 x r n idx = some (acc ++ (List.range d).map (fun (j : Nat) => x + (j : Int)), r, n, idx)
  | d, 0, x, acc, _, _, hk, _ => by omega
  | d, k + 1, x, acc, hx, hd, hk, ha => by
    rw [runs_List_l1, end_eq hp]
    rcases Nat.eq_zero_or_pos d with h0 | h0
    · subst h0
      have c : ¬ x < min (p.1 + p.2 + 1) 65536 := by omega
      simp [c]
    obtain ⟨d, rfl⟩ : ∃ d', d = d' + 1 := ⟨d - 1, by omega⟩
    have c : x < min (p.1 + p.2 + 1) 65536 := by omega
    have g1 : decide ((acc.length + 1) * 2 ≤ 140737488355328) = true := by simp; omega
    have g2 : decide (acc.length + 1 ≤ 140737488355328) = true := by simp; omega
    simp only [Option.bind_some, c, decide_true, cond_true, List.length_cons, List.length_nil, Nat.zero_add, g1, g2]
    rw [u16_in x ⟨by omega, by omega⟩, i64_in _ ⟨by omega, by omega⟩, List_l1_eq hp he d k (x + 1) _ (by omega) (by omega) (by omega) (by simp; omega)]
    rw [List.range_succ_eq_map]
    simp [Function.comp_def, Int.add_assoc, Int.add_comm 1]
theorem List_l0_eq {r : List Run} {K : Nat} (hK : 65540 ≤ K) (hw : wfR r) (hb : r.length < 1000000) : ∀ (rest : List Run) (k i : Nat) (m : Int) (acc : List Int), i ≤ r.length → r.drop i = rest → mayF m rest = true → rest.length + K ≤ k → (acc.length : Int) ≤ m → m ≤ 65537 →
    runs_List_l0 k acc r r.length i = some (acc ++ listR rest)
  | _, 0, _, _, _, _, _, _, hk, _, _ => by omega
  | [], k + 1, i, m, acc, hi, h, hm, hk, ha, hm2 => by
    have := drop_nil h hi
    have c : ¬ ((i : Int) < (r.length : Int)) := by omega
    simp only [runs_List_l0, c, decide_false, cond_false, listR, List.append_nil]
  | x :: s, k + 1, i, m, acc, hi, h, hm, hk, ha, hm2 => by
    obtain ⟨g1, g2, g3⟩ := mayF_cons.1 hm
    obtain ⟨h1, h2, h3⟩ := drop_cons h ((0 : Int), (0 : Int))
    have hx := wf_get hw h
    have c : ((i : Int) < (r.length : Int)) := by omega
    have c0 : (0 : Int) ≤ (i : Int) := by omega
    rw [runs_List_l0]
    simp only [c, c0, decide_true, cond_true, Int.toNat_natCast, h2]
    rw [i64_in x.1 ⟨by omega, by omega⟩, List_l1_eq hx g2 (x.2 + 1).toNat k x.1 acc (by omega) (by omega) (by simp at hk; omega) (by omega)]
    simp only [Option.bind_some]
    rw [i64_in _ ⟨by omega, by omega⟩, show ((i : Int) + 1) = ((i + 1 : Nat) : Int) by omega]
    rw [List_l0_eq hK hw hb s k (i + 1) _ _ (by omega) h3 g3 (by simp at hk; omega) (by simp; omega) (by omega)]
    simp [listR]
theorem List_eq {r : List Run} {k : Nat} (hm : mayF 0 r = true) (hw : wfR r) (hb : r.length < 1000000) (hk : r.length + 65540 ≤ k) : runs_List k r = some (listR r) := by
  unfold runs_List
  rw [show runs_List_l0 k [] r r.length 0 = runs_List_l0 k [] r r.length ((0 : Nat) : Int) from rfl, List_l0_eq (K := 65540) (by omega) hw hb r k 0 0 [] (by omega) rfl hm hk (by simp) (by omega)]
  simp
theorem of_l0_eq {r : List Run} (hw : wfR r) (hb : r.length < 1000000) : ∀ (rest : List Run) (k i : Nat) (m : Int) (W : List Nat), i ≤ r.length → r.drop i = rest → mayF m rest = true → rest.length + 1040 ≤ k → wfW W →
    ∃ W', isinglasslaw06_of_l0 k (up W) r r.length i = some (up W') ∧ wfW W' ∧ ∀ x, x < 65536 → hasW W' x = (hasW W x != hasB rest (x : Int))
  | _, 0, _, _, _, _, _, _, hk, _ => by omega
  | [], k + 1, i, m, W, hi, h, hm, hk, hW => by
    have := drop_nil h hi
    have c : ¬ ((i : Int) < (r.length : Int)) := by omega
    exact ⟨W, by simp only [isinglasslaw06_of_l0, c, decide_false, cond_false], hW, fun x _ => by rw [hasB_nil]; simp⟩
  | p :: s, k + 1, i, m, W, hi, h, hm, hk, hW => by
    obtain ⟨g1, g2, g3⟩ := mayF_cons.1 hm
    obtain ⟨h1, h2, h3⟩ := drop_cons h ((0 : Int), (0 : Int))
    have hx := wf_get hw h
    have hws : wfR s := fun q hq => hw q (List.mem_of_mem_drop (by rw [h]; simp [hq]))
    have c : ((i : Int) < (r.length : Int)) := by omega
    have c0 : (0 : Int) ≤ (i : Int) := by omega
    obtain ⟨W1, e1, w1, f1⟩ := WFlip_eq (lo := p.1) (hi := p.1 + p.2 + 1) (k := k) hW (by simp at hk; omega)
    obtain ⟨W2, e2, w2, f2⟩ := of_l0_eq hw hb s k (i + 1) _ W1 (by omega) h3 g3 (by simp at hk; omega) w1
    refine ⟨W2, ?_, w2, fun x hx2 => ?_⟩
    · rw [isinglasslaw06_of_l0]
      simp only [c, c0, decide_true, cond_true, Int.toNat_natCast, h2]
      rw [i64_in p.1 ⟨by omega, by omega⟩, i64_in p.2 ⟨by omega, by omega⟩, i64_in (p.1 + p.2) ⟨by omega, by omega⟩, i64_in (p.1 + p.2 + 1) ⟨by omega, by omega⟩, e1]
      simp only [Option.bind_some]
      rw [i64_in _ ⟨by omega, by omega⟩, show ((i : Int) + 1) = ((i + 1 : Nat) : Int) by omega]
      exact e2
    · rw [f2 x hx2, f1 x hx2, hasB_cons]
      have lo := may_low (x := (x : Int)) g3 hws
      have e3 : (decide (max p.1 0 ≤ (x : Int)) && decide ((x : Int) < min (p.1 + p.2 + 1) 65536)) = (decide (p.1 ≤ (x : Int)) && decide ((x : Int) ≤ p.1 + p.2)) := by
        rw [Bool.eq_iff_iff]
        simp
        omega
      rw [e3]
      by_cases q : p.1 ≤ (x : Int) ∧ (x : Int) ≤ p.1 + p.2
      · rw [lo (by omega)]
        simp [q.1, q.2]
      · have : (decide (p.1 ≤ (x : Int)) && decide ((x : Int) ≤ p.1 + p.2)) = false := by simp; omega
        rw [this]
        simp
theorem of_eq {r : List Run} {k : Nat} (hm : mayF 0 r = true) (hw : wfR r) (hb : r.length < 1000000) (hk : r.length + 1040 ≤ k) :
    ∃ W, isinglasslaw06_of k r = some (up W) ∧ wfW W ∧ ∀ x, x < 65536 → hasW W x = hasB r (x : Int) := by
  obtain ⟨W, e, w, f⟩ := of_l0_eq hw hb r k 0 0 _ (by omega) rfl hm hk zero_wf
  refine ⟨W, ?_, w, fun x hx => by rw [f x hx, zero_has]; simp⟩
  unfold isinglasslaw06_of words_Of
  obtain ⟨k, rfl⟩ : ∃ k', k = k' + 1 := ⟨k - 1, by omega⟩
  rw [words_Of_l0, replicate_up]
  have e' : isinglasslaw06_of_l0 (k + 1) (up (List.replicate 1024 0)) r r.length 0 = some (up W) := e
  have c : ¬ ((0 : Int) < (([] : List Int).length : Int)) := by simp
  simp only [c, decide_false, cond_false, decide_true, cond_true, Option.bind_some, Nat.le_refl]
  rw [e']
  rfl
/-- What is alike of one set as runs and as words. -/
theorem alike {r : List Run} {W : List Nat} (hm : mayF 0 r = true) (hw : wfR r) (hW : wfW W) (h : ∀ x, x < 65536 → hasW W x = hasB r (x : Int)) :
    listR r = castL (listW 0 W) ∧ (r.length : Int) = ((runsW 0 W : Nat) : Int) ∧ lenF r = ((lenW W : Nat) : Int) := by
  have hl : 64 * W.length = 65536 := by have := hW.1; omega
  have lo := fun x => may_low (x := x) hm hw
  have hi : ∀ x, 65536 ≤ x → hasB r x = false := fun x hx => has_top fun p hp => by
    have : ∀ {r : List Run} {m : Int}, mayF m r = true → ∀ p, p ∈ r → p.1 + p.2 < 65536 := by
      intro r
      induction r with
      | nil => intro m _ p hp; cases hp
      | cons q t ih =>
        intro m h p hp
        obtain ⟨h1, h2, h3⟩ := mayF_cons.1 h
        rcases List.mem_cons.1 hp with hp | hp
        · subst hp; exact h2
        · exact ih h3 p hp
    have := this hm p hp
    omega
  have cut : ∀ f : Int → Bool, (f 65536 = false) → memI f 0 (65537 - (0 : Int)).toNat = memI f 0 65536 := by
    intro f hf
    rw [show (65537 - (0 : Int)).toNat = 65536 + 1 by omega, memI_split, memI_none (a := 0 + ((65536 : Nat) : Int)) fun x q1 q2 => by
      have : x = 65536 := by omega
      rw [this, hf]]
    simp
  have toN : ∀ f : Int → Bool, memI f 0 65536 = castL ((List.range 65536).filter fun (j : Nat) => f (j : Int)) := by
    intro f
    unfold memI castL
    simp
  have e1 : listR r = castL (listW 0 W) := by
    rw [listR_mem hm hw (by omega), cut _ (hi _ (Int.le_refl _)), toN, listW_eq, hl]
    have : (fun j => 64 * 0 + j) = (fun j : Nat => j) := by funext j; omega
    have ef : (List.range 65536).filter (fun (j : Nat) => hasB r (j : Int)) = (List.range 65536).filter (hasW W) := by
      apply List.filter_congr
      intro x hx
      exact (h x (List.mem_range.1 hx)).symm
    rw [this, List.map_id', ef]
  refine ⟨e1, ?_, ?_⟩
  · have s := starts_mem hm hw (by omega)
    have hs : startI (hasB r) 65536 = false := by unfold startI; rw [hi _ (Int.le_refl _)]; rfl
    rw [cut _ hs, toN] at s
    have sl := congrArg List.length s
    rw [List.length_map] at sl
    rw [runsW_eq W 0 (by omega) hW.2, hl, sl]
    have ef : (List.range 65536).filter (fun (j : Nat) => startI (hasB r) (j : Int)) = (List.range 65536).filter (startW 0 W) := by
      apply List.filter_congr
      intro x hx
      have hx := List.mem_range.1 hx
      unfold startI startW
      rw [h x hx]
      congr 2
      cases x with
      | zero => rw [lo _ (by omega)]; rfl
      | succ x =>
        show hasB r (((x + 1 : Nat) : Int) - 1) = hasW W x
        rw [h x (by omega)]
        congr 1
        omega
    rw [ef]
    unfold castL
    rw [List.length_map]
  · rw [← listR_len hw, e1, lenW_eq W 0]
    unfold castL
    rw [List.length_map]
theorem four (k : Nat) {r0 r1 r2 r3 : List Run} {W0 W1 W2 W3 : List Nat} (hk : 170000 ≤ k)
    (h0 : mayF 0 r0 = true ∧ wfR r0 ∧ r0.length < 100000 ∧ wfW W0 ∧ ∀ x, x < 65536 → hasW W0 x = hasB r0 (x : Int))
    (h1 : mayF 0 r1 = true ∧ wfR r1 ∧ r1.length < 100000 ∧ wfW W1 ∧ ∀ x, x < 65536 → hasW W1 x = hasB r1 (x : Int))
    (h2 : mayF 0 r2 = true ∧ wfR r2 ∧ r2.length < 100000 ∧ wfW W2 ∧ ∀ x, x < 65536 → hasW W2 x = hasB r2 (x : Int))
    (h3 : mayF 0 r3 = true ∧ wfR r3 ∧ r3.length < 100000 ∧ wfW W3 ∧ ∀ x, x < 65536 → hasW W3 x = hasB r3 (x : Int)) :
    ∀ (j k' : Nat), j ≤ 4 → k + 5 ≤ k' + j → isinglasslaw06_RunsWords_l0 k' [r0, r1, r2, r3] [up W0, up W1, up W2, up W3] (j : Int) = some (.inr ()) := by
  have key : ∀ (j : Nat), j < 4 → ∃ (r : List Run) (W : List Nat), [r0, r1, r2, r3].getD j [] = r ∧ [up W0, up W1, up W2, up W3].getD j [] = up W ∧ mayF 0 r = true ∧ wfR r ∧ r.length < 100000 ∧ wfW W ∧ ∀ x, x < 65536 → hasW W x = hasB r (x : Int) := by
    intro j hj
    match j, hj with
    | 0, _ => exact ⟨r0, W0, rfl, rfl, h0⟩
    | 1, _ => exact ⟨r1, W1, rfl, rfl, h1⟩
    | 2, _ => exact ⟨r2, W2, rfl, rfl, h2⟩
    | 3, _ => exact ⟨r3, W3, rfl, rfl, h3⟩
  have step : ∀ (d j k' : Nat), 4 - j ≤ d → j ≤ 4 → k + 1 + d ≤ k' → isinglasslaw06_RunsWords_l0 k' [r0, r1, r2, r3] [up W0, up W1, up W2, up W3] (j : Int) = some (.inr ()) := by
    intro d
    induction d with
    | zero =>
      intro j k' h1 h2 h3
      obtain ⟨k', rfl⟩ : ∃ z, k' = z + 1 := ⟨k' - 1, by omega⟩
      have : j = 4 := by omega
      subst this
      rw [isinglasslaw06_RunsWords_l0]
      rfl
    | succ d ih =>
      intro j k' h1 h2 h3
      obtain ⟨k', rfl⟩ : ∃ z, k' = z + 1 := ⟨k' - 1, by omega⟩
      rw [isinglasslaw06_RunsWords_l0]
      by_cases c : j < 4
      · have c1 : ((j : Int) < 4) := by omega
        have c0 : (0 : Int) ≤ (j : Int) := by omega
        obtain ⟨r, W, e1, e2, m, w, l, wW, hh⟩ := key j c
        have b1 : Nat.ble 4 [r0, r1, r2, r3].length = true := rfl
        have b2 : Nat.ble 4 [up W0, up W1, up W2, up W3].length = true := rfl
        obtain ⟨a1, a2, a3⟩ := alike m w wW hh
        have n1 : runs_List k' r = some (listR r) := List_eq m w (by omega) (by omega)
        have n2 : words_List k' (up W) = some (listR r) := by rw [WList_eq wW (by omega), a1]
        have hlen : (listR r).length ≤ 65536 := by
          rw [a1]
          unfold castL
          rw [List.length_map, listW_eq, List.length_map]
          have := List.length_filter_le (hasW W) (List.range (64 * W.length))
          rw [List.length_range] at this
          have := wW.1
          omega
        have n3 : isinglassref04_Same k' (listR r) (listR r) = some true := by rw [RSame_eq (by omega) (by omega)]; simp
        have n4 : words_Runs k' (up W) = some (r.length : Int) := by rw [WRuns_eq wW (by omega), a2]
        have n5 : runs_Len k' r = some (lenF r) := Len_eq w (by omega) (by omega)
        have n6 : words_Len k' (up W) = some (lenF r) := by rw [WLen_eq wW (by omega), a3]
        have n7 : IntKind.wrap .i64 ((j : Int) + 1) = ((j + 1 : Nat) : Int) := by rw [i64_in _ ⟨by omega, by omega⟩]; omega
        simp only [c1, c0, decide_true, cond_true, b1, b2, Int.toNat_natCast, e1, e2, n1, n2, n3, n4, n5, n6, n7, Option.bind_some, Bool.not_true, cond_false]
        exact ih (j + 1) k' (by omega) (by omega) (by omega)
      · have : j = 4 := by omega
        subst this
        rfl
  intro j k' hj hk'
  exact step (4 - j) j k' (Nat.le_refl _) hj (by omega)
theorem known_huge : isinglasslaw06_known 200000 = some true := by kernel_rfl
theorem wordsLaw {a b : List Run} (wa : wfR a) (wb : wfR b) : isinglasslaw06_RunsWords 200000 a b = some true := by
  unfold isinglasslaw06_RunsWords
  by_cases la : (500 : Int) < (a.length : Int)
  · simp only [la, decide_true, cond_true, known_huge, Option.bind_some]
  by_cases lb : (500 : Int) < (b.length : Int)
  · simp only [la, lb, decide_true, decide_false, cond_true, cond_false, known_huge, Option.bind_some]
  simp only [la, lb, decide_false, cond_false]
  rw [RMay_eq wa (by omega) (by omega)]
  simp only [Option.bind_some]
  cases ma : mayF 0 a with
  | false => simp only [Bool.not_false, cond_true, known_huge, Option.bind_some]
  | true =>
  simp only [Bool.not_true, cond_false]
  rw [RMay_eq wb (by omega) (by omega)]
  simp only [Option.bind_some]
  cases mb : mayF 0 b with
  | false => simp only [Bool.not_false, cond_true, known_huge, Option.bind_some]
  | true =>
  simp only [Bool.not_true, cond_false]
  obtain ⟨A, eA, wA, fA⟩ := of_eq (k := 200000) ma wa (by omega) (by omega)
  obtain ⟨B, eB, wB, fB⟩ := of_eq (k := 200000) mb wb (by omega) (by omega)
  obtain ⟨r0, e0, q0⟩ := And_ans (k := 200000) ma mb wa wb (by omega) (by omega) (by omega)
  obtain ⟨r1, e1, q1⟩ := Or_ans (k := 200000) ma mb wa wb (by omega) (by omega) (by omega)
  obtain ⟨r2, e2, q2⟩ := AndNot_ans (k := 200000) ma mb wa wb (by omega) (by omega) (by omega)
  obtain ⟨r3, e3, q3⟩ := Xor_ans (k := 200000) ma mb wa wb (by omega) (by omega) (by omega)
  obtain ⟨W0, g0, u0, t0⟩ := WAnd_eq (k := 200000) wA wB (by omega)
  obtain ⟨W1, g1, u1, t1⟩ := WOr_eq (k := 200000) wA wB (by omega)
  obtain ⟨W2, g2, u2, t2⟩ := WAndNot_eq (k := 200000) wA wB (by omega)
  obtain ⟨W3, g3, u3, t3⟩ := WXor_eq (k := 200000) wA wB (by omega)
  have l0 := q0.len
  have l1 := q1.len
  have l2 := q2.len
  have l3 := q3.len
  have hf := four 170000 (Nat.le_refl _) (r0 := r0) (r1 := r1) (r2 := r2) (r3 := r3) (W0 := W0) (W1 := W1) (W2 := W2) (W3 := W3)
    ⟨q0.may, q0.wf, by omega, u0, fun x hx => by rw [t0 x hx, fA x hx, fB x hx, q0.has]⟩
    ⟨q1.may, q1.wf, by omega, u1, fun x hx => by rw [t1 x hx, fA x hx, fB x hx, q1.has]⟩
    ⟨q2.may, q2.wf, by omega, u2, fun x hx => by rw [t2 x hx, fA x hx, fB x hx, q2.has]⟩
    ⟨q3.may, q3.wf, by omega, u3, fun x hx => by rw [t3 x hx, fA x hx, fB x hx, q3.has]⟩ 0 200000 (by omega) (by omega)
  have hf' : isinglasslaw06_RunsWords_l0 200000 [r0, r1, r2, r3] [up W0, up W1, up W2, up W3] 0 = some (.inr ()) := hf
  have b1 : Nat.beq 4 (List.length (List.replicate 4 ([] : (List (Int × Int))))) = true := rfl
  have b2 : Nat.beq 4 (List.length (List.replicate 4 ([] : (List Int)))) = true := rfl
  simp only [eA, eB, e0, e1, e2, e3, g0, g1, g2, g3, Option.bind_some, b1, b2, cond_true, hf', known_huge]
end Go.Rx.Tryd

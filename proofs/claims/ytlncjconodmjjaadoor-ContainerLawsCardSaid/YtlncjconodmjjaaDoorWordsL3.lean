/- RunsWords' pure function answers true. -/
import Derived.Test.YtlncjconodmjjaaDoorWordsO3
import Derived.Test.YtlncjconodmjjaaDoorRunsL3
import Derived.KernelRfl
namespace Go.Rx.Tryd
open Go.Rx.Plain Go.IntWalk
set_option linter.unusedVariables false
set_option linter.unusedSimpArgs false
theorem RSame_l0_eq {a b : List Int} (hl : a.length = b.length) (hb : a.length < 1000000) : ∀ (rest : List Int) (k i : Nat), i ≤ a.length → a.drop i = rest → rest.length + 1 ≤ k → isinglassref04_Same_l0 k a b i = some (bif decide (rest = b.drop i) then .inr () else .inl false)
  | [], 0, _, _, _, hk => by simp at hk
  | _ :: _, 0, _, _, _, hk => by simp at hk
  | [], k + 1, i, hi, h, hk => by
    have h0 := drop_nil h hi
    have c : ¬ ((i : Int) < (a.length : Int)) := by omega
    have e : b.drop i = [] := List.drop_eq_nil_of_le (by omega)
    simp only [isinglassref04_Same_l0, c, decide_false, cond_false, e, decide_true, cond_true]
  | x :: s, k + 1, i, hi, h, hk => by
    obtain ⟨h1, h2, h3⟩ := drop_cons h (0 : Int)
    obtain ⟨y, t, hy⟩ : ∃ y t, b.drop i = y :: t := by
      cases e : b.drop i with
      | nil => have := drop_nil e (by omega); omega
      | cons y t => exact ⟨y, t, rfl⟩
    obtain ⟨g1, g2, g3⟩ := drop_cons hy (0 : Int)
    have c : ((i : Int) < (a.length : Int)) := by omega
    have c0 : (0 : Int) ≤ (i : Int) := by omega
    have c1 : ((i : Int) < (b.length : Int)) := by omega
    rw [isinglassref04_Same_l0]
    simp only [c, c0, c1, decide_true, cond_true, Int.toNat_natCast, h2, g2]
    rw [i64_in _ ⟨by omega, by omega⟩, show ((i : Int) + 1) = ((i + 1 : Nat) : Int) by omega]
    rw [RSame_l0_eq hl hb s k (i + 1) (by omega) h3 (by simp at hk; omega), g3, hy]
    by_cases q : x = y
    · subst q
      simp
    · simp [q]
theorem RSame_eq {a b : List Int} {k : Nat} (hb : a.length < 1000000) (hk : a.length + 1 ≤ k) : isinglassref04_Same k a b = some (decide (a = b)) := by
  unfold isinglassref04_Same
  by_cases hl : a.length = b.length
  · have c : decide ((a.length : Int) = (b.length : Int)) = true := by simp; omega
    rw [c]
    simp only [Bool.not_true, cond_false]
    rw [show isinglassref04_Same_l0 k a b 0 = isinglassref04_Same_l0 k a b ((0 : Nat) : Int) from rfl, RSame_l0_eq hl hb a k 0 (by omega) rfl hk, List.drop_zero]
    cases decide (a = b) <;> rfl
  · have c : decide ((a.length : Int) = (b.length : Int)) = false := by simp; omega
    have q : a ≠ b := fun e => hl (by rw [e])
    rw [c]
    simp [q]
theorem List_l1_eq {r : List Run} {n idx : Int} {p : Run} (hp : 0 ≤ p.1 ∧ p.1 < 65536 ∧ 0 ≤ p.2 ∧ p.2 < 65536) (he : p.1 + p.2 < 65536) : ∀ (d k : Nat) (x : Int) (acc : List Int), p.1 ≤ x → x + d = p.1 + p.2 + 1 → d + 1 ≤ k → acc.length + d ≤ 1000000 →
    runs_List_l1 k acc p.1 p.2 x r n idx = some (acc ++ (List.range d).map (fun (j : Nat) => x + (j : Int)), r, n, idx)
  | d, 0, x, acc, _, _, hk, _ => by omega
  | d, k + 1, x, acc, hx, hd, hk, ha => by
    rw [runs_List_l1, end_eq hp]
    rcases Nat.eq_zero_or_pos d with h0 | h0
    · subst h0
      have c : ¬ x < min (p.1 + p.2 + 1) 65536 := by omega
      simp [c]
    obtain ⟨d, rfl⟩ : ∃ d', d = d' + 1 := ⟨d - 1, by omega⟩
    have c : x < min (p.1 + p.2 + 1) 65536 := by omega
    have g1 : decide ((acc.length + 1) * 2 ≤ 140737488355328) = true := by simp; omega
    have g2 : decide (acc.length + 1 ≤ 140737488355328) = true := by simp; omega
    simp only [Option.bind_some, c, decide_true, cond_true, List.length_cons, List.length_nil, Nat.zero_add, g1, g2]
    rw [u16_in x ⟨by omega, by omega⟩, i64_in _ ⟨by omega, by omega⟩, List_l1_eq hp he d k (x + 1) _ (by omega) (by omega) (by omega) (by simp; omega)]
    rw [List.range_succ_eq_map]
    simp [Function.comp_def, Int.add_assoc, Int.add_comm 1]
theorem List_l0_eq {r : List Run} {K : Nat} (hK : 65540 ≤ K) (hw : wfR r) (hb : r.length < 1000000) : ∀ (rest : List Run) (k i : Nat) (m : Int) (acc : List Int), i ≤ r.length → r.drop i = rest → mayF m rest = true → rest.length + K ≤ k → (acc.length : Int) ≤ m → m ≤ 65537 →
    runs_List_l0 k acc r r.length i = some (acc ++ listR rest)
  | _, 0, _, _, _, _, _, _, hk, _, _ => by omega
  | [], k + 1, i, m, acc, hi, h, hm, hk, ha, hm2 => by
    have := drop_nil h hi
    have c : ¬ ((i : Int) < (r.length : Int)) := by omega
    simp only [runs_List_l0, c, decide_false, cond_false, listR, List.append_nil]
  | x :: s, k + 1, i, m, acc, hi, h, hm, hk, ha, hm2 => by
    obtain ⟨g1, g2, g3⟩ := mayF_cons.1 hm
    obtain ⟨h1, h2, h3⟩ := drop_cons h ((0 : Int), (0 : Int))
    have hx := wf_get hw h
    have c : ((i : Int) < (r.length : Int)) := by omega
    have c0 : (0 : Int) ≤ (i : Int) := by omega
    rw [runs_List_l0]
    simp only [c, c0, decide_true, cond_true, Int.toNat_natCast, h2]
    rw [i64_in x.1 ⟨by omega, by omega⟩, List_l1_eq hx g2 (x.2 + 1).toNat k x.1 acc (by omega) (by omega) (by simp at hk; omega) (by omega)]
    simp only [Option.bind_some]
    rw [i64_in _ ⟨by omega, by omega⟩, show ((i : Int) + 1) = ((i + 1 : Nat) : Int) by omega]
    rw [List_l0_eq hK hw hb s k (i + 1) _ _ (by omega) h3 g3 (by simp at hk; omega) (by simp; omega) (by omega)]
    simp [listR]
theorem List_eq {r : List Run} {k : Nat} (hm : mayF 0 r = true) (hw : wfR r) (hb : r.length < 1000000) (hk : r.length + 65540 ≤ k) : runs_List k r = some (listR r) := by
  unfold runs_List
  rw [show runs_List_l0 k [] r r.length 0 = runs_List_l0 k [] r r.length ((0 : Nat) : Int) from rfl, List_l0_eq (K := 65540) (by omega) hw hb r k 0 0 [] (by omega) rfl hm hk (by simp) (by omega)]
  simp
/-- What is alike of one set as runs and as words. -/
theorem alike {r : List Run} {W : List Nat} (hm : mayF 0 r = true) (hw : wfR r) (hW : wfW W) (h : ∀ x, x < 65536 → hasW W x = hasB r (x : Int)) :
    listR r = castL (listW 0 W) ∧ (r.length : Int) = ((runsW 0 W : Nat) : Int) ∧ lenF r = ((lenW W : Nat) : Int) := by
  have hl : 64 * W.length = 65536 := by have := hW.1; omega
  have lo := fun x => may_low (x := x) hm hw
  have hi : ∀ x, 65536 ≤ x → hasB r x = false := fun x hx => has_top fun p hp => by
    have : ∀ {r : List Run} {m : Int}, mayF m r = true → ∀ p, p ∈ r → p.1 + p.2 < 65536 := by
      intro r
      induction r with
      | nil => intro m _ p hp; cases hp
      | cons q t ih =>
        intro m h p hp
        obtain ⟨h1, h2, h3⟩ := mayF_cons.1 h
        rcases List.mem_cons.1 hp with hp | hp
        · subst hp; exact h2
        · exact ih h3 p hp
    have := this hm p hp
    omega
  have cut : ∀ f : Int → Bool, (f 65536 = false) → memI f 0 (65537 - (0 : Int)).toNat = memI f 0 65536 := by
    intro f hf
    rw [show (65537 - (0 : Int)).toNat = 65536 + 1 by omega, memI_split, memI_none (a := 0 + ((65536 : Nat) : Int)) fun x q1 q2 => by
      have : x = 65536 := by omega
      rw [this, hf]]
    simp
  have toN : ∀ f : Int → Bool, memI f 0 65536 = castL ((List.range 65536).filter fun (j : Nat) => f (j : Int)) := by
    intro f
    unfold memI castL
    simp
  have e1 : listR r = castL (listW 0 W) := by
    rw [listR_mem hm hw (by omega), cut _ (hi _ (Int.le_refl _)), toN, listW_eq, hl]
    have : (fun j => 64 * 0 + j) = (fun j : Nat => j) := by funext j; omega
    have ef : (List.range 65536).filter (fun (j : Nat) => hasB r (j : Int)) = (List.range 65536).filter (hasW W) := by
      apply List.filter_congr
      intro x hx
      exact (h x (List.mem_range.1 hx)).symm
    rw [this, List.map_id', ef]
  refine ⟨e1, ?_, ?_⟩
  · have s := starts_mem hm hw (by omega)
    have hs : startI (hasB r) 65536 = false := by unfold startI; rw [hi _ (Int.le_refl _)]; rfl
    rw [cut _ hs, toN] at s
    have sl := congrArg List.length s
    rw [List.length_map] at sl
    rw [runsW_eq W 0 (by omega) hW.2, hl, sl]
    have ef : (List.range 65536).filter (fun (j : Nat) => startI (hasB r) (j : Int)) = (List.range 65536).filter (startW 0 W) := by
      apply List.filter_congr
      intro x hx
      have hx := List.mem_range.1 hx
      unfold startI startW
      rw [h x hx]
      congr 2
      cases x with
      | zero => rw [lo _ (by omega)]; rfl
      | succ x =>
        show hasB r (((x + 1 : Nat) : Int) - 1) = hasW W x
        rw [h x (by omega)]
        congr 1
        omega
    rw [ef]
    unfold castL
    rw [List.length_map]
  · rw [← listR_len hw, e1, lenW_eq W 0]
    unfold castL
    rw [List.length_map]
end Go.Rx.Tryd

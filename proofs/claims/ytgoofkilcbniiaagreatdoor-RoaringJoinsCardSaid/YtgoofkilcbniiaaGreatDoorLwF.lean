/- LwF: texts of one kind, laid side by side. -/
import Derived.Test.YtgoofkilcbniiaaGreatDoorLwE
import Derived.Test.YtgoofkilcbniiaaGreatDoorLwD
/-! Sets handed in: how many, as spans, keys, alike, is a number there, how many below, the k-th. -/
namespace Go.Rx.Tryz
open Go.Rx.Plain Go.IntWalk
set_option linter.unusedVariables false
set_option linter.unusedSimpArgs false
theorem DLen_l0 {cs : List Cont} {F : Int → Bool} {K0 : Nat} (hK0 : 70000 ≤ K0) (hl : cs.length ≤ 65536) : ∀ (rc : List Cont) (rk : List Int) (k i : Nat) (n : Int), i ≤ cs.length → cs.drop i = rc → Cs F rk rc → rc.length + K0 + 1 ≤ k → 0 ≤ n → n ≤ 65536 * (i : Int) →
    roaring_Set_Len_d_l0 k n cs (cs.length : Int) (i : Int) = some (n + sumK (fun K => nF (row F K)) rk)
  | _, _, 0, _, _, _, _, _, hk, _, _ => by omega
  | [], rk, k + 1, i, n, hi, h, hc, hk, h0, h1 => by
    have := drop_nil h hi
    have q : ¬ ((i : Int) < (cs.length : Int)) := by omega
    cases rk with
    | nil => rw [roaring_Set_Len_d_l0, decide_eq_false q, sumK, Int.add_zero]; rfl
    | cons a t => exact hc.elim
  | c :: s, rk, k + 1, i, n, hi, h, hc, hk, h0, h1 => by
    cases rk with
    | nil => exact hc.elim
    | cons K rk =>
      obtain ⟨d1, d2, d3⟩ := drop_cons h ((0 : Int), ([], ([], [])))
      have q : ((i : Int) < (cs.length : Int)) := by omega
      have q0 : (0 : Int) ≤ (i : Int) := by omega
      have b := nF_bound (row F K)
      have e2 : IntKind.wrap .i64 ((i : Int) + 1) = ((i + 1 : Nat) : Int) := by rw [i64_in _ ⟨by omega, by omega⟩]; omega
      have n1 : s.length + K0 + 1 ≤ k := by simp at hk; omega
      have e1 := CLen (k := k) (row_sup F K) hc.1.1 (by omega)
      rw [sumK]
      generalize hg : nF (row F K) = z at *
      have e3 : IntKind.wrap .i64 (n + z) = n + z := i64_in _ ⟨by omega, by omega⟩
      have r := DLen_l0 hK0 hl s rk k (i + 1) (n + z) (by omega) d3 hc.2 n1 (by omega) (by omega)
      rw [roaring_Set_Len_d_l0]
      simp only [decide_eq_true q, decide_eq_true q0, cond_true, Int.toNat_natCast, d2, e1, Option.bind_some, e3, e2, r, Int.add_assoc]
theorem DLen {ks : List Int} {cs : List Cont} {F : Int → Bool} {k : Nat} (h : IsS ks cs F) (hk : 140000 ≤ k) : roaring_Set_Len_d k (some (ks, cs)) = some (tot F) := by
  have hl := ris_len h.ris
  have hc := h.con.len
  have r := DLen_l0 (cs := cs) (F := F) (K0 := 70000) (Nat.le_refl _) (by omega) cs ks k 0 0 (by omega) rfl h.con (by omega) (by omega) (by omega)
  rw [h.tot, Int.zero_add] at r
  have r' : roaring_Set_Len_d_l0 k 0 cs (cs.length : Int) 0 = some (Tryz.tot F) := r
  unfold roaring_Set_Len_d roaring_Set_list_d
  simp only [Option.isNone_some, cond_false, Option.bind_some, r']
theorem DRuns_l1 {ks : List Int} {cs : List Cont} {F : Int → Bool} {r : List Run} {K : Int} (hK : 0 ≤ K ∧ K < 65536) (hw : wfR r) (hrl : r.length < 1000000) {n idx : Int} : ∀ (rest : List Run) (k i : Nat) (m b : Int) (acc : List (Int × Int)), i ≤ r.length → r.drop i = rest → mayF m rest = true → rest.length + 1 ≤ k → SpTo acc F (K * 65536 + b) → 0 ≤ b → b ≤ m → b ≤ 65536 → (∀ y, b ≤ y → y < 65536 → row F K y = hasB rest y) →
    ∃ acc', roaring_Set_Runs_d_l1 k acc (some (ks, cs)) (K * 65536) cs n idx r (r.length : Int) (i : Int) = some (acc', some (ks, cs), cs, n, idx) ∧ SpTo acc' F ((K + 1) * 65536)
  | _, 0, _, _, _, _, _, _, _, hk, _, _, _, _, _ => by omega
  | [], k + 1, i, m, b, acc, hi, h, hm, hk, hs, hb0, hbm, hb1, hr => by
    have := drop_nil h hi
    have q : ¬ ((i : Int) < (r.length : Int)) := by omega
    refine ⟨acc, by rw [roaring_Set_Runs_d_l1, decide_eq_false q]; rfl, hs.skip (by omega) fun x h1 h2 => ?_⟩
    have := hr (x - K * 65536) (by omega) (by omega)
    rw [row_in (by omega) (by omega), show K * 65536 + (x - K * 65536) = x by omega] at this
    exact this
  | p :: s, k + 1, i, m, b, acc, hi, h, hm, hk, hs, hb0, hbm, hb1, hr => by
    obtain ⟨d1, d2, d3⟩ := drop_cons h ((0 : Int), (0 : Int))
    have hp := hw p (List.mem_of_mem_drop (by rw [h]; simp))
    have hws : wfR s := fun z hz => hw z (List.mem_of_mem_drop (i := i) (by rw [h]; simp [hz]))
    obtain ⟨m1, m2, m3⟩ := mayF_cons.1 hm
    have q : ((i : Int) < (r.length : Int)) := by omega
    have q0 : (0 : Int) ≤ (i : Int) := by omega
    have e2 : IntKind.wrap .i64 ((i : Int) + 1) = ((i + 1 : Nat) : Int) := by rw [i64_in _ ⟨by omega, by omega⟩]; omega
    have n1 : s.length + 1 ≤ k := by simp at hk; omega
    have w1 : IntKind.wrap .u64 p.1 = p.1 := u64_in _ ⟨by omega, by omega⟩
    have w2 : IntKind.wrap .u64 p.2 = p.2 := u64_in _ ⟨by omega, by omega⟩
    have w3 : IntKind.wrap .u64 (K * 65536 + p.1) = K * 65536 + p.1 := u64_in _ ⟨by omega, by omega⟩
    have w4 : IntKind.wrap .u64 (K * 65536 + p.1 + p.2) = K * 65536 + p.1 + p.2 := u64_in _ ⟨by omega, by omega⟩
    have w5 : IntKind.wrap .u64 (K * 65536 + p.1 + p.2 + 1) = K * 65536 + p.1 + p.2 + 1 := u64_in _ ⟨by omega, by omega⟩
    have hs1 : SpTo acc F (K * 65536 + p.1) := hs.skip (by omega) fun x h1 h2 => by
      have := hr (x - K * 65536) (by omega) (by omega)
      rw [row_in (by omega) (by omega), show K * 65536 + (x - K * 65536) = x by omega, hasB_cons, decide_eq_false (by omega), may_low m3 hws (by omega)] at this
      exact this
    have hF : ∀ x, K * 65536 + p.1 ≤ x → x < K * 65536 + p.1 + p.2 + 1 → F x = true := fun x h1 h2 => by
      have := hr (x - K * 65536) (by omega) (by omega)
      rw [row_in (by omega) (by omega), show K * 65536 + (x - K * 65536) = x by omega, hasB_cons, decide_eq_true (by omega), decide_eq_true (by omega)] at this
      rw [this]
      rfl
    have hr' : ∀ y, p.1 + p.2 + 1 ≤ y → y < 65536 → row F K y = hasB s y := fun y h1 h2 => by
      rw [hr y (by omega) h2, hasB_cons, decide_eq_false (p := y ≤ p.1 + p.2) (by omega), Bool.and_false, Bool.false_or]
    have hal := sp_len hs.sp
    have g1 : (acc.length + 1) * 16 ≤ 140737488355328 := by omega
    have g2 : acc.length + 1 ≤ 140737488355328 := by omega
    have go : ∀ acc', SpTo acc' F (K * 65536 + p.1 + p.2 + 1) → ∃ acc2, roaring_Set_Runs_d_l1 k acc' (some (ks, cs)) (K * 65536) cs n idx r (r.length : Int) ((i + 1 : Nat) : Int) = some (acc2, some (ks, cs), cs, n, idx) ∧ SpTo acc2 F ((K + 1) * 65536) := fun acc' h' =>
      DRuns_l1 hK hw hrl s k (i + 1) (p.1 + p.2 + 2) (p.1 + p.2 + 1) acc' (by omega) d3 m3 n1 (by rw [show K * 65536 + (p.1 + p.2 + 1) = K * 65536 + p.1 + p.2 + 1 by omega]; exact h') (by omega) (by omega) (by omega) hr'
    rw [roaring_Set_Runs_d_l1]
    simp only [decide_eq_true q, decide_eq_true q0, cond_true, Int.toNat_natCast, d2, w1, w2, w3, w4, w5, e2, List.length_cons, List.length_nil, Nat.zero_add, decide_eq_true g1, decide_eq_true g2]
    rcases List.eq_nil_or_concat acc with ha | ⟨init, z, ha⟩
    · subst ha
      have z0 : ¬ ((0 : Int) < ((List.length ([] : List (Int × Int)) : Nat) : Int)) := by simp
      rw [decide_eq_false z0]
      exact go _ (hs1.new (by omega) (fun p hp => (nomatch hp)) (by omega) (by omega) hF)
    · rw [List.concat_eq_append] at ha
      subst ha
      have hlen : (init ++ [z]).length = init.length + 1 := by simp
      have z0 : ((0 : Int) < (((init ++ [z]).length : Nat) : Int)) := by omega
      have z1 : IntKind.wrap .i64 (((init ++ [z]).length : Int) - 1) = ((init.length : Nat) : Int) := by rw [i64_in _ ⟨by omega, by omega⟩]; omega
      have z2 : (0 : Int) ≤ ((init.length : Nat) : Int) := by omega
      have z3 : ((init.length : Nat) : Int) < (((init ++ [z]).length : Nat) : Int) := by omega
      have z4 : (init ++ [z]).getD init.length ((0 : Int), (0 : Int)) = z := by simp [List.getD]
      have z5 : (init ++ [z]).set init.length (z.1, K * 65536 + p.1 + p.2 + 1) = init ++ [(z.1, K * 65536 + p.1 + p.2 + 1)] := by
        rw [List.set_append_right _ _ (Nat.le_refl _)]
        simp
      simp only [decide_eq_true z0, z1, decide_eq_true z2, decide_eq_true z3, cond_true, Int.toNat_natCast, z4, z5]
      by_cases c : z.2 = K * 65536 + p.1
      · rw [decide_eq_true c]
        exact go _ (hs1.more c (by omega) (by omega) hF)
      · rw [decide_eq_false c]
        refine go _ (hs1.new (by omega) (fun p' hp' => ?_) (by omega) (by omega) hF)
        rcases List.mem_append.1 hp' with hp' | hp'
        · have b1 := sp_bef hs1.sp
          have := b1.2.2 p' hp'
          have := hs1.le z (by simp)
          omega
        · rw [List.mem_singleton.1 hp']; exact c
theorem DRuns_l0 {ks : List Int} {cs : List Cont} {F : Int → Bool} {K0 : Nat} (hK0 : 140000 ≤ K0) (hl : ks.length ≤ 65536) (hlc : cs.length = ks.length) : ∀ (rk : List Int) (rc : List Cont) (k i : Nat) (m : Int) (acc : List (Int × Int)), i ≤ ks.length → ks.drop i = rk → cs.drop i = rc → Cs F rk rc → ris m rk → rk.length + K0 + 1 ≤ k → SpTo acc F (m * 65536) → 0 ≤ m → m ≤ 65536 → (∀ K y, m ≤ K → K < 65536 → row F K y = true → K ∈ rk) →
    ∃ acc', roaring_Set_Runs_d_l0 k acc (some (ks, cs)) cs (cs.length : Int) (i : Int) = some acc' ∧ SpTo acc' F 4294967296
  | _, _, 0, _, _, _, _, _, _, _, _, hk, _, _, _, _ => by omega
  | [], rc, k + 1, i, m, acc, hi, h, h', hc, hm, hk, hs, hm0, hm1, hr => by
    have := drop_nil h hi
    have q : ¬ ((i : Int) < (cs.length : Int)) := by omega
    refine ⟨acc, by rw [roaring_Set_Runs_d_l0, decide_eq_false q]; rfl, hs.skip (by omega) fun x h1 h2 => ?_⟩
    cases hx : F x with
    | false => rfl
    | true =>
      have := hr (x / 65536) (x % 65536) (by omega) (by omega) (by rw [row_in (by omega) (by omega), show x / 65536 * 65536 + x % 65536 = x by omega]; exact hx)
      cases this
  | K :: s, rc, k + 1, i, m, acc, hi, h, h', hc, hm, hk, hs, hm0, hm1, hr => by
    cases rc with
    | nil => exact hc.elim
    | cons c rc =>
      obtain ⟨d1, d2, d3⟩ := drop_cons h (0 : Int)
      obtain ⟨f1, f2, f3⟩ := drop_cons h' ((0 : Int), ([], ([], [])))
      obtain ⟨r1, r2, r3⟩ := hm
      have q : ((i : Int) < (cs.length : Int)) := by omega
      have q2 : ((i : Int) < (ks.length : Int)) := by omega
      have q0 : (0 : Int) ≤ (i : Int) := by omega
      have e2 : IntKind.wrap .i64 ((i : Int) + 1) = ((i + 1 : Nat) : Int) := by rw [i64_in _ ⟨by omega, by omega⟩]; omega
      have n1 : s.length + K0 + 1 ≤ k := by simp at hk; omega
      have w1 : IntKind.wrap .u64 K = K := u64_in _ ⟨by omega, by omega⟩
      have w2 : shlI .u64 K 16 = K * 65536 := shl16 (by omega) (by omega)
      obtain ⟨r, e1, mm, ww, hh⟩ := CRuns (k := k) (row_sup F K) hc.1.1 (by omega)
      have hrl := runs_len_le mm ww hh
      have hs1 : SpTo acc F (K * 65536 + 0) := hs.skip (by omega) fun x h1 h2 => by
        cases hx : F x with
        | false => rfl
        | true =>
          have := hr (x / 65536) (x % 65536) (by omega) (by omega) (by rw [row_in (by omega) (by omega), show x / 65536 * 65536 + x % 65536 = x by omega]; exact hx)
          rcases List.mem_cons.1 this with q | q
          · omega
          · have := (ris_low r3 q).1; omega
      obtain ⟨acc1, g1, g2⟩ := DRuns_l1 (ks := ks) (cs := cs) (K := K) (n := (cs.length : Int)) (idx := (i : Int)) ⟨by omega, r2⟩ ww (by omega) r k 0 0 0 acc (by omega) rfl mm (by omega) hs1 (by omega) (by omega) (by omega) (fun y _ _ => (hh y).symm)
      have g1' : roaring_Set_Runs_d_l1 k acc (some (ks, cs)) (K * 65536) cs (cs.length : Int) (i : Int) r (r.length : Int) 0 = some (acc1, some (ks, cs), cs, (cs.length : Int), (i : Int)) := g1
      obtain ⟨acc2, p1, p2⟩ := DRuns_l0 hK0 hl hlc s rc k (i + 1) (K + 1) acc1 (by omega) d3 f3 hc.2 r3 n1 g2 (by omega) (by omega) (fun K' y h1 h2 h3 => by
        rcases List.mem_cons.1 (hr K' y (by omega) h2 h3) with q | q
        · omega
        · exact q)
      refine ⟨acc2, ?_, p2⟩
      rw [roaring_Set_Runs_d_l0]
      simp only [decide_eq_true q, decide_eq_true q2, decide_eq_true q0, cond_true, Int.toNat_natCast, d2, f2, w1, w2, e1, Option.bind_some, g1', e2]
      exact p1
theorem DRuns {ks : List Int} {cs : List Cont} {F : Int → Bool} {k : Nat} (h : IsS ks cs F) (hk : 210000 ≤ k) : ∃ r, roaring_Set_Runs_d k (some (ks, cs)) = some r ∧ spF 0 r ∧ ∀ x, hasS r x = F x := by
  have hl := ris_len h.ris
  have hc := h.con.len
  have z : SpTo [] F (0 * 65536) := ⟨trivial, fun p hp => (nomatch hp), fun x => by
    show false = _
    by_cases c : x < 0
    · rw [h.sup x (.inl c)]; rfl
    · rw [decide_eq_false (by omega), Bool.and_false]⟩
  obtain ⟨r, e, s⟩ := DRuns_l0 (K0 := 140000) (Nat.le_refl _) hl hc ks cs k 0 0 [] (by omega) rfl rfl h.con h.ris (by omega) z (by omega) (by omega) (fun K y h0 h1 h2 => h.full K y h2 h0 h1)
  refine ⟨r, ?_, s.sp, fun x => ?_⟩
  · have e' : roaring_Set_Runs_d_l0 k [] (some (ks, cs)) cs (cs.length : Int) 0 = some r := e
    unfold roaring_Set_Runs_d roaring_Set_list_d
    simp only [Option.isNone_some, cond_false, Option.bind_some, e']
  · rw [s.has x]
    by_cases c : x < 4294967296
    · rw [decide_eq_true c, Bool.and_true]
    · rw [h.sup x (.inr (by omega))]; rfl
theorem DRuns_is {ks : List Int} {cs : List Cont} {F : Int → Bool} {k : Nat} {l : List (Int × Int)} (h : IsS ks cs F) (hk : 210000 ≤ k) (hl : spF 0 l) (hh : ∀ x, hasS l x = F x) : roaring_Set_Runs_d k (some (ks, cs)) = some l := by
  obtain ⟨r, e, h1, h2⟩ := DRuns h hk
  rw [e, sp_ext h1 hl fun x => by rw [h2, hh]]
theorem DKeys {ks : List Int} {cs : List Cont} {F : Int → Bool} {k : Nat} (h : IsS ks cs F) : roaring_Set_Keys_d k (some (ks, cs)) = some ks := by
  have hl := ris_len h.ris
  unfold roaring_Set_Keys_d
  simp only [Option.isNone_some, cond_false, Option.bind_some, clone16_eq (r := ks) (k := k) (by omega)]
theorem DGet {ks : List Int} {cs : List Cont} {F : Int → Bool} {K : Int} {k : Nat} (h : IsS ks cs F) (hK : 0 ≤ K ∧ K < 65536) (hk : 70000 ≤ k) : ∃ c, roaring_Set_get_d k (some (ks, cs)) K = some c ∧ IsC c (row F K) := by
  have hl := ris_len h.ris
  obtain ⟨i, e, h1, h2, h3⟩ := Find_eq (k := k) (x := K) h.ris (by omega)
  have e' : slices_BinarySearch_uint16 k ks K = some ((i : Int), decide (K ∈ ks)) := by
    unfold arrays_Find at e
    cases hb : slices_BinarySearch_uint16 k ks K with
    | none => rw [hb] at e; cases e
    | some v => rw [hb] at e; exact e
  have hat : K ∈ ks → ks[i]? = some K := fun hm => by
    obtain ⟨t, ht⟩ := List.getElem?_of_mem hm
    have a1 : ¬ t < i := fun c => by have := h2 t K c ht; omega
    have a2 : ¬ i < t := fun c => by
      have hti := (List.getElem?_eq_some_iff.1 ht).1
      have hg := getD_some0 (l := ks) (i := i) (by omega)
      have := ris_lt h.ris i t _ K c hg ht
      have := h3 i _ (Nat.le_refl _) hg
      omega
    have : t = i := by omega
    rw [← this]
    exact ht
  unfold roaring_Set_get_d roaring_Set_find_d
  simp only [Option.isNone_some, cond_false, Option.bind_some, e']
  by_cases q : K ∈ ks
  · obtain ⟨g1, g2⟩ := Cs.get (d := ((0 : Int), ([], ([], [])))) h.con (hat q)
    have c1 : ((i : Int) < (cs.length : Int)) := by omega
    have c0 : (0 : Int) ≤ (i : Int) := by omega
    rw [decide_eq_true q]
    simp only [cond_true, decide_eq_true c0, decide_eq_true c1, Int.toNat_natCast]
    exact ⟨_, rfl, g1.1⟩
  · rw [decide_eq_false q]
    simp only [cond_false]
    exact ⟨_, rfl, isC_zero fun x => by
      cases hx : row F K x with
      | false => rfl
      | true => exact absurd (h.full K x hx hK.1 hK.2) q⟩
theorem DHas {ks : List Int} {cs : List Cont} {F : Int → Bool} {x : Int} {k : Nat} (h : IsS ks cs F) (hx : 0 ≤ x ∧ x < 4294967296) (hk : 140000 ≤ k) : roaring_Set_Has_d k (some (ks, cs)) x = some (F x) := by
  have w1 : IntKind.wrap .u16 (shrI .u32 x 16) = x / 65536 := by rw [shr16 (by decide), u16_in _ ⟨by omega, by omega⟩]
  have w2 : IntKind.wrap .u16 x = x % 65536 := u16_mod x
  obtain ⟨c, e, i⟩ := DGet (K := x / 65536) (k := k) h ⟨by omega, by omega⟩ (by omega)
  have e2 := CHas (x := x % 65536) (k := k) (row_sup F (x / 65536)) i hk ⟨by omega, by omega⟩
  rw [row_in (by omega) (by omega), show x / 65536 * 65536 + x % 65536 = x by omega] at e2
  unfold roaring_Set_Has_d
  simp only [w1, w2, e, e2, Option.bind_some]
theorem DAt {ks : List Int} {cs : List Cont} {F : Int → Bool} {i : Nat} {k : Nat} (h : IsS ks cs F) (hi : i < ks.length) : roaring_Set_At_d k (some (ks, cs)) (i : Int) = some (cs.getD i ((0 : Int), ([], ([], []))), true) := by
  have hl := h.con.len
  have q1 : ¬ (i : Int) < 0 := by omega
  have q2 : ¬ (cs.length : Int) ≤ (i : Int) := by omega
  have q3 : (0 : Int) ≤ (i : Int) := by omega
  have q4 : (i : Int) < (cs.length : Int) := by omega
  unfold roaring_Set_At_d roaring_Set_list_d
  simp only [Option.isNone_some, cond_false, Option.bind_some, decide_eq_false q1, decide_eq_false q2, decide_eq_true q3, decide_eq_true q4, cond_true, Int.toNat_natCast]
theorem DAt_none {ks : List Int} {cs : List Cont} {F : Int → Bool} {i : Int} {k : Nat} (h : IsS ks cs F) (hi : i < 0 ∨ (ks.length : Int) ≤ i) : roaring_Set_At_d k (some (ks, cs)) i = some (((0 : Int), ([], ([], []))), false) := by
  have hl := h.con.len
  unfold roaring_Set_At_d roaring_Set_list_d
  by_cases q : i < 0
  · rw [decide_eq_true q]; rfl
  · have q2 : (cs.length : Int) ≤ i := by omega
    rw [decide_eq_false q]
    simp only [Option.isNone_some, cond_false, Option.bind_some, decide_eq_true q2, cond_true]
theorem DSame {ks ls : List Int} {cs ds : List Cont} {F G : Int → Bool} {k : Nat} (h : IsS ks cs F) (g : IsS ls ds G) (hF : ∀ x, F x = G x) (hk : 5000000000 ≤ k) : roaring_Set_Same_d k (some (ks, cs)) (some (ls, ds)) = some true := by
  obtain ⟨r, e, h1, h2⟩ := DRuns (k := k) h (by omega)
  have e2 := DRuns_is (k := k) g (by omega) h1 fun x => by rw [h2, hF]
  have := sp_len h1
  unfold roaring_Set_Same_d
  rw [e, Option.bind_some, e2, Option.bind_some, Equal_eq (by omega) (by omega), decide_eq_true rfl]
  rfl
end Go.Rx.Tryz
/-! Sets handed in whose containers are no words: how many below a place, the k-th. -/
namespace Go.Rx.Tryz
open Go.Rx.Plain Go.IntWalk
set_option linter.unusedVariables false
set_option linter.unusedSimpArgs false
def NW (cs : List Cont) : Prop := ∀ c, c ∈ cs → max c.1 1 ≠ 2
theorem or_hl {K y : Int} (h0 : 0 ≤ K) (h1 : K < 65536) (y0 : 0 ≤ y) (y1 : y < 65536) : bitsI .or .u32 (shlI .u32 (IntKind.wrap .u32 K) 16) (IntKind.wrap .u32 y) = K * 65536 + y := by
  have w1 : IntKind.wrap .u32 K = K := u32_in _ ⟨by omega, by omega⟩
  have w2 : IntKind.wrap .u32 y = y := u32_in _ ⟨by omega, by omega⟩
  have w3 : shlI .u32 K 16 = K * 65536 := by
    unfold shlI
    rw [show min (Int.toNat 16) (IntKind.bits .u32) = 16 from rfl, show (2 : Int) ^ 16 = 65536 from rfl]
    exact u32_in _ ⟨by omega, by omega⟩
  rw [w1, w2, w3]
  obtain ⟨a, rfl⟩ : ∃ a : Nat, K = (a : Int) := ⟨K.toNat, by omega⟩
  obtain ⟨b, rfl⟩ : ∃ b : Nat, y = (b : Int) := ⟨y.toNat, by omega⟩
  rw [show (a : Int) * 65536 = ((a * 65536 : Nat) : Int) by omega]
  have o32 : ∀ n : Nat, BitVec.ofInt 32 (n : Int) = BitVec.ofNat 32 n := fun n => by simp
  have hor : (a * 65536) ||| b = a * 65536 + b := by
    have := Nat.two_pow_add_eq_or_of_lt (i := 16) (b := b) (by omega) a
    rw [show 2 ^ 16 * a = a * 65536 by omega] at this
    exact this.symm
  have e : (BitVec.ofInt 32 ((a * 65536 : Nat) : Int) ||| BitVec.ofInt 32 (b : Int)).toNat = a * 65536 + b := by
    rw [o32, o32, BitVec.toNat_or, BitVec.toNat_ofNat, BitVec.toNat_ofNat, Nat.mod_eq_of_lt (by omega), Nat.mod_eq_of_lt (by omega), hor]
  rw [bitsI_eq]
  show IntKind.wrap .u32 (((BitVec.ofInt 32 ((a * 65536 : Nat) : Int) ||| BitVec.ofInt 32 (b : Int)).toNat : Nat) : Int) = _
  rw [e, u32_in _ ⟨by omega, by omega⟩]
  omega
theorem and_low {x : Int} (h0 : 0 ≤ x) (h1 : x < 4294967296) : IntKind.wrap .i64 (bitsI .and .u64 x 65535) = x % 65536 := by
  obtain ⟨a, rfl⟩ : ∃ a : Nat, x = (a : Int) := ⟨x.toNat, by omega⟩
  have := and64 (a := a) (b := 65535) (by omega) (by omega)
  have h := Nat.and_two_pow_sub_one_eq_mod a 16
  rw [show (2 : Nat) ^ 16 - 1 = 65535 from rfl, show (2 : Nat) ^ 16 = 65536 from rfl] at h
  rw [h] at this
  rw [show (65535 : Int) = ((65535 : Nat) : Int) from rfl, this, i64_in _ ⟨by omega, by omega⟩]
  omega
theorem DRank_l0 {ks : List Int} {cs : List Cont} {F : Int → Bool} {x : Int} {K0 : Nat} (hK0 : 140000 ≤ K0) (hx0 : 0 ≤ x) (hx1 : x < 4294967296) (hl : ks.length ≤ 65536) (hlc : cs.length = ks.length) : ∀ (rk : List Int) (rc : List Cont) (k i : Nat) (n m : Int), i ≤ ks.length → ks.drop i = rk → cs.drop i = rc → Cs F rk rc → NW rc → ris m rk → rk.length + K0 + 1 ≤ k → 0 ≤ n → n ≤ 65536 * (i : Int) → 0 ≤ m →
    roaring_Set_Rank_d_l0 k (some (ks, cs)) x n cs (cs.length : Int) (i : Int) = some (n + sumK (cts (bel F x)) rk)
  | _, _, 0, _, _, _, _, _, _, _, _, _, hk, _, _, _ => by omega
  | [], rc, k + 1, i, n, m, hi, h, h', hc, hn, hm, hk, h0, h1, hm0 => by
    have := drop_nil h hi
    have q : ¬ ((i : Int) < (cs.length : Int)) := by omega
    rw [roaring_Set_Rank_d_l0, decide_eq_false q, sumK, Int.add_zero]
    rfl
  | K :: s, rc, k + 1, i, n, m, hi, h, h', hc, hn, hm, hk, h0, h1, hm0 => by
    cases rc with
    | nil => exact hc.elim
    | cons c rc =>
      obtain ⟨d1, d2, d3⟩ := drop_cons h (0 : Int)
      obtain ⟨f1, f2, f3⟩ := drop_cons h' ((0 : Int), ([], ([], [])))
      obtain ⟨r1, r2, r3⟩ := hm
      have q : ((i : Int) < (cs.length : Int)) := by omega
      have q2 : ((i : Int) < (ks.length : Int)) := by omega
      have q0 : (0 : Int) ≤ (i : Int) := by omega
      have e2 : IntKind.wrap .i64 ((i : Int) + 1) = ((i + 1 : Nat) : Int) := by rw [i64_in _ ⟨by omega, by omega⟩]; omega
      have n1 : s.length + K0 + 1 ≤ k := by simp at hk; omega
      have w1 : IntKind.wrap .u64 K = K := u64_in _ ⟨by omega, by omega⟩
      have w2 : shrI .u64 x 16 = x / 65536 := shr16 (by decide) x
      have w3 := and_low hx0 hx1
      have e1 := CLen (k := k) (row_sup F K) hc.1.1 (by omega)
      have e3 := CRank (k := k) (x := x % 65536) (row_sup F K) hc.1.1 (hn c (by simp)) (by omega) (by omega) (by omega)
      have b1 := nF_bound (row F K)
      have b2 := nF_bound (bel (row F K) (x % 65536))
      have lo : K < x / 65536 → cts (bel F x) K = nF (row F K) := fun c => by
        have := row_bel_lo (F := F) (K := x / 65536) (K' := K) (y := x % 65536) c (by omega)
        rw [show x / 65536 * 65536 + x % 65536 = x by omega] at this
        unfold cts
        rw [this]
      have at_ : K = x / 65536 → cts (bel F x) K = nF (bel (row F K) (x % 65536)) := fun c => by
        have := row_bel_at (F := F) (K := x / 65536) (y := x % 65536)
        rw [show x / 65536 * 65536 + x % 65536 = x by omega] at this
        unfold cts
        rw [c, this]
      have hi_ : x / 65536 < K → cts (bel F x) K = 0 := fun c => nF_zero fun z => by
        have := row_bel_hi (F := F) (K := x / 65536) (K' := K) (y := x % 65536) c (by omega) z
        rw [show x / 65536 * 65536 + x % 65536 = x by omega] at this
        exact this
      have ih := fun n' a b => DRank_l0 hK0 hx0 hx1 hl hlc s rc k (i + 1) n' (K + 1) (by omega) d3 f3 hc.2 (fun c hc => hn c (by simp [hc])) r3 n1 a b (by omega)
      rw [sumK]
      generalize cts (bel F x) K = T at *
      generalize sumK (cts (bel F x)) s = U at *
      generalize nF (row F K) = A at *
      generalize nF (bel (row F K) (x % 65536)) = B at *
      rw [roaring_Set_Rank_d_l0]
      simp only [decide_eq_true q, decide_eq_true q2, decide_eq_true q0, cond_true, Int.toNat_natCast, d2, f2, w1, w2, w3, e2, Option.bind_some]
      by_cases c1 : K < x / 65536
      · have e4 : IntKind.wrap .i64 (n + A) = n + A := i64_in _ ⟨by omega, by omega⟩
        rw [decide_eq_true c1, cond_true, e1, Option.bind_some, e4, ih _ (by omega) (by omega), lo c1, Int.add_assoc]
      · rw [decide_eq_false c1, cond_false]
        by_cases c2 : K = x / 65536
        · have e4 : IntKind.wrap .i64 (n + B) = n + B := i64_in _ ⟨by omega, by omega⟩
          rw [decide_eq_true c2, cond_true, e3, Option.bind_some, e4, ih _ (by omega) (by omega), at_ c2, Int.add_assoc]
        · rw [decide_eq_false c2, cond_false, ih _ (by omega) (by omega), hi_ (by omega)]
          congr 1
          omega
theorem DRank {ks : List Int} {cs : List Cont} {F : Int → Bool} {x : Int} {k : Nat} (h : IsS ks cs F) (hn : NW cs) (hx0 : 0 ≤ x) (hx1 : x < 4294967296) (hk : 210000 ≤ k) : roaring_Set_Rank_d k (some (ks, cs)) x = some (tot (bel F x)) := by
  have hl := ris_len h.ris
  have hc := h.con.len
  have e := DRank_l0 (K0 := 140000) (Nat.le_refl _) hx0 hx1 hl hc ks cs k 0 0 0 (by omega) rfl rfl h.con hn h.ris (by omega) (by omega) (by omega) (by omega)
  have e' : roaring_Set_Rank_d_l0 k (some (ks, cs)) x 0 cs (cs.length : Int) 0 = _ := e
  have s : sumK (cts (bel F x)) ks = tot (bel F x) := sum_keys (m := 0) (n := 65536) h.ris rfl fun K h0 h1 hn => nF_zero fun y => by
    cases hy : row (bel F x) K y with
    | false => rfl
    | true =>
      obtain ⟨g1, g2⟩ := row_true hy
      unfold bel at g2
      rw [Bool.and_eq_true] at g2
      exact absurd (h.full K y (by rw [row_in g1.1 g1.2]; exact g2.1) h0 h1) hn
  have q : ¬ (4294967296 : Int) ≤ x := by omega
  unfold roaring_Set_Rank_d roaring_Set_list_d
  rw [decide_eq_false q]
  simp only [cond_false, Option.isNone_some, Option.bind_some, e', s, Int.zero_add]
theorem pre_gap {g : Int → Int} {m K : Int} (h0 : 0 ≤ m) (h1 : m ≤ K) (hz : ∀ x, m ≤ x → x < K → g x = 0) : sumI g 0 K.toNat = sumI g 0 m.toNat := by
  obtain ⟨r, hr⟩ : ∃ r : Nat, K.toNat = m.toNat + r := ⟨K.toNat - m.toNat, by omega⟩
  rw [hr, sumI_split, sumI_zero (a := 0 + (m.toNat : Int)) fun x a b => hz x (by omega) (by omega), Int.add_zero]
theorem pre_succ {g : Int → Int} {K : Int} (h0 : 0 ≤ K) : sumI g 0 (K + 1).toNat = sumI g 0 K.toNat + g K := by
  rw [show (K + 1).toNat = K.toNat + 1 by omega, sumI_snoc, show (0 : Int) + (K.toNat : Int) = K by omega]
theorem DSel_l0 {ks : List Int} {cs : List Cont} {F : Int → Bool} {n0 : Int} {K0 : Nat} (hK0 : 140000 ≤ K0) (hl : ks.length ≤ 65536) (hlc : cs.length = ks.length) : ∀ (rk : List Int) (rc : List Cont) (k i : Nat) (n m : Int), i ≤ ks.length → ks.drop i = rk → cs.drop i = rc → Cs F rk rc → NW rc → ris m rk → rk.length + K0 + 1 ≤ k → 0 ≤ n → n < 9223372036854775808 → 0 ≤ m → m ≤ 65536 → n = n0 - sumI (cts F) 0 m.toNat → (∀ K y, m ≤ K → K < 65536 → row F K y = true → K ∈ rk) →
    (∃ x, roaring_Set_Select_d_l0 k (some (ks, cs)) n cs (cs.length : Int) (i : Int) = some (.inl (x, true)) ∧ Nth F n0 x) ∨ (roaring_Set_Select_d_l0 k (some (ks, cs)) n cs (cs.length : Int) (i : Int) = some (.inr ()) ∧ tot F ≤ n0)
  | _, _, 0, _, _, _, _, _, _, _, _, _, hk, _, _, _, _, _, _ => by omega
  | [], rc, k + 1, i, n, m, hi, h, h', hc, hn, hm, hk, h0, h1, hm0, hm1, hr, hf => by
    have := drop_nil h hi
    have q : ¬ ((i : Int) < (cs.length : Int)) := by omega
    right
    refine ⟨by rw [roaring_Set_Select_d_l0, decide_eq_false q]; rfl, ?_⟩
    have e : sumI (cts F) 0 (65536 : Int).toNat = sumI (cts F) 0 m.toNat := pre_gap hm0 hm1 fun x a b => nF_zero fun y => by
      cases hy : row F x y with
      | false => rfl
      | true => exact absurd (hf x y a b hy) (by simp)
    rw [show (65536 : Int).toNat = 65536 from rfl, ← tot_def] at e
    rw [e]
    generalize sumI (cts F) 0 m.toNat = T at *
    clear e
    omega
  | K :: s, rc, k + 1, i, n, m, hi, h, h', hc, hn, hm, hk, h0, h1, hm0, hm1, hr, hf => by
    cases rc with
    | nil => exact hc.elim
    | cons c rc =>
      obtain ⟨d1, d2, d3⟩ := drop_cons h (0 : Int)
      obtain ⟨f1, f2, f3⟩ := drop_cons h' ((0 : Int), ([], ([], [])))
      obtain ⟨r1, r2, r3⟩ := hm
      have q : ((i : Int) < (cs.length : Int)) := by omega
      have q2 : ((i : Int) < (ks.length : Int)) := by omega
      have q0 : (0 : Int) ≤ (i : Int) := by omega
      have e2 : IntKind.wrap .i64 ((i : Int) + 1) = ((i + 1 : Nat) : Int) := by rw [i64_in _ ⟨by omega, by omega⟩]; omega
      have n1 : s.length + K0 + 1 ≤ k := by simp at hk; omega
      have e1 := CLen (k := k) (row_sup F K) hc.1.1 (by omega)
      have b1 := nF_bound (row F K)
      have g1 : sumI (cts F) 0 K.toNat = sumI (cts F) 0 m.toNat := pre_gap hm0 r1 fun x a b => nF_zero fun y => by
        cases hy : row F x y with
        | false => rfl
        | true =>
          rcases List.mem_cons.1 (hf x y a (by omega) hy) with g | g
          · omega
          · have := (ris_low r3 g).1
            omega
      have g2 : sumI (cts F) 0 (K + 1).toNat = sumI (cts F) 0 K.toNat + nF (row F K) := pre_succ (by omega)
      by_cases c1 : nF (row F K) ≤ n
      · have e4 : IntKind.wrap .i64 (n - nF (row F K)) = n - nF (row F K) := i64_in _ ⟨by omega, by omega⟩
        have ih := DSel_l0 (n0 := n0) hK0 hl hlc s rc k (i + 1) (n - nF (row F K)) (K + 1) (by omega) d3 f3 hc.2 (fun c hc => hn c (by simp [hc])) r3 n1 (by omega) (by omega) (by omega) (by omega) (by omega) (fun K' y a b e => by
          rcases List.mem_cons.1 (hf K' y (by omega) b e) with g | g
          · omega
          · exact g)
        rw [roaring_Set_Select_d_l0]
        simp only [decide_eq_true q, decide_eq_true q0, cond_true, Int.toNat_natCast, f2, e1, Option.bind_some, decide_eq_true c1, e4, e2]
        exact ih
      · left
        obtain ⟨y, e3, y0, y1, y2, y3⟩ := CSel (k := k) (n := n) (row_sup F K) hc.1.1 (hn c (by simp)) (by omega) h0 (by omega)
        refine ⟨K * 65536 + y, ?_, (row_true y2).2, ?_⟩
        · rw [roaring_Set_Select_d_l0]
          simp only [decide_eq_true q, decide_eq_true q2, decide_eq_true q0, cond_true, cond_false, Int.toNat_natCast, d2, f2, e1, e3, Option.bind_some, decide_eq_false c1, or_hl (show 0 ≤ K by omega) r2 y0 y1]
        · rw [tot_bel (by omega) r2 y0 (by omega), y3]
          omega
theorem DSel {ks : List Int} {cs : List Cont} {F : Int → Bool} {n : Int} {k : Nat} (h : IsS ks cs F) (hn : NW cs) (h0 : 0 ≤ n) (h1 : n < 9223372036854775808) (hk : 210000 ≤ k) :
    (∃ x, roaring_Set_Select_d k (some (ks, cs)) n = some (x, true) ∧ Nth F n x) ∨ (roaring_Set_Select_d k (some (ks, cs)) n = some (0, false) ∧ tot F ≤ n) := by
  have hl := ris_len h.ris
  have hc := h.con.len
  have q : ¬ n < 0 := by omega
  unfold roaring_Set_Select_d roaring_Set_list_d
  rw [decide_eq_false q]
  simp only [cond_false, Option.isNone_some, Option.bind_some]
  rcases DSel_l0 (n0 := n) (K0 := 140000) (Nat.le_refl _) hl hc ks cs k 0 n 0 (by omega) rfl rfl h.con hn h.ris (by omega) h0 h1 (by omega) (by omega) (by rw [show (0 : Int).toNat = 0 from rfl, sumI]; omega) (fun K y a b e => h.full K y e a b) with ⟨x, e, g⟩ | ⟨e, g⟩
  · have e' : roaring_Set_Select_d_l0 k (some (ks, cs)) n cs (cs.length : Int) 0 = _ := e
    exact Or.inl ⟨x, by rw [e', Option.bind_some], g⟩
  · have e' : roaring_Set_Select_d_l0 k (some (ks, cs)) n cs (cs.length : Int) 0 = _ := e
    exact Or.inr ⟨by rw [e', Option.bind_some], g⟩
end Go.Rx.Tryz
/-! A set has what the document's has, by all that it tells. -/
namespace Go.Rx.Tryz
open Go.Rx.Plain Go.IntWalk
set_option linter.unusedVariables false
set_option linter.unusedSimpArgs false
theorem sel_same {ks : List Int} {cs : List Cont} {F : Int → Bool} {l : List (Int × Int)} {n : Int} {k : Nat} (h : IsS ks cs F) (hn : NW cs) (hl : spF 0 l) (hF : ∀ y, hasS l y = F y) (h1 : n < 9223372036854775808) (hk : 210000 ≤ k) (hk2 : l.length + 1 ≤ k) :
    ∃ v, roaring_Set_Select_d k (some (ks, cs)) n = some v ∧ isinglassref08_Set_Select k l n = some v := by
  by_cases q : n < 0
  · refine ⟨(0, false), ?_, ?_⟩
    · unfold roaring_Set_Select_d
      rw [decide_eq_true q]; rfl
    · unfold isinglassref08_Set_Select
      rw [decide_eq_true q]; rfl
  · rcases DSel h hn (show 0 ≤ n by omega) h1 hk with ⟨x, e, g⟩ | ⟨e, g⟩
    · rcases RSel hl hF (show 0 ≤ n by omega) h1 hk2 with ⟨y, e2, g2⟩ | ⟨e2, g2⟩
      · have := g.unique h.sup g2
        subst this
        exact ⟨_, e, e2⟩
      · have := g.lt h.sup
        exact absurd g2 (Int.not_le.2 this)
    · rcases RSel hl hF (show 0 ≤ n by omega) h1 hk2 with ⟨y, e2, g2⟩ | ⟨e2, g2⟩
      · have := g2.lt h.sup
        exact absurd g (Int.not_le.2 this)
      · exact ⟨_, e, e2⟩
theorem DRank2 {ks : List Int} {cs : List Cont} {F : Int → Bool} {x : Int} {k : Nat} (h : IsS ks cs F) (hn : NW cs) (hx0 : 0 ≤ x) (hk : 210000 ≤ k) : roaring_Set_Rank_d k (some (ks, cs)) x = some (tot (bel F x)) := by
  by_cases q : x < 4294967296
  · exact DRank h hn hx0 q hk
  · have e : bel F x = F := by
      funext y
      unfold bel
      by_cases c : y < x
      · rw [decide_eq_true c, Bool.and_true]
      · rw [h.sup y (by omega)]; rfl
    unfold roaring_Set_Rank_d
    rw [decide_eq_true (by omega), cond_true, DLen h (by omega), Option.bind_some, e]
theorem is_true {ks : List Int} {cs : List Cont} {F : Int → Bool} {w : List (Int × Int)} {x at_ n : Int} {k : Nat} (h : IsS ks cs F) (hn : NW cs) (hw : spF 0 w) (hF : ∀ y, hasS w y = F y) (hx : 0 ≤ x ∧ x < 4294967296) (ha : 0 ≤ at_) (hn1 : n < 9223372036854775808) (hk : 20000000000 ≤ k) : isinglasslaw08_is k (some (ks, cs)) w x at_ n = some true := by
  have hwl := sp_len hw
  have hkl := ris_len h.ris
  obtain ⟨v, e1, e2⟩ := sel_same h hn hw hF hn1 (k := k) (by omega) (by omega)
  have e3 := DKeys (k := k) h
  have e4 := RKeys (k := k) h hw hF (by omega)
  have e5 := DRuns_is (k := k) h (by omega) hw hF
  have e6 : isinglassref08_Same k w w = some true := by rw [Same8_eq (by omega) (by omega), decide_eq_true rfl]
  have e7 := DLen (k := k) h (by omega)
  have e8 := RLen (k := k) hw hF h.sup (by omega)
  have e9 := DHas (k := k) (x := x) h hx (by omega)
  have e10 := RHas (k := k) (x := x) hw hF (by omega)
  have e11 := DRank2 (k := k) (x := at_) h hn ha (by omega)
  have e12 := RRank (k := k) (x := at_) hw hF ha (by omega)
  have e13 := SameL (a := ks) (k := k) (by omega) (by omega)
  have e14 := DAt_none (k := k) (i := (ks.length : Int)) h (Or.inr (Int.le_refl _))
  have e15 := DAt_none (k := k) (i := -1) h (Or.inl (by omega))
  have wx : IntKind.wrap .u64 x = x := u64_in _ ⟨by omega, by omega⟩
  unfold isinglasslaw08_is
  rw [e1, Option.bind_some, e2, Option.bind_some, e3, Option.bind_some, e4, Option.bind_some, e5, Option.bind_some, e6, Option.bind_some, Bool.not_true, cond_false, e7, Option.bind_some, e8, Option.bind_some, decide_eq_true rfl, Bool.not_true, cond_false, e9, Option.bind_some, wx, e10, Option.bind_some, beq_self_eq_true, Bool.not_true, cond_false, e11, Option.bind_some, e12, Option.bind_some, decide_eq_true rfl, Bool.not_true, cond_false, decide_eq_true rfl, Bool.not_true, cond_false, beq_self_eq_true, Bool.not_true, cond_false, e13, Option.bind_some, Bool.not_true, cond_false, e14, Option.bind_some, e15, Option.bind_some]
  dsimp only
  by_cases q : (0 : Int) < (ks.length : Int)
  · obtain ⟨n0, hn0⟩ : ∃ m : Nat, x = (m : Int) := ⟨x.toNat, by omega⟩
    have wl : IntKind.wrap .u64 (ks.length : Int) = (ks.length : Int) := u64_in _ ⟨by omega, by omega⟩
    have wt : IntKind.wrap .i64 (x.tmod (ks.length : Int)) = ((n0 % ks.length : Nat) : Int) := by
      have := Nat.mod_lt n0 (show 0 < ks.length by omega)
      rw [hn0, show ((n0 : Int).tmod (ks.length : Int)) = ((n0 % ks.length : Nat) : Int) from (Int.ofNat_tmod n0 ks.length).symm ▸ rfl, i64_in _ ⟨by omega, by omega⟩]
    have hi := Nat.mod_lt n0 (show 0 < ks.length by omega)
    generalize n0 % ks.length = i at *
    have q1 : ¬ (ks.length : Int) = 0 := by omega
    have q2 : (0 : Int) ≤ (i : Int) := by omega
    have q3 : (i : Int) < (ks.length : Int) := by omega
    have hg := getD_some0 (l := ks) hi
    obtain ⟨⟨c1, c2⟩, c3⟩ := Cs.get (d := ((0 : Int), (([] : List Int), (([] : List Int), ([] : List (Int × Int)))))) h.con hg
    have hK := ris_low h.ris (List.mem_of_getElem? hg)
    obtain ⟨M, f1, f2⟩ := RBlock (k := k) (K := ks.getD i 0) hw hF ⟨hK.1, hK.2⟩ (by omega) (by omega)
    have f3 := RKind_eq (k := k) (row_sup F (ks.getD i 0)) f2 (by omega)
    have f4 := f2.list (k := k) (by omega)
    have f5 := CArray (k := k) (row_sup F (ks.getD i 0)) c1 (by omega)
    have f6 := SameM (row F (ks.getD i 0)) (k := k) (by omega)
    rw [decide_eq_true q, wl, wt, decide_eq_false q1, decide_eq_true q2, decide_eq_true q3, DAt h hi, Int.toNat_natCast]
    simp only [cond_true, Bool.not_false, Option.bind_some, f1, Bool.not_true, cond_false, Kind_eq, f3]
    rw [decide_eq_true c2]
    simp only [Bool.not_true, cond_false, f5, f4, f6, Option.bind_some, Bool.not_false, cond_true]
  · rw [decide_eq_false q]
    rfl
end Go.Rx.Tryz
/-! Rising lists; a set made of a directory. -/
namespace Go.Rx.Tryz
open Go.Rx.Plain Go.IntWalk
set_option linter.unusedVariables false
set_option linter.unusedSimpArgs false
def risB : Int → List Int → Bool
  | _, [] => true
  | m, K :: t => decide (m < K) && risB K t
theorem risB_ris : ∀ {l : List Int} {m n : Int}, risB m l = true → (∀ x, x ∈ l → x < 65536) → n ≤ m + 1 → ris n l
  | [], _, _, _, _, _ => trivial
  | K :: t, m, n, h, hb, hn => by
    rw [risB, Bool.and_eq_true, decide_eq_true_eq] at h
    exact ⟨by omega, hb K (by simp), risB_ris h.2 (fun x hx => hb x (by simp [hx])) (Int.le_refl _)⟩
theorem AMayB_l0 {a : List Int} (hb : a.length < 1000000) : ∀ (rest : List Int) (k i : Nat) (m : Int), i ≤ a.length → a.drop i = rest → 1 ≤ i → a.getD (i - 1) 0 = m → rest.length + 1 ≤ k → arrays_May_l0 k a (i : Int) = some (bif risB m rest then .inr () else .inl false)
  | [], 0, _, _, _, _, _, _, hk => by simp at hk
  | _ :: _, 0, _, _, _, _, _, _, hk => by simp at hk
  | [], k + 1, i, m, hi, h, h1, hm, hk => by
    have := drop_nil h hi
    have q : ¬ ((i : Int) < (a.length : Int)) := by omega
    rw [arrays_May_l0, decide_eq_false q]
    rfl
  | p :: t, k + 1, i, m, hi, h, h1, hm, hk => by
    obtain ⟨d1, d2, d3⟩ := drop_cons h (0 : Int)
    have q : ((i : Int) < (a.length : Int)) := by omega
    have q0 : (0 : Int) ≤ (i : Int) := by omega
    have e1 : IntKind.wrap .i64 ((i : Int) - 1) = ((i - 1 : Nat) : Int) := by rw [i64_in _ ⟨by omega, by omega⟩]; omega
    have e2 : IntKind.wrap .i64 ((i : Int) + 1) = ((i + 1 : Nat) : Int) := by rw [i64_in _ ⟨by omega, by omega⟩]; omega
    have q1 : (0 : Int) ≤ ((i - 1 : Nat) : Int) := by omega
    have q2 : ((i - 1 : Nat) : Int) < (a.length : Int) := by omega
    have hk' : t.length + 1 ≤ k := by simp at hk; omega
    have ih := AMayB_l0 hb t k (i + 1) p (by omega) d3 (by omega) d2 hk'
    rw [arrays_May_l0, risB]
    simp only [decide_eq_true q, decide_eq_true q0, decide_eq_true q1, decide_eq_true q2, cond_true, Int.toNat_natCast, d2, e1, e2, hm]
    by_cases c : p ≤ m
    · rw [decide_eq_true c, decide_eq_false (p := m < p) (by omega)]
      rfl
    · rw [decide_eq_false c, decide_eq_true (p := m < p) (by omega), cond_false, ih, Bool.true_and]
theorem AMayB_eq {a : List Int} {k : Nat} (hb : a.length < 1000000) (h0 : ∀ x, x ∈ a → 0 ≤ x) (hk : a.length + 2 ≤ k) : arrays_May k a = some (risB (-1) a) := by
  unfold arrays_May
  cases a with
  | nil =>
    obtain ⟨k, rfl⟩ : ∃ j, k = j + 1 := ⟨k - 1, by omega⟩
    rw [arrays_May_l0]
    rfl
  | cons x t =>
    have e := AMayB_l0 hb t k 1 x (by simp) rfl (Nat.le_refl _) rfl (by simp at hk; omega)
    have e' : arrays_May_l0 k (x :: t) 1 = _ := e
    have := h0 x (by simp)
    rw [e', risB, decide_eq_true (by omega), Bool.true_and]
    cases risB x t <;> rfl
theorem RMayB_l0 {a : List Int} (hb : a.length < 1000000) : ∀ (rest : List Int) (k i : Nat) (m : Int), i ≤ a.length → a.drop i = rest → 1 ≤ i → a.getD (i - 1) 0 = m → rest.length + 1 ≤ k → isinglassref04_May_l0 k a (i : Int) = some (bif risB m rest then .inr () else .inl false)
  | [], 0, _, _, _, _, _, _, hk => by simp at hk
  | _ :: _, 0, _, _, _, _, _, _, hk => by simp at hk
  | [], k + 1, i, m, hi, h, h1, hm, hk => by
    have := drop_nil h hi
    have q : ¬ ((i : Int) < (a.length : Int)) := by omega
    rw [isinglassref04_May_l0, decide_eq_false q]
    rfl
  | p :: t, k + 1, i, m, hi, h, h1, hm, hk => by
    obtain ⟨d1, d2, d3⟩ := drop_cons h (0 : Int)
    have q : ((i : Int) < (a.length : Int)) := by omega
    have q0 : (0 : Int) ≤ (i : Int) := by omega
    have e1 : IntKind.wrap .i64 ((i : Int) - 1) = ((i - 1 : Nat) : Int) := by rw [i64_in _ ⟨by omega, by omega⟩]; omega
    have e2 : IntKind.wrap .i64 ((i : Int) + 1) = ((i + 1 : Nat) : Int) := by rw [i64_in _ ⟨by omega, by omega⟩]; omega
    have q1 : (0 : Int) ≤ ((i - 1 : Nat) : Int) := by omega
    have q2 : ((i - 1 : Nat) : Int) < (a.length : Int) := by omega
    have hk' : t.length + 1 ≤ k := by simp at hk; omega
    have ih := RMayB_l0 hb t k (i + 1) p (by omega) d3 (by omega) d2 hk'
    rw [isinglassref04_May_l0, risB]
    simp only [decide_eq_true q, decide_eq_true q0, decide_eq_true q1, decide_eq_true q2, cond_true, Int.toNat_natCast, d2, e1, e2, hm]
    by_cases c : p ≤ m
    · rw [decide_eq_true c, decide_eq_false (p := m < p) (by omega)]
      rfl
    · rw [decide_eq_false c, decide_eq_true (p := m < p) (by omega), cond_false, ih, Bool.true_and]
theorem RMayB_eq {a : List Int} {k : Nat} (hb : a.length < 1000000) (h0 : ∀ x, x ∈ a → 0 ≤ x) (hk : a.length + 2 ≤ k) : isinglassref04_May k a = some (risB (-1) a) := by
  unfold isinglassref04_May
  cases a with
  | nil =>
    obtain ⟨k, rfl⟩ : ∃ j, k = j + 1 := ⟨k - 1, by omega⟩
    rw [isinglassref04_May_l0]
    rfl
  | cons x t =>
    have e := RMayB_l0 hb t k 1 x (by simp) rfl (Nat.le_refl _) rfl (by simp at hk; omega)
    have e' : isinglassref04_May_l0 k (x :: t) 1 = _ := e
    have := h0 x (by simp)
    rw [e', risB, decide_eq_true (by omega), Bool.true_and]
    cases risB x t <;> rfl
def CL : List Cont → List (Int → Bool) → Prop
  | [], [] => True
  | c :: cs, f :: fs => (IsC c f ∧ Sup f) ∧ CL cs fs
  | _, _ => False
def CC : List Cont → List (Int → Bool) → Prop
  | [], [] => True
  | c :: cs, f :: fs => Canon c f ∧ CC cs fs
  | _, _ => False
def okJ : Int → List Int → List (Int → Bool) → Bool
  | m, K :: ks, f :: fs => (!decide (nF f = 0) && decide (m < K)) && okJ K ks fs
  | _, _, _ => true
theorem CL.len : ∀ {cs : List Cont} {fs : List (Int → Bool)}, CL cs fs → cs.length = fs.length
  | [], [], _ => rfl
  | _ :: _, _ :: _, h => by rw [List.length_cons, List.length_cons, CL.len h.2]
theorem Join_l0 {ks : List Int} {L : List Cont} {K0 : Nat} (hK0 : 140000 ≤ K0) (hlen : ks.length = L.length) (hb : L.length < 1000000) (hk0 : ∀ x, x ∈ ks → 0 ≤ x ∧ x < 65536) : ∀ (rk : List Int) (rc : List Cont) (fs : List (Int → Bool)) (k i : Nat) (m : Int) (ak : List Int) (ac : List Cont), i ≤ ks.length → ks.drop i = rk → L.drop i = rc → CL rc fs → rk.length + K0 + 1 ≤ k → ak.length ≤ i → ac.length ≤ i → (i = 0 → m = -1) → (0 < i → ks.getD (i - 1) 0 = m) →
    (okJ m rk fs = false ∧ roaring_Join_l0 k ak ac ks L (L.length : Int) (i : Int) = some (.inl (none, 2))) ∨ (okJ m rk fs = true ∧ ∃ cs', roaring_Join_l0 k ak ac ks L (L.length : Int) (i : Int) = some (.inr (ak ++ rk, ac ++ cs')) ∧ CC cs' fs)
  | _, _, _, 0, _, _, _, _, _, _, _, _, hk, _, _, _, _ => by omega
  | [], rc, fs, k + 1, i, m, ak, ac, hi, h, h', hc, hk, b1, b2, m0, m1 => by
    have := drop_nil h hi
    have q : ¬ ((i : Int) < (L.length : Int)) := by omega
    have hrc : rc = [] := by rw [← h']; exact List.drop_eq_nil_of_le (by omega)
    subst hrc
    right
    cases fs with
    | cons f fs => exact hc.elim
    | nil => exact ⟨rfl, [], by rw [roaring_Join_l0, decide_eq_false q, List.append_nil, List.append_nil]; rfl, trivial⟩
  | K :: s, rc, fs, k + 1, i, m, ak, ac, hi, h, h', hc, hk, b1, b2, m0, m1 => by
    obtain ⟨d1, d2, d3⟩ := drop_cons h (0 : Int)
    cases rc with
    | nil =>
      have := drop_nil h' (by omega)
      omega
    | cons c rc =>
      cases fs with
      | nil => exact hc.elim
      | cons f fs =>
        obtain ⟨f1, f2, f3⟩ := drop_cons h' ((0 : Int), ([], ([], [])))
        have hKm : K ∈ ks := List.mem_of_mem_drop (i := i) (by rw [h]; simp)
        have hKb := hk0 K hKm
        have q : ((i : Int) < (L.length : Int)) := by omega
        have q2 : ((i : Int) < (ks.length : Int)) := by omega
        have q0 : (0 : Int) ≤ (i : Int) := by omega
        have e2 : IntKind.wrap .i64 ((i : Int) + 1) = ((i + 1 : Nat) : Int) := by rw [i64_in _ ⟨by omega, by omega⟩]; omega
        have n1 : s.length + K0 + 1 ≤ k := by simp at hk; omega
        have e1 := CLen (k := k) hc.1.2 hc.1.1 (by omega)
        obtain ⟨c', e3, e4, e5⟩ := CCanon (k := k) hc.1.2 hc.1.1 (by omega)
        have g1 : (ak.length + 1) * 2 ≤ 140737488355328 := by omega
        have g2 : ak.length + 1 ≤ 140737488355328 := by omega
        have g3 : (ac.length + 1) * 80 ≤ 140737488355328 := by omega
        have g4 : ac.length + 1 ≤ 140737488355328 := by omega
        have ih := Join_l0 hK0 hlen hb hk0 s rc fs k (i + 1) K (ak ++ [K]) (ac ++ [c']) (by omega) d3 f3 hc.2 n1 (by simp; omega) (by simp; omega) (fun c => by omega) (fun _ => d2)
        rw [List.append_assoc] at ih
        rw [roaring_Join_l0, okJ]
        simp only [decide_eq_true q, decide_eq_true q2, decide_eq_true q0, cond_true, Int.toNat_natCast, d2, f2, e1, e2, e3, Option.bind_some, List.length_cons, List.length_nil, Nat.zero_add, decide_eq_true g1, decide_eq_true g2, decide_eq_true g3, decide_eq_true g4]
        by_cases z : nF f = 0
        · left
          rw [decide_eq_true z]
          exact ⟨rfl, rfl⟩
        · rw [decide_eq_false z]
          have fin : ∀ hmK : m < K, (((!false && decide (m < K)) && okJ K s fs) = false ∧ roaring_Join_l0 k (ak ++ [K]) (ac ++ [c']) ks L (L.length : Int) ((i + 1 : Nat) : Int) = some (.inl (none, 2))) ∨ (((!false && decide (m < K)) && okJ K s fs) = true ∧ ∃ cs', roaring_Join_l0 k (ak ++ [K]) (ac ++ [c']) ks L (L.length : Int) ((i + 1 : Nat) : Int) = some (.inr (ak ++ K :: s, ac ++ cs')) ∧ CC cs' (f :: fs)) := fun hmK => by
            rw [decide_eq_true hmK, Bool.not_false, Bool.true_and, Bool.true_and]
            rcases ih with ⟨x1, x2⟩ | ⟨x1, cs', x2, x3⟩
            · exact Or.inl ⟨x1, x2⟩
            · exact Or.inr ⟨x1, c' :: cs', by rw [x2, List.append_assoc]; rfl, ⟨e4, e5⟩, x3⟩
          by_cases i0 : (0 : Int) < (i : Int)
          · have w1 : IntKind.wrap .i64 ((i : Int) - 1) = ((i - 1 : Nat) : Int) := by rw [i64_in _ ⟨by omega, by omega⟩]; omega
            have w2 : (0 : Int) ≤ ((i - 1 : Nat) : Int) := by omega
            have w3 : ((i - 1 : Nat) : Int) < (ks.length : Int) := by omega
            rw [decide_eq_true i0, w1]
            simp only [cond_true, cond_false, decide_eq_true w2, decide_eq_true w3, Int.toNat_natCast, m1 (by omega)]
            by_cases hmK : K ≤ m
            · left
              rw [decide_eq_true hmK, decide_eq_false (p := m < K) (by omega)]
              exact ⟨by simp, rfl⟩
            · rw [decide_eq_false hmK]
              exact fin (by omega)
          · rw [decide_eq_false i0]
            exact fin (by have := m0 (by omega); omega)
theorem Join_eq {ks : List Int} {L : List Cont} {fs : List (Int → Bool)} {k : Nat} (hb : L.length < 1000000) (hk0 : ∀ x, x ∈ ks → 0 ≤ x ∧ x < 65536) (hc : CL L fs) (hk : 1200000 ≤ k) :
    ((ks.length ≠ L.length ∨ okJ (-1) ks fs = false) ∧ roaring_Join k ks L = some (none, 2)) ∨ (ks.length = L.length ∧ okJ (-1) ks fs = true ∧ ∃ cs', roaring_Join k ks L = some (some (ks, cs'), 0) ∧ CC cs' fs) := by
  unfold roaring_Join
  by_cases q : ks.length = L.length
  · have q1 : (ks.length : Int) = (L.length : Int) := by omega
    have e : roaring_New k = some ([], []) := rfl
    rw [decide_eq_true q1, e]
    simp only [Bool.not_true, cond_false, Option.bind_some]
    rcases Join_l0 (K0 := 140000) (Nat.le_refl _) q hb hk0 ks L fs k 0 (-1) [] [] (by omega) rfl rfl hc (by omega) (by simp) (by simp) (fun _ => rfl) (fun c => by omega) with ⟨x1, x2⟩ | ⟨x1, cs', x2, x3⟩
    · have x2' : roaring_Join_l0 k [] [] ks L (L.length : Int) 0 = _ := x2
      left
      rw [x2']
      exact ⟨Or.inr x1, rfl⟩
    · have x2' : roaring_Join_l0 k [] [] ks L (L.length : Int) 0 = _ := x2
      right
      rw [x2']
      exact ⟨q, x1, cs', rfl, x3⟩
  · have q1 : ¬ (ks.length : Int) = (L.length : Int) := by omega
    rw [decide_eq_false q1]
    exact Or.inl ⟨Or.inl q, rfl⟩
end Go.Rx.Tryz
/-! RoaringJoins' own loops: what is wanted. -/
namespace Go.Rx.Tryz
open Go.Rx.Plain Go.IntWalk
set_option linter.unusedVariables false
set_option linter.unusedSimpArgs false
def FK : List Int → List (List Int) → Int → Bool
  | K :: ks, a :: ls, x => (decide (K * 65536 ≤ x) && decide (x < (K + 1) * 65536) && decide (x - K * 65536 ∈ a)) || FK ks ls x
  | _, _, _ => false
theorem FK_low {m x : Int} : ∀ {ks : List Int} {ls : List (List Int)}, (∀ K, K ∈ ks → m ≤ K) → x < m * 65536 → FK ks ls x = false
  | [], _, _, _ => by rw [FK]; intros; contradiction
  | _ :: _, [], _, _ => by rw [FK]; intros; contradiction
  | K :: ks, a :: ls, h, hx => by
    have := h K (by simp)
    rw [FK, FK_low (fun K' hK => h K' (by simp [hK])) hx, decide_eq_false (p := K * 65536 ≤ x) (by omega)]
    rfl
theorem FK_at {K x : Int} {ks : List Int} {a : List Int} {ls : List (List Int)} (h : ∀ K', K' ∈ ks → K + 1 ≤ K') (h0 : K * 65536 ≤ x) (h1 : x < (K + 1) * 65536) : FK (K :: ks) (a :: ls) x = decide (x - K * 65536 ∈ a) := by
  rw [FK, FK_low h h1, decide_eq_true h0, decide_eq_true h1]
  simp
theorem FK_hi {K x : Int} {ks : List Int} {a : List Int} {ls : List (List Int)} (h1 : (K + 1) * 65536 ≤ x) : FK (K :: ks) (a :: ls) x = FK ks ls x := by
  rw [FK, decide_eq_false (p := x < (K + 1) * 65536) (by omega)]
  simp
theorem JL1 {L : List Cont} {keys kinds : List Int} {lists : List (List Int)} {ok : Bool} {i : Nat} {n : Int} {a : List Int} (hi : i < lists.length) (hil : lists.length ≤ 10) (ha : lists.getD i [] = a) (hal : a.length ≤ 2000) (hk0 : ∀ x, x ∈ keys → 0 ≤ x ∧ x < 65536) (ha0 : ∀ x, x ∈ a → 0 ≤ x ∧ x < 65536) (hkl : keys.length ≤ 20) :
    ∀ (rest : List Int) (k j : Nat) (w : List (Int × Int)), j ≤ a.length → a.drop j = rest → rest.length + 1 ≤ k → w.length ≤ 2000 * i + j →
    ∃ w', isinglasslaw08_RoaringJoins_l1 k L w keys lists kinds ok (i : Int) n (i : Int) (a.length : Int) (j : Int) = some (L, w', keys, lists, kinds, ok, n, (i : Int)) ∧ w'.length ≤ 2000 * i + a.length ∧
      (∀ K, keys[i]? = some K → ∀ (F : Int → Bool) (b : Int), SpTo w F (K * 65536 + b) → 0 ≤ b → b ≤ 65536 → ris b rest → (∀ y, b ≤ y → y < 65536 → F (K * 65536 + y) = decide (y ∈ rest)) → SpTo w' F ((K + 1) * 65536))
  | [], 0, _, _, _, _, hk, _ => by simp at hk
  | _ :: _, 0, _, _, _, _, hk, _ => by simp at hk
  | [], k + 1, j, w, hj, h, hk, hw => by
    have := drop_nil h hj
    have q : ¬ ((j : Int) < (a.length : Int)) := by omega
    refine ⟨w, by rw [isinglasslaw08_RoaringJoins_l1, decide_eq_false q]; rfl, by omega, fun K hK F b hs b0 b1 hr hF => hs.skip (by omega) fun x x0 x1 => ?_⟩
    have := hF (x - K * 65536) (by omega) (by omega)
    rw [show K * 65536 + (x - K * 65536) = x by omega] at this
    rw [this]
    rfl
  | p :: t, k + 1, j, w, hj, h, hk, hw => by
    obtain ⟨d1, d2, d3⟩ := drop_cons h (0 : Int)
    have hp := ha0 p (List.mem_of_mem_drop (i := j) (by rw [h]; simp))
    have q : ((j : Int) < (a.length : Int)) := by omega
    have q0 : (0 : Int) ≤ (j : Int) := by omega
    have q1 : (0 : Int) ≤ (i : Int) := by omega
    have q2 : (i : Int) < (lists.length : Int) := by omega
    have e2 : IntKind.wrap .i64 ((j : Int) + 1) = ((j + 1 : Nat) : Int) := by rw [i64_in _ ⟨by omega, by omega⟩]; omega
    have hk' : t.length + 1 ≤ k := by simp at hk; omega
    have ih := fun w' (h' : w'.length ≤ 2000 * i + (j + 1)) => JL1 (L := L) (keys := keys) (kinds := kinds) (ok := ok) (n := n) hi hil ha hal hk0 ha0 hkl t k (j + 1) w' (by omega) d3 hk' h'
    rw [isinglasslaw08_RoaringJoins_l1]
    by_cases c : (i : Int) < (keys.length : Int)
    · obtain ⟨K, hK⟩ : ∃ K, keys[i]? = some K := ⟨_, getD_some0 (by omega)⟩
      have hKd : keys.getD i 0 = K := by rw [List.getD_eq_getElem?_getD, hK]; rfl
      have hKb := hk0 K (List.mem_of_getElem? hK)
      have w1 : IntKind.wrap .u64 K = K := u64_in _ ⟨by omega, by omega⟩
      have w2 : IntKind.wrap .u64 p = p := u64_in _ ⟨by omega, by omega⟩
      have w3 : IntKind.wrap .u64 (K * 65536) = K * 65536 := u64_in _ ⟨by omega, by omega⟩
      have w4 : IntKind.wrap .u64 (K * 65536 + p) = K * 65536 + p := u64_in _ ⟨by omega, by omega⟩
      have w5 : IntKind.wrap .u64 (K * 65536 + p + 1) = K * 65536 + p + 1 := u64_in _ ⟨by omega, by omega⟩
      have g1 : (w.length + 1) * 16 ≤ 140737488355328 := by omega
      have g2 : w.length + 1 ≤ 140737488355328 := by omega
      have pre : ∀ (F : Int → Bool) (b : Int), SpTo w F (K * 65536 + b) → ris b (p :: t) → (∀ y, b ≤ y → y < 65536 → F (K * 65536 + y) = decide (y ∈ p :: t)) → SpTo w F (K * 65536 + p) ∧ (∀ x, K * 65536 + p ≤ x → x < K * 65536 + p + 1 → F x = true) ∧ (∀ y, p + 1 ≤ y → y < 65536 → F (K * 65536 + y) = decide (y ∈ t)) := fun F b hs hr hF => by
        obtain ⟨r1, r2, r3⟩ := hr
        refine ⟨hs.skip (by omega) fun x x0 x1 => ?_, fun x x0 x1 => ?_, fun y y0 y1 => ?_⟩
        · have := hF (x - K * 65536) (by omega) (by omega)
          rw [show K * 65536 + (x - K * 65536) = x by omega] at this
          rw [this, decide_eq_false]
          intro g
          rcases List.mem_cons.1 g with g | g
          · omega
          · have := (ris_low r3 g).1
            omega
        · have := hF p r1 r2
          rw [show x = K * 65536 + p by omega, this, decide_eq_true (by simp)]
        · rw [hF y (by omega) y1]
          refine decide_eq_decide.2 ⟨fun g => ?_, fun g => by simp [g]⟩
          rcases List.mem_cons.1 g with g | g
          · omega
          · exact g
      have fin : ∀ w2 : List (Int × Int), w2.length ≤ 2000 * i + (j + 1) → (∀ F : Int → Bool, SpTo w F (K * 65536 + p) → (∀ x, K * 65536 + p ≤ x → x < K * 65536 + p + 1 → F x = true) → SpTo w2 F (K * 65536 + p + 1)) →
          ∃ w', isinglasslaw08_RoaringJoins_l1 k L w2 keys lists kinds ok (i : Int) n (i : Int) (a.length : Int) ((j + 1 : Nat) : Int) = some (L, w', keys, lists, kinds, ok, n, (i : Int)) ∧ w'.length ≤ 2000 * i + a.length ∧
            (∀ K, keys[i]? = some K → ∀ (F : Int → Bool) (b : Int), SpTo w F (K * 65536 + b) → 0 ≤ b → b ≤ 65536 → ris b (p :: t) → (∀ y, b ≤ y → y < 65536 → F (K * 65536 + y) = decide (y ∈ p :: t)) → SpTo w' F ((K + 1) * 65536)) := fun w2 hl hstep => by
        obtain ⟨w', x1, x2, x3⟩ := ih w2 hl
        refine ⟨w', x1, x2, fun K' hK' F b hs b0 b1 hr hF => ?_⟩
        rw [hK] at hK'
        cases hK'
        obtain ⟨s1, s2, s3⟩ := pre F b hs hr hF
        exact x3 K hK F (p + 1) (by rw [← Int.add_assoc]; exact hstep F s1 s2) (by omega) (by omega) hr.2.2 s3
      simp only [decide_eq_true q, decide_eq_true q0, decide_eq_true q1, decide_eq_true q2, decide_eq_true c, cond_true, Int.toNat_natCast, ha, hKd, d2, w1, w2, w3, w4, w5, e2, List.length_cons, List.length_nil, Nat.zero_add, decide_eq_true g1, decide_eq_true g2]
      rcases List.eq_nil_or_concat w with hwn | ⟨init, z, hwn⟩
      · subst hwn
        have z0 : ¬ ((0 : Int) < ((List.length ([] : List (Int × Int)) : Nat) : Int)) := by simp
        rw [decide_eq_false z0]
        exact fin _ (by simp only [List.nil_append, List.length_cons, List.length_nil]; omega) fun F s1 s2 => s1.new (by omega) (fun p hp => (nomatch hp)) (by omega) (by omega) s2
      · rw [List.concat_eq_append] at hwn
        subst hwn
        have hlen : (init ++ [z]).length = init.length + 1 := by simp
        have z0 : ((0 : Int) < (((init ++ [z]).length : Nat) : Int)) := by omega
        have z1 : IntKind.wrap .i64 (((init ++ [z]).length : Int) - 1) = ((init.length : Nat) : Int) := by rw [i64_in _ ⟨by omega, by omega⟩]; omega
        have z2 : (0 : Int) ≤ ((init.length : Nat) : Int) := by omega
        have z3 : ((init.length : Nat) : Int) < (((init ++ [z]).length : Nat) : Int) := by omega
        have z4 : (init ++ [z]).getD init.length ((0 : Int), (0 : Int)) = z := by simp [List.getD]
        have z5 : ∀ v, (init ++ [z]).set init.length v = init ++ [v] := fun v => by
          rw [List.set_append_right _ _ (Nat.le_refl _)]
          simp
        simp only [decide_eq_true z0, z1, decide_eq_true z2, decide_eq_true z3, cond_true, Int.toNat_natCast, z4, z5]
        by_cases cz : z.2 = K * 65536 + p
        · rw [decide_eq_true cz, cz, w5]
          exact fin _ (by simp at hlen hw ⊢; omega) fun F s1 s2 => s1.more cz (by omega) (by omega) s2
        · rw [decide_eq_false cz]
          refine fin _ (by simp at hlen hw ⊢; omega) fun F s1 s2 => s1.new (by omega) (fun p' hp' => ?_) (by omega) (by omega) s2
          rcases List.mem_append.1 hp' with hp' | hp'
          · have b1 := sp_bef s1.sp
            have := b1.2.2 p' hp'
            have := s1.le z (by simp)
            omega
          · rw [List.mem_singleton.1 hp']; exact cz
    · obtain ⟨w', x1, x2, x3⟩ := ih w (by omega)
      simp only [decide_eq_true q, decide_eq_false c, cond_true, cond_false, e2]
      refine ⟨w', x1, x2, fun K hK => ?_⟩
      have := (List.getElem?_eq_some_iff.1 hK).1
      omega
end Go.Rx.Tryz
/-! RoaringJoins' own loops: the containers, what is wanted, and whether it may be. -/
namespace Go.Rx.Tryz
open Go.Rx.Plain Go.IntWalk
set_option linter.unusedVariables false
set_option linter.unusedSimpArgs false
def ne0 (a : List Int) : Bool := decide ((0 : Int) < (a.length : Int))
/-- What comes of the loop over the lists. -/
def JRes (keys : List Int) (rest : List (List Int)) (rk : List Int) (L : List Cont) (w : List (Int × Int)) (ok : Bool) (r : Option (Bool ⊕ (List Cont × List (Int × Int) × List Int × Bool))) : Prop :=
  r = some (.inl true) ∨ ∃ L' w', r = some (.inr (L ++ L', w', keys, (ok && rest.all ne0))) ∧ CL L' (rest.map setL) ∧ (∀ a, a ∈ rest → ris 0 a ∧ a.length ≤ 2000) ∧
    (∀ (F : Int → Bool) (m : Int), risB (m - 1) rk = true → SpTo w F (m * 65536) → 0 ≤ m → m ≤ 65536 → rk.length = rest.length → (∀ x, m * 65536 ≤ x → F x = FK rk rest x) → SpTo w' F 4294967296)
theorem setL_ris {a : List Int} (h : ris 0 a) : mem (setL a) = a := (ris_ext h fun x _ _ => by unfold setL; rw [decide_eq_true_eq]).symm
theorem risB_low : ∀ {l : List Int} {m : Int}, risB m l = true → ∀ x, x ∈ l → m + 1 ≤ x
  | K :: t, m, h, x, hx => by
    rw [risB, Bool.and_eq_true, decide_eq_true_eq] at h
    rcases List.mem_cons.1 hx with g | g
    · omega
    · have := risB_low h.2 x g
      omega
theorem JL0 {keys kinds : List Int} {lists : List (List Int)} {K0 : Nat} (hK0 : 610000 ≤ K0) (hil : lists.length ≤ 10) (hkl : keys.length ≤ 20) (hk0 : ∀ x, x ∈ keys → 0 ≤ x ∧ x < 65536) (hl0 : ∀ a, a ∈ lists → ∀ x, x ∈ a → 0 ≤ x ∧ x < 65536) :
    ∀ (rest : List (List Int)) (k i : Nat) (L : List Cont) (w : List (Int × Int)) (ok : Bool) (rk : List Int), i ≤ lists.length → lists.drop i = rest → keys.drop i = rk → rest.length + K0 + 1 ≤ k → w.length ≤ 2000 * i → L.length ≤ i →
    JRes keys rest rk L w ok (isinglasslaw08_RoaringJoins_l0 k L w keys lists kinds ok (lists.length : Int) (i : Int))
  | _, 0, _, _, _, _, _, _, _, _, hk, _, _ => by omega
  | [], k + 1, i, L, w, ok, rk, hi, h, hr, hk, hw, hL => by
    have := drop_nil h hi
    have q : ¬ ((i : Int) < (lists.length : Int)) := by omega
    right
    refine ⟨[], w, by rw [isinglasslaw08_RoaringJoins_l0, decide_eq_false q, List.append_nil, List.all_nil, Bool.and_true]; rfl, trivial, fun a ha => (nomatch ha), fun F m hB hs m0 m1 hlen hF => hs.skip (by omega) fun x x0 x1 => ?_⟩
    rw [hF x x0]
    cases rk with
    | nil => rw [FK]; intros; contradiction
    | cons K t => rw [FK]; intros; contradiction
  | a :: t, k + 1, i, L, w, ok, rk, hi, h, hr, hk, hw, hL => by
    obtain ⟨d1, d2, d3⟩ := drop_cons h ([] : List Int)
    have ham : a ∈ lists := List.mem_of_mem_drop (i := i) (by rw [h]; simp)
    have ha0 := hl0 a ham
    have q : ((i : Int) < (lists.length : Int)) := by omega
    have q0 : (0 : Int) ≤ (i : Int) := by omega
    have e2 : IntKind.wrap .i64 ((i : Int) + 1) = ((i + 1 : Nat) : Int) := by rw [i64_in _ ⟨by omega, by omega⟩]; omega
    have hk' : t.length + K0 + 1 ≤ k := by simp at hk; omega
    have kn := known8 (k := k) (by omega)
    rw [isinglasslaw08_RoaringJoins_l0]
    simp only [decide_eq_true q, decide_eq_true q0, cond_true, Int.toNat_natCast, d2]
    by_cases c1 : (2000 : Int) < (a.length : Int)
    · rw [decide_eq_true c1, cond_true, kn]
      exact Or.inl rfl
    · have hal : a.length ≤ 2000 := by omega
      rw [decide_eq_false c1, cond_false]
      have em := AMayB_eq (a := a) (k := k) (by omega) (fun x hx => (ha0 x hx).1) (by omega)
      cases hB : risB (-1) a with
      | false =>
        rw [hB] at em
        have eo : container_OfArray k a = some (((0 : Int), (([] : List Int), (([] : List Int), ([] : List (Int × Int))))), false) := by
          unfold container_OfArray
          rw [em]
          rfl
        rw [eo, Option.bind_some, Bool.not_false, cond_true, kn]
        exact Or.inl rfl
      | true =>
        have hra := risB_ris hB (fun x hx => (ha0 x hx).2) (Int.le_refl _)
        have hsl := setL_ris hra
        have hsup := setL_sup ha0
        have eo : container_OfArray k a = some (((1 : Int), (a, (([] : List Int), ([] : List (Int × Int))))), true) := by
          have := OfArray_eq (f := setL a) (k := k) (by omega)
          rw [hsl] at this
          exact this
        have ic : IsC ((1 : Int), (a, (([] : List Int), ([] : List (Int × Int))))) (setL a) := by
          have : IsC ((1 : Int), (mem (setL a), (([] : List Int), ([] : List (Int × Int))))) (setL a) := IsC.arr (Or.inr rfl)
          rw [hsl] at this
          exact this
        have g1 : (L.length + 1) * 80 ≤ 140737488355328 := by omega
        have g2 : L.length + 1 ≤ 140737488355328 := by omega
        have fin : ∀ (c : Cont), IsC c (setL a) → ∀ okv : Bool, okv = (ok && ne0 a) → JRes keys (a :: t) rk L w ok ((isinglasslaw08_RoaringJoins_l1 k (L ++ [c]) w keys lists kinds okv (i : Int) (lists.length : Int) (i : Int) (a.length : Int) 0).bind fun y =>
            isinglasslaw08_RoaringJoins_l0 k y.1 y.2.1 y.2.2.1 y.2.2.2.1 y.2.2.2.2.1 y.2.2.2.2.2.1 y.2.2.2.2.2.2.1 (IntKind.wrap .i64 (y.2.2.2.2.2.2.2 + 1))) := fun c hc okv hok => by
          obtain ⟨w', x1, x2, x3⟩ := JL1 (L := L ++ [c]) (keys := keys) (kinds := kinds) (ok := okv) (n := (lists.length : Int)) d1 hil d2 hal hk0 ha0 hkl a k 0 w (by omega) rfl (by omega) hw
          have x1' : isinglasslaw08_RoaringJoins_l1 k (L ++ [c]) w keys lists kinds okv (i : Int) (lists.length : Int) (i : Int) (a.length : Int) 0 = _ := x1
          rw [x1', Option.bind_some]
          dsimp only
          rw [e2]
          rcases JL0 (kinds := kinds) hK0 hil hkl hk0 hl0 t k (i + 1) (L ++ [c]) w' okv (rk.drop 1) (by omega) d3 (by rw [← hr, List.drop_drop]) hk' (by omega) (by simp; omega) with y | ⟨L', w2, y1, y2, y3, y4⟩
          · exact Or.inl y
          · refine Or.inr ⟨c :: L', w2, by rw [y1, hok, List.append_assoc, List.all_cons, Bool.and_assoc]; rfl, ⟨⟨hc, hsup⟩, y2⟩, fun b hb => ?_, fun F m hB hs m0 m1 hlen hF => ?_⟩
            · rcases List.mem_cons.1 hb with g | g
              · rw [g]; exact ⟨hra, hal⟩
              · exact y3 b g
            · cases rk with
              | nil => simp at hlen
              | cons K rk =>
                obtain ⟨z1, z2, z3⟩ := drop_cons hr (0 : Int)
                rw [risB, Bool.and_eq_true, decide_eq_true_eq] at hB
                have hKi : keys[i]? = some K := by
                  rw [← z2]
                  exact getD_some0 z1
                have hKb := hk0 K (List.mem_of_getElem? hKi)
                have lowt := risB_low hB.2
                have hs1 : SpTo w F (K * 65536 + 0) := hs.skip (by omega) fun x x0 x1 => by
                  rw [hF x x0, FK_low (m := K) (fun K' hK' => ?_) (by omega)]
                  rcases List.mem_cons.1 hK' with g | g
                  · omega
                  · have := lowt K' g
                    omega
                have hs2 := x3 K hKi F 0 hs1 (by omega) (by omega) hra fun y y0 y1 => by
                  rw [hF _ (by omega), FK_at lowt (by omega) (by omega), show K * 65536 + y - K * 65536 = y by omega]
                exact y4 F (K + 1) (by rw [show K + 1 - 1 = K by omega]; exact hB.2) hs2 (by omega) (by omega) (by simpa using hlen) fun x x0 => by
                  rw [hF x (by omega), FK_hi x0]
                  rfl
        rw [eo, Option.bind_some]
        by_cases k0 : (i : Int) < (kinds.length : Int)
        · by_cases k1 : (kinds.getD i (0 : Int)).tmod 3 = 1
          · have k2 : ¬ (kinds.getD i (0 : Int)).tmod 3 = 2 := by omega
            obtain ⟨W, f1, f2, f3⟩ := CWords (k := k) hsup ic (by omega)
            have f4 := OfWords_eq (k := k) f2
            simp only [Bool.not_true, cond_false, decide_eq_true k0, decide_eq_true q0, cond_true, Int.toNat_natCast, decide_eq_true k1, decide_eq_false k2, f1, f4, Option.bind_some, List.length_cons, List.length_nil, Nat.zero_add, decide_eq_true g1, decide_eq_true g2, d2, decide_eq_true q]
            cases ok with
            | true => exact fin _ (IsC.wrd f2 f3) _ rfl
            | false => exact fin _ (IsC.wrd f2 f3) _ rfl
          · by_cases k2 : (kinds.getD i (0 : Int)).tmod 3 = 2
            · obtain ⟨r, f1, f2, f3, f4⟩ := CRuns (k := k) hsup ic (by omega)
              have f5 := OfRuns_eq (k := k) f2 f3 (runs_len_le f2 f3 f4) (by omega)
              simp only [Bool.not_true, cond_false, decide_eq_true k0, decide_eq_true q0, cond_true, Int.toNat_natCast, decide_eq_false k1, decide_eq_true k2, f1, f5, Option.bind_some, List.length_cons, List.length_nil, Nat.zero_add, decide_eq_true g1, decide_eq_true g2, d2, decide_eq_true q]
              cases ok with
              | true => exact fin _ (IsC.run f2 f3 f4) _ rfl
              | false => exact fin _ (IsC.run f2 f3 f4) _ rfl
            · simp only [Bool.not_true, cond_false, decide_eq_true k0, decide_eq_true q0, cond_true, Int.toNat_natCast, decide_eq_false k1, decide_eq_false k2, Option.bind_some, List.length_cons, List.length_nil, Nat.zero_add, decide_eq_true g1, decide_eq_true g2, d2, decide_eq_true q]
              cases ok with
              | true => exact fin _ ic _ rfl
              | false => exact fin _ ic _ rfl
        · simp only [Bool.not_true, cond_false, decide_eq_false k0, decide_eq_true q0, cond_true, Int.toNat_natCast, Option.bind_some, List.length_cons, List.length_nil, Nat.zero_add, decide_eq_true g1, decide_eq_true g2, d2, decide_eq_true q]
          cases ok with
          | true => exact fin _ ic _ rfl
          | false => exact fin _ ic _ rfl
end Go.Rx.Tryz
/-! RoaringJoins' pure function answers true. -/
namespace Go.Rx.Tryz
open Go.Rx.Plain Go.IntWalk
set_option linter.unusedVariables false
set_option linter.unusedSimpArgs false
theorem CC.cl : ∀ {cs L : List Cont} {fs : List (Int → Bool)}, CC cs fs → CL L fs → CL cs fs
  | [], [], [], _, _ => trivial
  | [], _ :: _, [], _, g => g.elim
  | _ :: _, [], _ :: _, _, g => g.elim
  | _ :: _, _ :: _, _ :: _, h, g => ⟨⟨h.1.1, g.1.2⟩, CC.cl h.2 g.2⟩
theorem CC.len : ∀ {cs : List Cont} {fs : List (Int → Bool)}, CC cs fs → cs.length = fs.length
  | [], [], _ => rfl
  | _ :: _, _ :: _, h => by rw [List.length_cons, List.length_cons, CC.len h.2]
theorem nF_setL {a : List Int} (h : ris 0 a) : nF (setL a) = (a.length : Int) := by
  unfold nF
  rw [setL_ris h]
theorem kF_small {n r : Int} (h : n ≤ 4096) : kF n r ≠ 2 := by
  unfold kF
  split
  · omega
  · omega
theorem CC.nw : ∀ {cs : List Cont} {ls : List (List Int)}, CC cs (ls.map setL) → (∀ a, a ∈ ls → ris 0 a ∧ a.length ≤ 2000) → NW cs
  | [], [], _, _ => fun c hc => (nomatch hc)
  | c :: cs, a :: ls, h, g => fun c' hc' => by
    rcases List.mem_cons.1 hc' with q | q
    · have ga := g a (by simp)
      rw [q, h.1.2, nF_setL ga.1]
      exact kF_small (by omega)
    · exact CC.nw h.2 (fun a ha => g a (by simp [ha])) c' q
theorem okJ_eq : ∀ {ks : List Int} {ls : List (List Int)} {m : Int}, ks.length = ls.length → (∀ a, a ∈ ls → ris 0 a ∧ a.length ≤ 2000) → okJ m ks (ls.map setL) = (ls.all ne0 && risB m ks)
  | [], [], _, _, _ => rfl
  | K :: ks, a :: ls, m, hl, g => by
    have ga := g a (by simp)
    rw [List.map_cons, okJ, okJ_eq (by simpa using hl) fun a ha => g a (by simp [ha]), List.all_cons, risB, nF_setL ga.1]
    have : (!decide ((a.length : Int) = 0)) = ne0 a := by
      unfold ne0
      rw [← decide_not]
      exact decide_eq_decide.2 (by omega)
    rw [this]
    cases ne0 a <;> cases decide (m < K) <;> cases ls.all ne0 <;> cases risB K ks <;> rfl
theorem FK_in {x : Int} : ∀ {ks : List Int} {ls : List (List Int)}, FK ks ls x = true → x / 65536 ∈ ks
  | K :: ks, a :: ls, h => by
    rw [FK, Bool.or_eq_true] at h
    rcases h with h | h
    · simp only [Bool.and_eq_true, decide_eq_true_eq] at h
      have : x / 65536 = K := by omega
      rw [this]
      simp
    · exact List.mem_cons_of_mem _ (FK_in h)
theorem join_rows {F : Int → Bool} : ∀ {ks : List Int} {ls : List (List Int)} {cs : List Cont} {m : Int}, risB (m - 1) ks = true → (∀ x, m * 65536 ≤ x → F x = FK ks ls x) → CC cs (ls.map setL) → (∀ a, a ∈ ls → ∀ x, x ∈ a → 0 ≤ x ∧ x < 65536) → ks.length = ls.length → Cs F ks cs ∧ (ls.all ne0 = true → ∀ K, K ∈ ks → ∃ y, row F K y = true)
  | [], [], [], _, _, _, _, _, _ => ⟨trivial, fun _ K hK => (nomatch hK)⟩
  | K :: ks, a :: ls, c :: cs, m, hB, hF, hc, hw, hl => by
    rw [risB, Bool.and_eq_true, decide_eq_true_eq] at hB
    have lowt := risB_low hB.2
    have ha := hw a (by simp)
    have hr : row F K = setL a := by
      funext y
      by_cases q : 0 ≤ y ∧ y < 65536
      · rw [row_in q.1 q.2, hF _ (by omega), FK_at lowt (by omega) (by omega), show K * 65536 + y - K * 65536 = y by omega]
        rfl
      · rw [row_sup F K y (by omega), setL_sup ha y (by omega)]
    have ih := join_rows (F := F) (m := K + 1) (by rw [show K + 1 - 1 = K by omega]; exact hB.2) (fun x hx => by rw [hF x (by omega), FK_hi hx]) hc.2 (fun a ha => hw a (by simp [ha])) (by simpa using hl)
    refine ⟨⟨by rw [hr]; exact hc.1, ih.1⟩, fun hne K' hK' => ?_⟩
    rw [List.all_cons, Bool.and_eq_true] at hne
    rcases List.mem_cons.1 hK' with q | q
    · have h0 := hne.1
      unfold ne0 at h0
      rw [decide_eq_true_eq] at h0
      cases a with
      | nil => simp at h0
      | cons z t =>
        refine ⟨z, ?_⟩
        rw [q, hr]
        unfold setL
        simp
    · exact ih.2 hne.2 K' q
theorem join_set {ks : List Int} {ls : List (List Int)} {cs : List Cont} (hk0 : ∀ x, x ∈ ks → 0 ≤ x ∧ x < 65536) (hw : ∀ a, a ∈ ls → ∀ x, x ∈ a → 0 ≤ x ∧ x < 65536) (hl : ks.length = ls.length) (hB : risB (-1) ks = true) (hne : ls.all ne0 = true) (hc : CC cs (ls.map setL)) : IsS ks cs (FK ks ls) := by
  obtain ⟨h1, h2⟩ := join_rows (F := FK ks ls) (m := 0) (by rw [show (0 : Int) - 1 = -1 by omega]; exact hB) (fun x _ => rfl) hc hw hl
  refine ⟨risB_ris hB (fun x hx => (hk0 x hx).2) (by omega), h1, fun K y hy hK0 hK1 => ?_, h2 hne, fun x hx => ?_⟩
  · obtain ⟨g1, g2⟩ := row_true hy
    have := FK_in g2
    rw [show (K * 65536 + y) / 65536 = K by omega] at this
    exact this
  · cases hf : FK ks ls x with
    | false => rfl
    | true =>
      have := hk0 _ (FK_in hf)
      omega
theorem JL2 {ks : List Int} {cs : List Cont} {F : Int → Bool} (h : IsS ks cs F) : ∀ (rest : List Cont) (k i : Nat) (acc : List Cont), i ≤ cs.length → cs.drop i = rest → rest.length + 1 ≤ k → acc.length ≤ i → isinglasslaw08_RoaringJoins_l2 k acc (some (ks, cs)) (ks.length : Int) (i : Int) = some (acc ++ rest, some (ks, cs))
  | [], 0, _, _, _, _, hk, _ => by simp at hk
  | _ :: _, 0, _, _, _, _, hk, _ => by simp at hk
  | [], k + 1, i, acc, hi, hd, hk, ha => by
    have := drop_nil hd hi
    have := h.con.len
    have q : ¬ ((i : Int) < (ks.length : Int)) := by omega
    rw [isinglasslaw08_RoaringJoins_l2, decide_eq_false q, List.append_nil]
    rfl
  | c :: t, k + 1, i, acc, hi, hd, hk, ha => by
    obtain ⟨d1, d2, d3⟩ := drop_cons hd ((0 : Int), (([] : List Int), (([] : List Int), ([] : List (Int × Int)))))
    have hl := h.con.len
    have hkl := ris_len h.ris
    have q : ((i : Int) < (ks.length : Int)) := by omega
    have e2 : IntKind.wrap .i64 ((i : Int) + 1) = ((i + 1 : Nat) : Int) := by rw [i64_in _ ⟨by omega, by omega⟩]; omega
    have hk' : t.length + 1 ≤ k := by simp at hk; omega
    have g1 : (acc.length + 1) * 80 ≤ 140737488355328 := by omega
    have g2 : acc.length + 1 ≤ 140737488355328 := by omega
    have ih := JL2 h t k (i + 1) (acc ++ [c]) (by omega) d3 hk' (by simp; omega)
    rw [isinglasslaw08_RoaringJoins_l2, decide_eq_true q, cond_true, DAt h (by omega), d2]
    simp only [Option.bind_some, List.length_cons, List.length_nil, Nat.zero_add, decide_eq_true g1, decide_eq_true g2, cond_true, e2, ih, List.append_assoc, List.singleton_append]
theorem join8 {keys kinds : List Int} {lists : List (List Int)} {k : Nat} (hk0 : ∀ x, x ∈ keys → 0 ≤ x ∧ x < 65536) (hl0 : ∀ a, a ∈ lists → ∀ x, x ∈ a → 0 ≤ x ∧ x < 65536) (hk : 21000000000 ≤ k) : isinglasslaw08_RoaringJoins k keys lists kinds = some true := by
  have kn := known8 (k := k) (by omega)
  unfold isinglasslaw08_RoaringJoins
  by_cases c1 : (10 : Int) < (lists.length : Int)
  · rw [decide_eq_true c1, cond_true, kn]
    rfl
  by_cases c2 : (20 : Int) < (keys.length : Int)
  · rw [decide_eq_false c1, cond_false, decide_eq_true c2, cond_true, kn]
    rfl
  rw [decide_eq_false c1, cond_false, decide_eq_false c2, cond_false]
  rcases JL0 (K0 := 610000) (kinds := kinds) (Nat.le_refl _) (by omega) (by omega) hk0 hl0 lists k 0 [] [] (decide ((keys.length : Int) = (lists.length : Int))) keys (by omega) rfl rfl (by omega) (by simp) (by simp) with e | ⟨L, w, e, hCL, hall, hw⟩
  · have e' : isinglasslaw08_RoaringJoins_l0 k [] [] keys lists kinds (decide ((keys.length : Int) = (lists.length : Int))) (lists.length : Int) 0 = _ := e
    rw [e', Option.bind_some]
  · have e' : isinglasslaw08_RoaringJoins_l0 k [] [] keys lists kinds (decide ((keys.length : Int) = (lists.length : Int))) (lists.length : Int) 0 = _ := e
    have hLl := hCL.len
    rw [List.length_map] at hLl
    have em := RMayB_eq (a := keys) (k := k) (by omega) (fun x hx => (hk0 x hx).1) (by omega)
    rw [e', Option.bind_some, List.nil_append]
    dsimp only
    rcases Join_eq (k := k) (by omega) hk0 hCL (by omega) with ⟨hbad, ej⟩ | ⟨hlen, hok, cs, ej, hcc⟩
    · rw [ej, Option.bind_some]
      dsimp only
      rw [Option.isNone_none, cond_true, decide_eq_true rfl, cond_true, kn, Option.bind_some]
      simp only [cond_true]
      cases hb : (decide ((keys.length : Int) = (lists.length : Int)) && lists.all ne0) with
      | false => rfl
      | true =>
        rw [Bool.and_eq_true, decide_eq_true_eq] at hb
        rw [Bool.not_true, cond_false, em, Option.bind_some]
        rcases hbad with q | q
        · omega
        · rw [okJ_eq (by omega) hall, hb.2, Bool.true_and] at q
          rw [q]
          rfl
    · have hkl : keys.length = lists.length := by omega
      rw [okJ_eq hkl hall, Bool.and_eq_true] at hok
      have hs := join_set hk0 hl0 hkl hok.2 hok.1 hcc
      have hnw := hcc.nw hall
      have hsp : SpTo [] (FK keys lists) (0 * 65536) := ⟨trivial, fun p hp => (nomatch hp), fun x => by
        show false = _
        by_cases c : x < 0
        · rw [hs.sup x (.inl c)]; rfl
        · rw [decide_eq_false (by omega), Bool.and_false]⟩
      have hw2 := hw (FK keys lists) 0 (by rw [show (0 : Int) - 1 = -1 by omega]; exact hok.2) hsp (by omega) (by omega) hkl fun x _ => rfl
      have hwF : ∀ y, hasS w y = FK keys lists y := fun y => by
        rw [hw2.has]
        by_cases c : y < 4294967296
        · rw [decide_eq_true c, Bool.and_true]
        · rw [hs.sup y (.inr (by omega))]; rfl
      have e1 := is_true (k := k) (x := 0) (at_ := 70000) (n := 5) hs hnw hw2.sp hwF ⟨by omega, by omega⟩ (by omega) (by omega) (by omega)
      have e2 := DKeys (k := k) hs
      have hcl := hcc.len
      rw [List.length_map] at hcl
      have e3 := JL2 hs cs k 0 [] (by omega) rfl (by omega) (by simp)
      have e3' : isinglasslaw08_RoaringJoins_l2 k [] (some (keys, cs)) (keys.length : Int) 0 = some ([] ++ cs, some (keys, cs)) := e3
      rw [List.nil_append] at e3'
      have hq : (keys.length : Int) = (lists.length : Int) := by omega
      rw [ej, Option.bind_some, decide_eq_true hq, hok.1, em, hok.2]
      simp only [Bool.and_self, Bool.not_true, cond_false, Option.bind_some, Option.isNone_some, decide_true, e1, e2, e3']
      rcases Join_eq (k := k) (by omega) hk0 (hcc.cl hCL) (by omega) with ⟨hbad, _⟩ | ⟨_, _, cs2, ej2, hcc2⟩
      · exfalso
        rcases hbad with q | q
        · omega
        · rw [okJ_eq hkl hall, hok.1, hok.2] at q
          cases q
      · have hs2 := join_set hk0 hl0 hkl hok.2 hok.1 hcc2
        have e4 := DSame (k := k) hs2 hs (fun x => rfl) (by omega)
        rw [ej2, Option.bind_some]
        simp only [decide_true, cond_true, e4, Option.bind_some, kn]
end Go.Rx.Tryz

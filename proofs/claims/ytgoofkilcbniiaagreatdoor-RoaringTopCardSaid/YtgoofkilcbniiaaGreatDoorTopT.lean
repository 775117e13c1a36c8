/- RoaringTop's pure function answers true. -/
import Derived.Test.YtgoofkilcbniiaaGreatDoorLwD
import Derived.KernelRfl
namespace Go.Rx.Tryz
open Go.Rx.Plain Go.IntWalk
set_option linter.unusedVariables false
set_option linter.unusedSimpArgs false
theorem or_none (f : Int → Bool) : (fun x => none0 x || f x) = f := rfl
theorem SSpans1 {lo hi : Int} {k : Nat} (h0 : 0 ≤ lo) (h1 : 0 ≤ hi) (hk : 400001 ≤ k) : ∃ ks cs, roaring_Spans k [(lo, hi)] = some (ks, cs) ∧ IsS ks cs (ivl lo (min hi 4294967296)) := by
  obtain ⟨k, rfl⟩ : ∃ j, k = j + 1 := ⟨k - 1, by omega⟩
  obtain ⟨k, rfl⟩ : ∃ j, k = j + 1 := ⟨k - 1, by omega⟩
  by_cases hk2 : 400000 ≤ k + 1
  · obtain ⟨ks, cs, e, h, _⟩ := SAdd (k := k + 1) (lo := lo) (hi := hi) IsS.empty h0 h1 (fun p hp => (nomatch hp)) hk2
    have hF : (fun x => (fun _ => false) x || ivl lo (min hi 4294967296) x) = ivl lo (min hi 4294967296) := by
      funext x
      exact Bool.false_or _
    rw [hF] at h
    refine ⟨ks, cs, ?_, h⟩
    have l1 : roaring_Spans_l0 (k + 1) ks cs [(lo, hi)] 1 1 = some (ks, cs) := by rw [roaring_Spans_l0]; rfl
    unfold roaring_Spans roaring_New
    simp only [Option.bind_some]
    have e0 : (([(lo, hi)] : List (Int × Int)).length : Int) = 1 := rfl
    have c0 : (0 : Int) < 1 := by omega
    have c1 : (0 : Int) ≤ 0 := by omega
    have e2 : IntKind.wrap .i64 ((0 : Int) + 1) = 1 := i64_in _ ⟨by omega, by omega⟩
    have e3 : ([(lo, hi)] : List (Int × Int)).getD (Int.toNat 0) ((0 : Int), (0 : Int)) = (lo, hi) := rfl
    rw [e0, roaring_Spans_l0]
    simp only [e0, decide_eq_true c0, decide_eq_true c1, cond_true, e3, e, Option.bind_some, e2, l1]
  · omega
theorem SRuns_is {ks : List Int} {cs : List Cont} {F : Int → Bool} {k : Nat} {l : List (Int × Int)} (h : IsS ks cs F) (hk : 210000 ≤ k) (hl : spF 0 l) (hh : ∀ x, hasS l x = F x) : roaring_Set_Runs k ks cs = some (ks, cs, l) := by
  obtain ⟨r, e, h1, h2⟩ := SRuns h hk
  rw [e, sp_ext h1 hl fun x => by rw [h2, hh]]
theorem sortKnown : slices_Sort_uint32 600000 [5, 1] = some [1, 5] := by kernel_rfl
theorem ofKnown0 : roaring_Of_l0 600000 [1, 5] [] [] [] 2 0 = some ([1, 5], [], [], [1, 5]) := by kernel_rfl
theorem catKnown : slices_Concat_uint16 600000 [[0], [0]] = some [0, 0] := by kernel_rfl
theorem sortKnown2 : slices_Sort_uint16 600000 [0, 0] = some [0, 0] := by kernel_rfl
theorem compKnown : slices_Compact_uint16 600000 [0, 0] = some [0] := by kernel_rfl
theorem ris01 : ris 0 [0, 1] := ⟨by omega, by omega, by omega, by omega, trivial⟩
theorem ris15 : ris 0 [1, 5] := ⟨by omega, by omega, by omega, by omega, trivial⟩
theorem ris00 : ris 0 [0] := ⟨by omega, by omega, trivial⟩
theorem ofKnown : ∃ c, roaring_Of 600000 [5, 1] = some ([0], [c]) ∧ IsS [0] [c] (upd (fun _ => false) 0 (elem [1, 5])) := by
  obtain ⟨c, e, h⟩ := SPush (k := 600000) (K := 0) (l := [1, 5]) IsS.empty ⟨by omega, by omega⟩ (fun p hp => (nomatch hp)) ris15 (by simp) (by omega)
  refine ⟨c, ?_, h⟩
  have e1 : slices_Clone_uint32 600000 [5, 1] = some [5, 1] := rfl
  have e2 : (([1, 5] : List Int).length : Int) = 2 := rfl
  have e3 : IntKind.wrap .i64 ((2 : Int) - 1) = 1 := i64_in _ ⟨by omega, by omega⟩
  have e4 : ([1, 5] : List Int).getD (Int.toNat 1) (0 : Int) = 5 := rfl
  have e5 : IntKind.wrap .u16 (shrI .u32 5 16) = 0 := by rw [shr16 (by decide), u16_in _ ⟨by omega, by omega⟩]; omega
  have c0 : (0 : Int) < 2 := by omega
  have c1 : (0 : Int) ≤ 1 := by omega
  have c2 : (1 : Int) < 2 := by omega
  have e' : roaring_Set_push 600000 [] [] 0 [1, 5] = some ([0], [c]) := e
  unfold roaring_Of roaring_New
  rw [e1]
  simp only [Option.bind_some, sortKnown, e2, ofKnown0, decide_eq_true c0, cond_true, e3, decide_eq_true c1, decide_eq_true c2, e4, e5, e']
theorem row_one {F : Int → Bool} {K : Int} {l : List Int} (hl : ris 0 l) (h : ∀ K, (K ∈ l ↔ (0 ≤ K ∧ K < 65536) ∧ ∃ y, row F K y = true)) {ks : List Int} {cs : List Cont} (hs : IsS ks cs F) : ks = l := ris_eq hs.ris hl fun x => by rw [hs.mem, h]
theorem ivl_keys {lo hi : Int} {ks : List Int} {cs : List Cont} (hs : IsS ks cs (ivl lo hi)) (K : Int) : K ∈ ks ↔ (0 ≤ K ∧ K < 65536) ∧ max lo (K * 65536) < min hi ((K + 1) * 65536) := by
  rw [hs.mem]
  constructor
  · rintro ⟨h1, y, hy⟩
    refine ⟨h1, ?_⟩
    have hy2 : 0 ≤ y ∧ y < 65536 := by
      apply Classical.byContradiction
      intro q
      rw [row_sup _ K y (by omega)] at hy
      cases hy
    rw [row_in hy2.1 hy2.2] at hy
    unfold ivl at hy
    rw [Bool.and_eq_true, decide_eq_true_eq, decide_eq_true_eq] at hy
    omega
  · rintro ⟨h1, h2⟩
    refine ⟨h1, max lo (K * 65536) - K * 65536, ?_⟩
    rw [row_in (by omega) (by omega)]
    unfold ivl
    rw [decide_eq_true (by omega), decide_eq_true (by omega)]
    rfl
theorem rankKnown {ks : List Int} {cs : List Cont} (hs : IsS ks cs (ivl 65535 65538)) (hk : ks = [0, 1]) : roaring_Set_Rank 600000 ks cs 65537 = some (ks, cs, 2) := by
  subst hk
  have hc := hs.con
  match cs, hc with
  | [c0, c1], ⟨⟨i0, _⟩, ⟨i1, k1⟩, _⟩ =>
    have n0 : nF (row (ivl 65535 65538) 0) = 1 := by rw [row_ivl]; omega
    have n1 : nF (row (ivl 65535 65538) 1) = 2 := by rw [row_ivl]; omega
    have r1 : rF (row (ivl 65535 65538) 1) = 1 := by
      rw [rF_def, memI_congr (g := ivl 0 1) fun x h0 h1 => by
        unfold startI
        have a : row (ivl 65535 65538) 1 x = ivl 0 2 x := by
          rw [row_in h0 (by omega)]
          unfold ivl
          congr 1
          · exact decide_eq_decide.2 (by omega)
          · exact decide_eq_decide.2 (by omega)
        have b : row (ivl 65535 65538) 1 (x - 1) = ivl 1 3 x := by
          by_cases q : 0 ≤ x - 1
          · rw [row_in q (by omega)]
            unfold ivl
            congr 1
            · exact decide_eq_decide.2 (by omega)
            · exact decide_eq_decide.2 (by omega)
          · rw [row_sup _ _ _ (by omega)]
            unfold ivl
            rw [decide_eq_false (by omega)]
            rfl
        rw [a, b]
        unfold ivl
        rw [Bool.eq_iff_iff]
        simp only [Bool.and_eq_true, Bool.not_eq_true', Bool.and_eq_false_iff, decide_eq_true_eq, decide_eq_false_iff_not]
        omega, cnt_ivl]
      omega
    rw [n1, r1] at k1
    have kk : max c1.1 1 = 1 := by rw [k1]; rfl
    have l0 : ∀ j, 140000 ≤ j → container_Container_Len j c0 = some 1 := fun j hj => by rw [CLen (row_sup _ 0) i0 (by omega), n0]
    have l1 : ∀ j, 140000 ≤ j → container_Container_Rank j c1 1 = some 1 := fun j hj => by
      have hm := mem_le (row (ivl 65535 65538) 1)
      obtain ⟨i, e, g1, g2, g3⟩ := Find_eq (k := j) (x := 1) (mem_ris (row (ivl 65535 65538) 1)) (by omega)
      have m0 : (0 : Int) ∈ mem (row (ivl 65535 65538) 1) := (mem_iff _ _).2 ⟨by omega, by rw [row_in (by omega) (by omega)]; rfl⟩
      have m1 : (1 : Int) ∈ mem (row (ivl 65535 65538) 1) := (mem_iff _ _).2 ⟨by omega, by rw [row_in (by omega) (by omega)]; rfl⟩
      have hlen : ((mem (row (ivl 65535 65538) 1)).length : Int) = 2 := n1
      have hr := mem_ris (row (ivl 65535 65538) 1)
      have hi1 : i = 1 := by
        obtain ⟨t, ht⟩ := List.getElem?_of_mem m0
        obtain ⟨s, hs⟩ := List.getElem?_of_mem m1
        have ht2 := (List.getElem?_eq_some_iff.1 ht).1
        have hs2 := (List.getElem?_eq_some_iff.1 hs).1
        have a1 : t < i := Nat.lt_of_not_le fun q => by have := g3 t _ q ht; omega
        have a2 : ¬ s < i := fun q => by have := g2 s _ q hs; omega
        omega
      have ha : c1.2.1 = mem (row (ivl 65535 65538) 1) := arr_of i1 kk
      have w : IntKind.wrap .u16 1 = 1 := u16_in _ ⟨by omega, by omega⟩
      have z1 : ¬ (1 : Int) ≤ 0 := by omega
      have z2 : ¬ (65536 : Int) ≤ 1 := by omega
      have z3 : ¬ (1 : Int) = 0 := by omega
      unfold container_Container_Rank container_Container_arrayRank
      rw [hi1] at e
      simp only [Kind_eq, Option.bind_some, kk, decide_eq_false z3, cond_false, decide_eq_false z1, decide_eq_false z2, ha, w, e, decide_true, cond_true]
      rfl
    have w1 : shrI .u64 65537 16 = 1 := by rw [shr16 (by decide)]; rfl
    have w2 : IntKind.wrap .i64 (bitsI .and .u64 65537 65535) = 1 := by
      have : bitsI .and .u64 65537 65535 = ((65537 &&& 65535 : Nat) : Int) := and64 (a := 65537) (b := 65535) (by decide) (by decide)
      rw [this]
      exact i64_in _ ⟨by decide, by decide⟩
    have u0 : IntKind.wrap .u64 0 = 0 := u64_in _ ⟨by omega, by omega⟩
    have u1 : IntKind.wrap .u64 1 = 1 := u64_in _ ⟨by omega, by omega⟩
    have v1 : IntKind.wrap .i64 ((0 : Int) + 1) = 1 := i64_in _ ⟨by omega, by omega⟩
    have v2 : IntKind.wrap .i64 ((1 : Int) + 1) = 2 := i64_in _ ⟨by omega, by omega⟩
    have b0 : ¬ (4294967296 : Int) ≤ 65537 := by omega
    have b1 : (0 : Int) < 2 := by omega
    have b2 : (0 : Int) ≤ 0 := by omega
    have b3 : (0 : Int) < 1 := by omega
    have b4 : (1 : Int) < 2 := by omega
    have b5 : (0 : Int) ≤ 1 := by omega
    have b6 : ¬ (1 : Int) < 1 := by omega
    have b7 : ¬ (2 : Int) < 2 := by omega
    have s3 : roaring_Set_Rank_l0 599998 [0, 1] [c0, c1] 65537 2 2 2 = some ([0, 1], [c0, c1], 2) := by rw [roaring_Set_Rank_l0, decide_eq_false b7]; rfl
    have s2 : roaring_Set_Rank_l0 599999 [0, 1] [c0, c1] 65537 1 2 1 = some ([0, 1], [c0, c1], 2) := by
      rw [roaring_Set_Rank_l0]
      have d1 : ([0, 1] : List Int).getD (Int.toNat 1) (0 : Int) = 1 := rfl
      have d2 : ([c0, c1] : List Cont).getD (Int.toNat 1) ((0 : Int), ([], ([], []))) = c1 := rfl
      have d3 : (([0, 1] : List Int).length : Int) = 2 := rfl
      have d4 : (([c0, c1] : List Cont).length : Int) = 2 := rfl
      simp only [decide_eq_true b4, decide_eq_true b5, cond_true, d1, d2, d3, d4, w1, u1, decide_eq_false b6, cond_false, decide_true, w2, l1 599998 (by omega), Option.bind_some, v2, s3]
    have s1 : roaring_Set_Rank_l0 600000 [0, 1] [c0, c1] 65537 0 2 0 = some ([0, 1], [c0, c1], 2) := by
      rw [roaring_Set_Rank_l0]
      have d1 : ([0, 1] : List Int).getD (Int.toNat 0) (0 : Int) = 0 := rfl
      have d2 : ([c0, c1] : List Cont).getD (Int.toNat 0) ((0 : Int), ([], ([], []))) = c0 := rfl
      have d3 : (([0, 1] : List Int).length : Int) = 2 := rfl
      have d4 : (([c0, c1] : List Cont).length : Int) = 2 := rfl
      simp only [decide_eq_true b1, decide_eq_true b2, cond_true, d1, d2, d3, d4, w1, u0, decide_eq_true b3, l0 599999 (by omega), Option.bind_some, v1, s2]
    unfold roaring_Set_Rank roaring_Set_list
    rw [decide_eq_false b0]
    have d4 : (([c0, c1] : List Cont).length : Int) = 2 := rfl
    simp only [cond_false, Option.bind_some, d4, s1]
theorem knownA : ∃ ks cs, roaring_Set_AddRange 600000 [] [] 65535 65538 = some (ks, cs) ∧ IsS ks cs (ivl 65535 65538) ∧ ks = [0, 1] := by
  obtain ⟨ks, cs, e, h, _⟩ := SAdd (k := 600000) (lo := 65535) (hi := 65538) IsS.empty (by omega) (by omega) (fun p hp => (nomatch hp)) (by omega)
  have hF : (fun x => (fun _ => false) x || ivl 65535 (min 65538 4294967296) x) = ivl 65535 65538 := by
    funext x
    rw [show min (65538 : Int) 4294967296 = 65538 by omega]
    exact Bool.false_or _
  rw [hF] at h
  have hks : ks = [0, 1] := ris_eq h.ris ris01 fun x => by
    rw [ivl_keys h]
    simp only [List.mem_cons, List.not_mem_nil, or_false]
    omega
  exact ⟨ks, cs, e, h, hks⟩
theorem has4 (x : Int) : hasS [(0, 1), (2, 4)] x = mix ann (ivl 0 (min 4 4294967296)) (upd (fun _ => false) 0 (elem [1, 5])) x := by
  show _ = ann (ivl 0 (min 4 4294967296) x) (upd (fun _ => false) 0 (elem [1, 5]) x)
  unfold upd elem
  have m4 : min (4 : Int) 4294967296 = 4 := by omega
  rw [m4, hasS_cons, hasS_cons]
  unfold ivl
  by_cases q : 0 * 65536 ≤ x ∧ x < (0 + 1) * 65536
  · rw [if_pos q, Bool.eq_iff_iff]
    simp only [hasS, List.any_nil, Bool.or_false, Bool.or_eq_true, Bool.and_eq_true, Bool.not_eq_true', decide_eq_true_eq, decide_eq_false_iff_not, List.mem_cons, List.not_mem_nil, or_false]
    omega
  · rw [if_neg q, Bool.eq_iff_iff]
    simp only [hasS, List.any_nil, Bool.or_false, Bool.or_eq_true, Bool.and_eq_true, Bool.not_eq_true', decide_eq_true_eq, Bool.not_false, and_true]
    omega
theorem knownN : ∃ c k4 c4, roaring_Of 600000 [5, 1] = some ([0], [c]) ∧ roaring_Set_Not 600000 [0] [c] 4 = some ([0], [c], k4, c4) ∧ roaring_Set_Runs 600000 k4 c4 = some (k4, c4, [(0, 1), (2, 4)]) := by
  obtain ⟨c, e2, h2⟩ := ofKnown
  obtain ⟨k3, c3, e3, h3⟩ := SSpans1 (k := 600000) (lo := 0) (hi := 4) (by omega) (by omega) (by omega)
  have hk3 : k3 = [0] := ris_eq h3.ris ris00 fun x => by
    rw [ivl_keys h3]
    simp only [List.mem_cons, List.not_mem_nil, or_false]
    omega
  subst hk3
  obtain ⟨k4, c4, e4, h4⟩ := S_AndNot (k := 600000) h3 h2 (by omega) catKnown sortKnown2 compKnown ris00 (fun K => by simp)
  refine ⟨c, k4, c4, e2, ?_, SRuns_is h4 (by omega) ⟨by omega, by omega, by omega, by omega, by omega, by omega, trivial⟩ has4⟩
  unfold roaring_Set_Not
  simp only [e3, Option.bind_some, e4]
theorem kb1 {ks : List Int} {cs : List Cont} (h : IsS ks cs (ivl 65535 65538)) : roaring_Set_Len 600000 ks cs = some (ks, cs, 3) := by
  have e7 := SLen (k := 600000) h (by omega)
  have t7 : Tryz.tot (ivl 65535 65538) = 3 := by rw [tot_ivl (by omega) (by omega)]; omega
  rw [t7] at e7
  exact e7
theorem kb2 : isinglassref08_Same 600000 [(0, 1), (2, 4)] [(0, 1), (2, 4)] = some true := by rw [Same8_eq (by simp) (by simp), decide_eq_true rfl]
theorem new8 : roaring_New 600000 = some ([], []) := rfl
/- Each step by its equation: the kernel is not to reckon with what it compares. -/
theorem known8 : isinglasslaw08_known 600000 = some true := by
  obtain ⟨ks, cs, e, h, hks⟩ := knownA
  obtain ⟨c, k4, c4, e2, e6, e5⟩ := knownN
  have e7 := kb1 h
  have e8 := rankKnown h hks
  have e9 := SKeys (k := 600000) h
  have x1 : decide ((ks.length : Int) = 2) = true := by rw [hks]; rfl
  have x2 : decide (ks.getD (Int.toNat 1) (0 : Int) = 1) = true := by rw [hks]; rfl
  have x3 : decide ((1 : Int) < (ks.length : Int)) = true := by rw [hks]; rfl
  have x4 : decide ((3 : Int) = 3) = true := rfl
  have x5 : decide ((2 : Int) = 2) = true := rfl
  unfold isinglasslaw08_known
  rw [new8, Option.bind_some]
  dsimp only
  rw [e, Option.bind_some]
  dsimp only
  rw [e9, Option.bind_some]
  dsimp only
  rw [e2, Option.bind_some]
  dsimp only
  rw [e6, Option.bind_some]
  dsimp only
  rw [e5, Option.bind_some]
  dsimp only
  rw [e7, Option.bind_some]
  dsimp only
  rw [x4, x1, x3, x2, cond_true, cond_true, cond_true, cond_true, e8, Option.bind_some]
  dsimp only
  rw [x5, cond_true, kb2, Option.bind_some]
theorem top8 {back long : Int} (h0 : 0 ≤ back) (h1 : 0 ≤ long) : isinglasslaw08_RoaringTop 600000 back long = some true := by
  unfold isinglasslaw08_RoaringTop
  by_cases a1 : (100000 : Int) < back
  · rw [decide_eq_true a1]
    simp only [cond_true, known8, Option.bind_some]
  rw [decide_eq_false a1]
  by_cases a2 : (4611686018427387904 : Int) < long
  · rw [decide_eq_true a2]
    simp only [cond_true, cond_false, known8, Option.bind_some]
  rw [decide_eq_false a2]
  have w1 : IntKind.wrap .u64 (4294967296 - back) = 4294967296 - back := u64_in _ ⟨by omega, by omega⟩
  have w2 : IntKind.wrap .u64 (4294967296 - back + long) = 4294967296 - back + long := u64_in _ ⟨by omega, by omega⟩
  have w3 : IntKind.wrap .i64 (min back long) = min back long := i64_in _ ⟨by omega, by omega⟩
  obtain ⟨lo, hlo⟩ : ∃ lo, lo = 4294967296 - back := ⟨_, rfl⟩
  rw [← hlo] at w1 w2
  obtain ⟨hi, hhi⟩ : ∃ hi, hi = lo + long := ⟨_, rfl⟩
  rw [← hhi] at w2
  obtain ⟨ks, cs, e, h, _⟩ := SAdd (k := 600000) (lo := lo) (hi := hi) IsS.empty (by omega) (by omega) (fun p hp => (nomatch hp)) (by omega)
  have hF : (fun x => (fun _ => false) x || ivl lo (min hi 4294967296) x) = ivl lo (min hi 4294967296) := by
    funext x
    exact Bool.false_or _
  rw [hF] at h
  have e : roaring_Set_AddRange 600000 [] [] lo hi = some (ks, cs) := e
  obtain ⟨k2, c2, e2, h2⟩ := SSpans1 (k := 600000) (lo := lo) (hi := hi) (by omega) (by omega) (by omega)
  have eL := SLen (k := 600000) h (by omega)
  rw [tot_ivl (by omega) (by omega)] at eL
  have tl : max 0 (min hi 4294967296 - lo) = min back long := by omega
  rw [tl] at eL
  have eR : roaring_Set_Rank 600000 ks cs 4294967296 = some (ks, cs, min back long) := by
    unfold roaring_Set_Rank
    have : (4294967296 : Int) ≤ 4294967296 := by omega
    rw [decide_eq_true this]
    simp only [cond_true, eL, Option.bind_some]
  obtain ⟨l, hl1, hl2, hl3⟩ : ∃ l, isinglassref08_Span 600000 lo hi = some l ∧ spF 0 l ∧ ∀ x, hasS l x = ivl lo (min hi 4294967296) x := by
    unfold isinglassref08_Span
    by_cases c1 : (4294967296 : Int) < hi
    · rw [decide_eq_true c1]
      by_cases c2 : (4294967296 : Int) ≤ lo
      · rw [decide_eq_true c2]
        refine ⟨[], rfl, trivial, fun x => ?_⟩
        show false = _
        unfold ivl
        symm
        rw [Bool.and_eq_false_iff, decide_eq_false_iff_not, decide_eq_false_iff_not]
        omega
      · rw [decide_eq_false c2]
        refine ⟨[(lo, 4294967296)], rfl, ⟨by omega, by omega, by omega, trivial⟩, fun x => ?_⟩
        rw [hasS_cons, show hasS [] x = false from rfl, Bool.or_false, show min hi 4294967296 = 4294967296 by omega]
        rfl
    · rw [decide_eq_false c1]
      by_cases c2 : hi ≤ lo
      · rw [decide_eq_true c2]
        refine ⟨[], rfl, trivial, fun x => ?_⟩
        show false = _
        unfold ivl
        symm
        rw [Bool.and_eq_false_iff, decide_eq_false_iff_not, decide_eq_false_iff_not]
        omega
      · rw [decide_eq_false c2]
        refine ⟨[(lo, hi)], rfl, ⟨by omega, by omega, by omega, trivial⟩, fun x => ?_⟩
        rw [hasS_cons, show hasS [] x = false from rfl, Bool.or_false, show min hi 4294967296 = hi by omega]
        rfl
  have r1 := SRuns_is (k := 600000) h (by omega) hl2 hl3
  have r2 := SRuns_is (k := 600000) h2 (by omega) hl2 hl3
  have hll := sp_len hl2
  have q1 : slices_Equal_Span 600000 l l = some true := by
    have : l.length ≤ 1 := by
      unfold isinglassref08_Span at hl1
      cases c1 : decide ((4294967296 : Int) < hi) <;> rw [c1] at hl1
      · cases c2 : decide (hi ≤ lo) <;> rw [c2] at hl1 <;> cases hl1 <;> simp
      · cases c2 : decide ((4294967296 : Int) ≤ lo) <;> rw [c2] at hl1 <;> cases hl1 <;> simp
    rw [Equal_eq (by omega) (by omega), decide_eq_true rfl]
  have q2 : isinglassref08_Same 600000 l l = some true := by
    have : l.length ≤ 1 := by
      unfold isinglassref08_Span at hl1
      cases c1 : decide ((4294967296 : Int) < hi) <;> rw [c1] at hl1
      · cases c2 : decide (hi ≤ lo) <;> rw [c2] at hl1 <;> cases hl1 <;> simp
      · cases c2 : decide ((4294967296 : Int) ≤ lo) <;> rw [c2] at hl1 <;> cases hl1 <;> simp
    rw [Same8_eq (by omega) (by omega), decide_eq_true rfl]
  have q3 : roaring_Set_Same 600000 ks cs k2 c2 = some (ks, cs, k2, c2, true) := by
    unfold roaring_Set_Same
    simp only [r1, r2, q1, Option.bind_some]
  have q4 := SHas (k := 600000) (x := 4294967295) h ⟨by omega, by omega⟩ (by omega)
  unfold roaring_New
  simp only [cond_false, ← hlo, ← hhi, w1, w2, w3, Option.bind_some, e, hl1, e2, eL, decide_true, cond_true, eR, q3, r1, q2, q4]
  by_cases b : (0 : Int) < back
  · rw [decide_eq_true b]
    have : (ivl lo (min hi 4294967296) 4294967295 == decide (back ≤ long)) = true := by
      unfold ivl
      rw [beq_iff_eq, Bool.eq_iff_iff]
      simp only [Bool.and_eq_true, decide_eq_true_eq]
      omega
    rw [this]
    simp only [cond_true, known8, Option.bind_some]
  · rw [decide_eq_false b]
    have : (ivl lo (min hi 4294967296) 4294967295 == false) = true := by
      unfold ivl
      rw [beq_iff_eq, Bool.and_eq_false_iff, decide_eq_false_iff_not, decide_eq_false_iff_not]
      omega
    rw [this]
    simp only [cond_true, cond_false, known8, Option.bind_some]
end Go.Rx.Tryz

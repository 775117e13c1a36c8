/- Printed by gen.py: the pure functions. -/
import Derived.Test.YtgoofkilcbniiaaGreatDoorRxA
namespace Go.Rx.Tryz
set_option linter.unusedVariables false
/- the table, hidden from the kernel -/
theorem deBruijn_is : ∃ l : List Int, l = [0, 1, 56, 2, 57, 49, 28, 3, 61, 58, 42, 50, 38, 29, 17, 4, 62, 47, 59, 36, 45, 43, 51, 22, 53, 39, 33, 30, 24, 18, 12, 5, 63, 55, 48, 27, 60, 41, 37, 16, 46, 35, 44, 21, 52, 32, 23, 11, 54, 26, 40, 15, 34, 20, 31, 10, 25, 14, 19, 9, 13, 8, 7, 6] := ⟨_, rfl⟩
noncomputable def deBruijn64 : List Int := Classical.choose deBruijn_is
theorem deBruijn_eq : deBruijn64 = [0, 1, 56, 2, 57, 49, 28, 3, 61, 58, 42, 50, 38, 29, 17, 4, 62, 47, 59, 36, 45, 43, 51, 22, 53, 39, 33, 30, 24, 18, 12, 5, 63, 55, 48, 27, 60, 41, 37, 16, 46, 35, 44, 21, 52, 32, 23, 11, 54, 26, 40, 15, 34, 20, 31, 10, 25, 14, 19, 9, 13, 8, 7, 6] := Classical.choose_spec deBruijn_is
def str0 : ByteArray := (ByteArray.mk (List.toArray (List.append (List.append [0, 1, 2, 2, 3, 3, 3, 3, 4, 4, 4, 4, 4, 4, 4, 4, 5, 5, 5, 5, 5, 5, 5, 5, 5, 5, 5, 5, 5, 5, 5, 5, 6, 6, 6, 6, 6, 6, 6, 6, 6, 6, 6, 6, 6, 6, 6, 6, 6, 6, 6, 6, 6, 6, 6, 6, 6, 6, 6, 6, 6, 6, 6, 6] [7, 7, 7, 7, 7, 7, 7, 7, 7, 7, 7, 7, 7, 7, 7, 7, 7, 7, 7, 7, 7, 7, 7, 7, 7, 7, 7, 7, 7, 7, 7, 7, 7, 7, 7, 7, 7, 7, 7, 7, 7, 7, 7, 7, 7, 7, 7, 7, 7, 7, 7, 7, 7, 7, 7, 7, 7, 7, 7, 7, 7, 7, 7, 7]) (List.append [8, 8, 8, 8, 8, 8, 8, 8, 8, 8, 8, 8, 8, 8, 8, 8, 8, 8, 8, 8, 8, 8, 8, 8, 8, 8, 8, 8, 8, 8, 8, 8, 8, 8, 8, 8, 8, 8, 8, 8, 8, 8, 8, 8, 8, 8, 8, 8, 8, 8, 8, 8, 8, 8, 8, 8, 8, 8, 8, 8, 8, 8, 8, 8] [8, 8, 8, 8, 8, 8, 8, 8, 8, 8, 8, 8, 8, 8, 8, 8, 8, 8, 8, 8, 8, 8, 8, 8, 8, 8, 8, 8, 8, 8, 8, 8, 8, 8, 8, 8, 8, 8, 8, 8, 8, 8, 8, 8, 8, 8, 8, 8, 8, 8, 8, 8, 8, 8, 8, 8, 8, 8, 8, 8, 8, 8, 8, 8]))))
abbrev Cn := Int × ((List Int) × ((List Int) × (List (Int × Int))))
noncomputable def roaring_New (k : Nat) : Option ((List Int) × (List Cn)) :=
 some ([], [])

noncomputable def cmp_isNaN_uint16 (k : Nat) (a0 : Int) : Option (Bool) :=
 some (!(decide (a0 = a0)))

noncomputable def cmp_Less_uint16 (k : Nat) (a0 : Int) (a1 : Int) : Option (Bool) :=
 (cmp_isNaN_uint16 k a0).bind fun y1 =>
 bif y1 then
 (cmp_isNaN_uint16 k a1).bind fun y2 =>
 bif !y2 then
 some true
 else
 some (decide (a0 < a1))
 else
 some (decide (a0 < a1))

noncomputable def slices_isNaN_uint16 (k : Nat) (a0 : Int) : Option (Bool) :=
 some (!(decide (a0 = a0)))

noncomputable def slices_BinarySearch_uint16_w_l0 : Nat → (List Int) → Int → Int → Int → Int → Option ((List Int) × Int × Int × Int)
 | 0, _, _, _, _, _ => none
 | k + 1, p4_0, p4_1, p4_2, p4_3, p4_4 =>
 bif (decide (p4_3 < p4_4)) then
 let v11 := IntKind.wrap .i64 (p4_3 + p4_4)
 bif decide ((0 : Int) ≤ (IntKind.wrap .i64 (shrI .u64 (IntKind.wrap .u64 v11) 1))) then
 bif decide ((IntKind.wrap .i64 (shrI .u64 (IntKind.wrap .u64 v11) 1)) < (p4_0.length : Int)) then
 (cmp_Less_uint16 k (p4_0.getD (Int.toNat (IntKind.wrap .i64 (shrI .u64 (IntKind.wrap .u64 v11) 1))) (0 : Int)) p4_1).bind fun y16 =>
 bif y16 then
 slices_BinarySearch_uint16_w_l0 k p4_0 p4_1 p4_2 (IntKind.wrap .i64 ((IntKind.wrap .i64 (shrI .u64 (IntKind.wrap .u64 v11) 1)) + 1)) p4_4
 else
 slices_BinarySearch_uint16_w_l0 k p4_0 p4_1 p4_2 p4_3 (IntKind.wrap .i64 (shrI .u64 (IntKind.wrap .u64 v11) 1))
 else none
 else none
 else
 some (p4_0, p4_1, p4_2, p4_3)
noncomputable def slices_BinarySearch_uint16_w (k : Nat) (a0 : (List Int)) (a1 : Int) : Option ((List Int) × Int × Bool) :=
 (slices_BinarySearch_uint16_w_l0 k a0 a1 (a0.length : Int) 0 (a0.length : Int)).bind fun y2 =>
 bif (decide (y2.2.2.2 < y2.2.2.1)) then
 bif decide ((0 : Int) ≤ y2.2.2.2) then
 bif decide (y2.2.2.2 < (y2.1.length : Int)) then
 bif (decide ((y2.1.getD (Int.toNat y2.2.2.2) (0 : Int)) = y2.2.1)) then
 some (y2.1, y2.2.2.2, true)
 else
 bif decide ((0 : Int) ≤ y2.2.2.2) then
 bif decide (y2.2.2.2 < (y2.1.length : Int)) then
 (slices_isNaN_uint16 k (y2.1.getD (Int.toNat y2.2.2.2) (0 : Int))).bind fun y7 =>
 bif y7 then
 (slices_isNaN_uint16 k y2.2.1).bind fun y8 =>
 some (y2.1, y2.2.2.2, y8)
 else
 some (y2.1, y2.2.2.2, false)
 else none
 else none
 else none
 else none
 else
 some (y2.1, y2.2.2.2, false)

noncomputable def roaring_Set_find (k : Nat) (a0 : (List Int)) (a1 : (List Cn)) (a2 : Int) : Option ((List Int) × (List Cn) × Int × Bool) :=
 (slices_BinarySearch_uint16_w k a0 a2).bind fun y1 =>
 some (y1.1, a1, y1.2.1, y1.2.2)

noncomputable def roaring_Set_get (k : Nat) (a0 : (List Int)) (a1 : (List Cn)) (a2 : Int) : Option ((List Int) × (List Cn) × Cn) :=
 (roaring_Set_find k a0 a1 a2).bind fun y1 =>
 bif y1.2.2.2 then
 bif decide ((0 : Int) ≤ y1.2.2.1) then
 bif decide (y1.2.2.1 < (y1.2.1.length : Int)) then
 some (y1.1, y1.2.1, (y1.2.1.getD (Int.toNat y1.2.2.1) ((0 : Int), ([], ([], [])))))
 else none
 else none
 else
 some (y1.1, y1.2.1, (0, ([], ([], []))))

noncomputable def words_Flip_l0 : Nat → (List Int) → Int → Int → Int → Option ((List Int))
 | 0, _, _, _, _ => none
 | k + 1, p6_0, p6_1, p6_2, p6_3 =>
 bif (decide (p6_3 < 1024)) then
 let v23 := IntKind.wrap .i64 (64 * p6_3)
 let v26 := IntKind.wrap .i64 ((IntKind.wrap .i64 (64 * p6_3)) + 64)
 bif (decide ((max p6_1 v23) < (min p6_2 v26))) then
 bif decide ((0 : Int) ≤ p6_3) then
 bif decide (p6_3 < (p6_0.length : Int)) then
 let v31 := IntKind.wrap .i64 (64 - (IntKind.wrap .i64 ((min p6_2 v26) - (max p6_1 v23))))
 bif !(decide (v31 < 0)) then
 let v34 := IntKind.wrap .i64 ((max p6_1 v23) - (IntKind.wrap .i64 (64 * p6_3)))
 bif !(decide (v34 < 0)) then
 bif decide ((0 : Int) ≤ p6_3) then
 bif decide (p6_3 < (p6_0.length : Int)) then
 words_Flip_l0 k (p6_0.set (Int.toNat p6_3) (bitsI .xor .u64 (p6_0.getD (Int.toNat p6_3) (0 : Int)) (shlI .u64 (shrI .u64 18446744073709551615 v31) v34))) p6_1 p6_2 (IntKind.wrap .i64 (p6_3 + 1))
 else none
 else none
 else none
 else none
 else none
 else none
 else
 words_Flip_l0 k p6_0 p6_1 p6_2 (IntKind.wrap .i64 (p6_3 + 1))
 else
 some p6_0
noncomputable def words_Flip (k : Nat) (a0 : (List Int)) (a1 : Int) (a2 : Int) : Option ((List Int)) :=
 bif decide (1024 ≤ 1024) then
 bif decide (0 < List.length (List.replicate (Int.toNat 1024) (0 : Int))) then
 (words_Flip_l0 k (List.take (List.length (List.replicate (Int.toNat 1024) (0 : Int))) a0 ++ List.drop (List.length a0) (List.replicate (Int.toNat 1024) (0 : Int))) (max a1 0) (min a2 65536) 0).bind fun y40 =>
 some y40
 else none
 else none

noncomputable def container_Container_Kind (k : Nat) (a0 : Cn) : Option (Int) :=
 some (max a0.1 1)

noncomputable def container_Container_arrayLen (k : Nat) (a0 : Cn) : Option (Int) :=
 some (a0.2.1.length : Int)

noncomputable def math_bits_OnesCount64 (k : Nat) (a0 : Int) : Option (Int) :=
 let v4 := IntKind.wrap .u64 ((bitsI .and .u64 (shrI .u64 a0 1) 6148914691236517205) + (bitsI .and .u64 a0 6148914691236517205))
 let v8 := IntKind.wrap .u64 ((bitsI .and .u64 (shrI .u64 v4 2) 3689348814741910323) + (bitsI .and .u64 v4 3689348814741910323))
 let v11 := bitsI .and .u64 (IntKind.wrap .u64 ((shrI .u64 v8 4) + v8)) 1085102592571150095
 let v13 := IntKind.wrap .u64 (v11 + (shrI .u64 v11 8))
 let v15 := IntKind.wrap .u64 (v13 + (shrI .u64 v13 16))
 some (bitsI .and .i64 (IntKind.wrap .i64 (IntKind.wrap .u64 (v15 + (shrI .u64 v15 32)))) 127)

noncomputable def words_Len_l0 : Nat → Int → (List Int) → Int → Int → Option (Int)
 | 0, _, _, _, _ => none
 | k + 1, p4_0, p4_1, p4_2, p4_3 =>
 bif (decide (p4_3 < p4_2)) then
 bif decide ((0 : Int) ≤ p4_3) then
 bif decide (p4_3 < (p4_1.length : Int)) then
 (math_bits_OnesCount64 k (p4_1.getD (Int.toNat p4_3) (0 : Int))).bind fun y9 =>
 words_Len_l0 k (IntKind.wrap .i64 (p4_0 + y9)) p4_1 p4_2 (IntKind.wrap .i64 (p4_3 + 1))
 else none
 else none
 else
 some p4_0
noncomputable def words_Len (k : Nat) (a0 : (List Int)) : Option (Int) :=
 (words_Len_l0 k 0 a0 (a0.length : Int) 0).bind fun y12 =>
 some y12

noncomputable def container_Container_wordsLen (k : Nat) (a0 : Cn) : Option (Int) :=
 (words_Len k a0.2.2.1).bind fun y1 =>
 some y1

noncomputable def runs_Len_l0 : Nat → Int → (List (Int × Int)) → Int → Int → Option (Int)
 | 0, _, _, _, _ => none
 | k + 1, p4_0, p4_1, p4_2, p4_3 =>
 bif (decide (p4_3 < p4_2)) then
 bif decide ((0 : Int) ≤ p4_3) then
 bif decide (p4_3 < (p4_1.length : Int)) then
 runs_Len_l0 k (IntKind.wrap .i64 (p4_0 + (IntKind.wrap .i64 ((IntKind.wrap .i64 (p4_1.getD (Int.toNat p4_3) ((0 : Int), (0 : Int))).2) + 1)))) p4_1 p4_2 (IntKind.wrap .i64 (p4_3 + 1))
 else none
 else none
 else
 some p4_0
noncomputable def runs_Len (k : Nat) (a0 : (List (Int × Int))) : Option (Int) :=
 (runs_Len_l0 k 0 a0 (a0.length : Int) 0).bind fun y14 =>
 some y14

noncomputable def container_Container_runsLen (k : Nat) (a0 : Cn) : Option (Int) :=
 (runs_Len k a0.2.2.2).bind fun y1 =>
 some y1

noncomputable def container_Container_Len (k : Nat) (a0 : Cn) : Option (Int) :=
 (container_Container_Kind k a0).bind fun y1 =>
 bif decide (y1 = 0) then
 none
 else
 bif decide (y1 = 1) then
 (container_Container_arrayLen k a0).bind fun y2 =>
 some y2
 else
 bif decide (y1 = 2) then
 (container_Container_wordsLen k a0).bind fun y3 =>
 some y3
 else
 bif decide (y1 = 3) then
 (container_Container_runsLen k a0).bind fun y4 =>
 some y4
 else
 none

noncomputable def words_Runs_l0 : Nat → Int → Int → (List Int) → Int → Int → Option (Int)
 | 0, _, _, _, _, _ => none
 | k + 1, p4_0, p4_1, p4_2, p4_3, p4_4 =>
 bif (decide (p4_4 < p4_3)) then
 bif decide ((0 : Int) ≤ p4_4) then
 bif decide (p4_4 < (p4_2.length : Int)) then
 let v12 := p4_2.getD (Int.toNat p4_4) (0 : Int)
 (math_bits_OnesCount64 k (bitsI .andNot .u64 v12 (bitsI .or .u64 (shlI .u64 v12 1) p4_1))).bind fun y16 =>
 words_Runs_l0 k (IntKind.wrap .i64 (p4_0 + y16)) (shrI .u64 v12 63) p4_2 p4_3 (IntKind.wrap .i64 (p4_4 + 1))
 else none
 else none
 else
 some p4_0
noncomputable def words_Runs (k : Nat) (a0 : (List Int)) : Option (Int) :=
 (words_Runs_l0 k 0 0 a0 (a0.length : Int) 0).bind fun y20 =>
 some y20

noncomputable def arrays_Runs_l0 : Nat → (List Int) → Int → (List Int) → Int → Int → Option (Int)
 | 0, _, _, _, _, _ => none
 | k + 1, p4_0, p4_1, p4_2, p4_3, p4_4 =>
 bif (decide (p4_4 < p4_3)) then
 bif decide ((0 : Int) ≤ p4_4) then
 bif decide (p4_4 < (p4_2.length : Int)) then
 bif (decide (p4_4 = 0)) then
 arrays_Runs_l0 k p4_0 (IntKind.wrap .i64 (p4_1 + 1)) p4_2 p4_3 (IntKind.wrap .i64 (p4_4 + 1))
 else
 let v19 := IntKind.wrap .i64 (p4_4 - 1)
 bif decide ((0 : Int) ≤ v19) then
 bif decide (v19 < (p4_0.length : Int)) then
 bif (!(decide ((p4_2.getD (Int.toNat p4_4) (0 : Int)) = (IntKind.wrap .u16 ((p4_0.getD (Int.toNat v19) (0 : Int)) + 1))))) then
 arrays_Runs_l0 k p4_0 (IntKind.wrap .i64 (p4_1 + 1)) p4_2 p4_3 (IntKind.wrap .i64 (p4_4 + 1))
 else
 arrays_Runs_l0 k p4_0 p4_1 p4_2 p4_3 (IntKind.wrap .i64 (p4_4 + 1))
 else none
 else none
 else none
 else none
 else
 some p4_1
noncomputable def arrays_Runs (k : Nat) (a0 : (List Int)) : Option (Int) :=
 (arrays_Runs_l0 k a0 0 a0 (a0.length : Int) 0).bind fun y26 =>
 some y26

noncomputable def container_Container_many (k : Nat) (a0 : Cn) : Option (Int) :=
 bif (decide (a0.1 = 2)) then
 (words_Runs k a0.2.2.1).bind fun y2 =>
 some y2
 else
 bif (decide (a0.1 = 3)) then
 some (a0.2.2.2.length : Int)
 else
 (arrays_Runs k a0.2.1).bind fun y5 =>
 some y5

noncomputable def slices_Clone_Run (k : Nat) (a0 : (List (Int × Int))) : Option ((List (Int × Int))) :=
 match a0 with
 | [] => some []
 | x :: l =>
 bif decide ((List.length ([] : List (Int × Int)) + List.length (x :: l)) * 4 ≤ 140737488355328) then
 bif decide (List.length ([] : List (Int × Int)) + List.length (x :: l) ≤ 140737488355328) then
 some (([] : List (Int × Int)) ++ (x :: l))
 else none
 else none

noncomputable def math_bits_TrailingZeros64 (k : Nat) (a0 : Int) : Option (Int) :=
 bif (decide (a0 = 0)) then
 some 64
 else
 let v4 := IntKind.wrap .u64 ((bitsI .and .u64 a0 (IntKind.wrap .u64 (0 - a0))) * 285870213051353865)
 bif Nat.beq 64 (List.length deBruijn64) then
 bif decide ((0 : Int) ≤ (shrI .u64 v4 58)) then
 bif decide ((shrI .u64 v4 58) < 64) then
 some (IntKind.wrap .i64 (deBruijn64.getD (Int.toNat (shrI .u64 v4 58)) (0 : Int)))
 else none
 else none
 else none

noncomputable def words_List_l1 : Nat → (List Int) → (List Int) → Int → Int → Int → Int → Option ((List Int) × (List Int) × Int × Int)
 | 0, _, _, _, _, _, _ => none
 | k + 1, p7_0, p7_1, p7_2, p7_3, p7_4, p7_5 =>
 bif (!(decide (p7_3 = 0))) then
 (math_bits_TrailingZeros64 k p7_3).bind fun y15 =>
 let v16 := IntKind.wrap .i64 ((IntKind.wrap .i64 (64 * p7_2)) + y15)
 bif decide ((List.length p7_0 + List.length [(IntKind.wrap .u16 v16)]) * 2 ≤ 140737488355328) then
 bif decide (List.length p7_0 + List.length [(IntKind.wrap .u16 v16)] ≤ 140737488355328) then
 words_List_l1 k (p7_0 ++ [(IntKind.wrap .u16 v16)]) p7_1 p7_2 (bitsI .and .u64 p7_3 (IntKind.wrap .u64 (p7_3 - 1))) p7_4 p7_5
 else none
 else none
 else
 some (p7_0, p7_1, p7_4, p7_5)
noncomputable def words_List_l0 : Nat → (List Int) → (List Int) → Int → Int → Option ((List Int))
 | 0, _, _, _, _ => none
 | k + 1, p4_0, p4_1, p4_2, p4_3 =>
 bif (decide (p4_3 < p4_2)) then
 bif decide ((0 : Int) ≤ p4_3) then
 bif decide (p4_3 < (p4_1.length : Int)) then
 (words_List_l1 k p4_0 p4_1 p4_3 (p4_1.getD (Int.toNat p4_3) (0 : Int)) p4_2 p4_3).bind fun y25 =>
 words_List_l0 k y25.1 y25.2.1 y25.2.2.1 (IntKind.wrap .i64 (y25.2.2.2 + 1))
 else none
 else none
 else
 some p4_0
noncomputable def words_List (k : Nat) (a0 : (List Int)) : Option ((List Int)) :=
 (words_List_l0 k [] a0 (min (a0.length : Int) 1024) 0).bind fun y27 =>
 some y27

noncomputable def runs_end (k : Nat) (a0 : (Int × Int)) : Option (Int) :=
 some (IntKind.wrap .i64 ((IntKind.wrap .i64 ((IntKind.wrap .i64 a0.1) + (IntKind.wrap .i64 a0.2))) + 1))

noncomputable def runs_List_l1 : Nat → (List Int) → Int → Int → Int → (List (Int × Int)) → Int → Int → Option ((List Int) × (List (Int × Int)) × Int × Int)
 | 0, _, _, _, _, _, _, _ => none
 | k + 1, p7_0, p7_1, p7_2, p7_3, p7_4, p7_5, p7_6 =>
 (runs_end k (p7_1, p7_2)).bind fun y11 =>
 bif (decide (p7_3 < (min y11 65536))) then
 bif decide ((List.length p7_0 + List.length [(IntKind.wrap .u16 p7_3)]) * 2 ≤ 140737488355328) then
 bif decide (List.length p7_0 + List.length [(IntKind.wrap .u16 p7_3)] ≤ 140737488355328) then
 runs_List_l1 k (p7_0 ++ [(IntKind.wrap .u16 p7_3)]) p7_1 p7_2 (IntKind.wrap .i64 (p7_3 + 1)) p7_4 p7_5 p7_6
 else none
 else none
 else
 some (p7_0, p7_4, p7_5, p7_6)
noncomputable def runs_List_l0 : Nat → (List Int) → (List (Int × Int)) → Int → Int → Option ((List Int))
 | 0, _, _, _, _ => none
 | k + 1, p4_0, p4_1, p4_2, p4_3 =>
 bif (decide (p4_3 < p4_2)) then
 bif decide ((0 : Int) ≤ p4_3) then
 bif decide (p4_3 < (p4_1.length : Int)) then
 let v20 := p4_1.getD (Int.toNat p4_3) ((0 : Int), (0 : Int))
 (runs_List_l1 k p4_0 v20.1 v20.2 (IntKind.wrap .i64 v20.1) p4_1 p4_2 p4_3).bind fun y22 =>
 runs_List_l0 k y22.1 y22.2.1 y22.2.2.1 (IntKind.wrap .i64 (y22.2.2.2 + 1))
 else none
 else none
 else
 some p4_0
noncomputable def runs_List (k : Nat) (a0 : (List (Int × Int))) : Option ((List Int)) :=
 (runs_List_l0 k [] a0 (a0.length : Int) 0).bind fun y24 =>
 some y24

noncomputable def slices_Clone_uint16 (k : Nat) (a0 : (List Int)) : Option ((List Int)) :=
 match a0 with
 | [] => some []
 | x :: l =>
 bif decide ((List.length ([] : List Int) + List.length (x :: l)) * 2 ≤ 140737488355328) then
 bif decide (List.length ([] : List Int) + List.length (x :: l) ≤ 140737488355328) then
 some (([] : List Int) ++ (x :: l))
 else none
 else none

noncomputable def container_Container_Array (k : Nat) (a0 : Cn) : Option ((List Int)) :=
 bif (decide (a0.1 = 2)) then
 (words_List k a0.2.2.1).bind fun y2 =>
 some y2
 else
 bif (decide (a0.1 = 3)) then
 (runs_List k a0.2.2.2).bind fun y4 =>
 some y4
 else
 (slices_Clone_uint16 k a0.2.1).bind fun y5 =>
 some y5

noncomputable def runs_Of_l0 : Nat → (List (Int × Int)) → (List Int) → (List Int) → Int → Int → Option ((List (Int × Int)))
 | 0, _, _, _, _, _ => none
 | k + 1, p4_0, p4_1, p4_2, p4_3, p4_4 =>
 bif (decide (p4_4 < p4_3)) then
 bif decide ((0 : Int) ≤ p4_4) then
 bif decide (p4_4 < (p4_2.length : Int)) then
 let v20 := p4_2.getD (Int.toNat p4_4) (0 : Int)
 bif (decide ((0 : Int) < p4_4)) then
 let v22 := IntKind.wrap .i64 (p4_4 - 1)
 bif decide ((0 : Int) ≤ v22) then
 bif decide (v22 < (p4_1.length : Int)) then
 bif (decide (v20 = (IntKind.wrap .u16 ((p4_1.getD (Int.toNat v22) (0 : Int)) + 1)))) then
 let v27 := IntKind.wrap .i64 ((p4_0.length : Int) - 1)
 bif decide ((0 : Int) ≤ v27) then
 bif decide (v27 < (p4_0.length : Int)) then
 bif decide ((0 : Int) ≤ v27) then
 bif decide (v27 < (p4_0.length : Int)) then
 runs_Of_l0 k (p4_0.set (Int.toNat v27) (((p4_0.getD (Int.toNat v27) ((0 : Int), (0 : Int)))).1, (IntKind.wrap .u16 ((p4_0.getD (Int.toNat v27) ((0 : Int), (0 : Int))).2 + 1)))) p4_1 p4_2 p4_3 (IntKind.wrap .i64 (p4_4 + 1))
 else none
 else none
 else none
 else none
 else
 bif decide ((List.length p4_0 + List.length [(v20, 0)]) * 4 ≤ 140737488355328) then
 bif decide (List.length p4_0 + List.length [(v20, 0)] ≤ 140737488355328) then
 runs_Of_l0 k (p4_0 ++ [(v20, 0)]) p4_1 p4_2 p4_3 (IntKind.wrap .i64 (p4_4 + 1))
 else none
 else none
 else none
 else none
 else
 bif decide ((List.length p4_0 + List.length [(v20, 0)]) * 4 ≤ 140737488355328) then
 bif decide (List.length p4_0 + List.length [(v20, 0)] ≤ 140737488355328) then
 runs_Of_l0 k (p4_0 ++ [(v20, 0)]) p4_1 p4_2 p4_3 (IntKind.wrap .i64 (p4_4 + 1))
 else none
 else none
 else none
 else none
 else
 some p4_0
noncomputable def runs_Of (k : Nat) (a0 : (List Int)) : Option ((List (Int × Int))) :=
 (runs_Of_l0 k [] a0 a0 (a0.length : Int) 0).bind fun y36 =>
 some y36

noncomputable def container_Container_Runs (k : Nat) (a0 : Cn) : Option ((List (Int × Int))) :=
 bif (decide (a0.1 = 3)) then
 (slices_Clone_Run k a0.2.2.2).bind fun y2 =>
 some y2
 else
 (container_Container_Array k a0).bind fun y3 =>
 (runs_Of k y3).bind fun y4 =>
 some y4

noncomputable def slices_Clone_uint64 (k : Nat) (a0 : (List Int)) : Option ((List Int)) :=
 match a0 with
 | [] => some []
 | x :: l =>
 bif decide ((List.length ([] : List Int) + List.length (x :: l)) * 8 ≤ 140737488355328) then
 bif decide (List.length ([] : List Int) + List.length (x :: l) ≤ 140737488355328) then
 some (([] : List Int) ++ (x :: l))
 else none
 else none

noncomputable def words_Of_l0 : Nat → (List Int) → (List Int) → Int → Int → Option ((List Int))
 | 0, _, _, _, _ => none
 | k + 1, p4_0, p4_1, p4_2, p4_3 =>
 bif (decide (p4_3 < p4_2)) then
 bif decide ((0 : Int) ≤ p4_3) then
 bif decide (p4_3 < (p4_1.length : Int)) then
 let v12 := p4_1.getD (Int.toNat p4_3) (0 : Int)
 let v13 := IntKind.wrap .u16 (v12.tdiv 64)
 bif decide ((0 : Int) ≤ v13) then
 bif decide (v13 < (p4_0.length : Int)) then
 bif !(decide ((v12.tmod 64) < 0)) then
 bif decide ((0 : Int) ≤ v13) then
 bif decide (v13 < (p4_0.length : Int)) then
 words_Of_l0 k (p4_0.set (Int.toNat v13) (bitsI .or .u64 (p4_0.getD (Int.toNat v13) (0 : Int)) (shlI .u64 1 (v12.tmod 64)))) p4_1 p4_2 (IntKind.wrap .i64 (p4_3 + 1))
 else none
 else none
 else none
 else none
 else none
 else none
 else none
 else
 some p4_0
noncomputable def words_Of (k : Nat) (a0 : (List Int)) : Option ((List Int)) :=
 bif decide (1024 ≤ 1024) then
 (words_Of_l0 k (List.replicate (Int.toNat 1024) (0 : Int)) a0 (a0.length : Int) 0).bind fun y20 =>
 some y20
 else none

noncomputable def container_Container_Words_l1 : Nat → (List Int) → Int → Int → Int → (List (Int × Int)) → Int → Int → Option ((List Int) × (List (Int × Int)) × Int × Int)
 | 0, _, _, _, _, _, _, _ => none
 | k + 1, p11_0, p11_1, p11_2, p11_3, p11_4, p11_5, p11_6 =>
 bif (decide (p11_3 ≤ (IntKind.wrap .i64 ((IntKind.wrap .i64 p11_1) + (IntKind.wrap .i64 p11_2))))) then
 let v24 := IntKind.wrap .i64 (p11_3.tdiv 64)
 bif decide ((0 : Int) ≤ v24) then
 bif decide (v24 < (p11_0.length : Int)) then
 bif !(decide ((p11_3.tmod 64) < 0)) then
 bif decide ((0 : Int) ≤ v24) then
 bif decide (v24 < (p11_0.length : Int)) then
 container_Container_Words_l1 k (p11_0.set (Int.toNat v24) (bitsI .or .u64 (p11_0.getD (Int.toNat v24) (0 : Int)) (shlI .u64 1 (p11_3.tmod 64)))) p11_1 p11_2 (IntKind.wrap .i64 (p11_3 + 1)) p11_4 p11_5 p11_6
 else none
 else none
 else none
 else none
 else none
 else
 some (p11_0, p11_4, p11_5, p11_6)
noncomputable def container_Container_Words_l0 : Nat → (List Int) → (List (Int × Int)) → Int → Int → Option ((List Int))
 | 0, _, _, _, _ => none
 | k + 1, p8_0, p8_1, p8_2, p8_3 =>
 bif (decide (p8_3 < p8_2)) then
 bif decide ((0 : Int) ≤ p8_3) then
 bif decide (p8_3 < (p8_1.length : Int)) then
 let v34 := p8_1.getD (Int.toNat p8_3) ((0 : Int), (0 : Int))
 (container_Container_Words_l1 k p8_0 v34.1 v34.2 (IntKind.wrap .i64 v34.1) p8_1 p8_2 p8_3).bind fun y36 =>
 container_Container_Words_l0 k y36.1 y36.2.1 y36.2.2.1 (IntKind.wrap .i64 (y36.2.2.2 + 1))
 else none
 else none
 else
 some p8_0
noncomputable def container_Container_Words (k : Nat) (a0 : Cn) : Option ((List Int)) :=
 bif (decide (a0.1 = 2)) then
 (slices_Clone_uint64 k a0.2.2.1).bind fun y2 =>
 some y2
 else
 bif (decide (a0.1 = 3)) then
 (words_Of k []).bind fun y4 =>
 (container_Container_Words_l0 k y4 a0.2.2.2 (a0.2.2.2.length : Int) 0).bind fun y6 =>
 some y6
 else
 (words_Of k a0.2.1).bind fun y7 =>
 some y7

noncomputable def container_Container_Canonical (k : Nat) (a0 : Cn) : Option (Cn) :=
 (container_Container_Len k a0).bind fun y1 =>
 (container_Container_many k a0).bind fun y2 =>
 let j3 := fun (x4 : Int) =>
 (bif (decide ((IntKind.wrap .i64 (2 + (IntKind.wrap .i64 (4 * y2)))) < x4)) then
 (container_Container_Kind k a0).bind fun y8 =>
 bif (decide ((3 : Int) = y8)) then
 some a0
 else
 (container_Container_Runs k a0).bind fun y10 =>
 some (3, ([], ([], y10)))
 else
 bif (decide (y1 ≤ 4096)) then
 (container_Container_Kind k a0).bind fun y12 =>
 bif (decide ((1 : Int) = y12)) then
 some a0
 else
 (container_Container_Array k a0).bind fun y14 =>
 some (1, (y14, ([], [])))
 else
 (container_Container_Kind k a0).bind fun y15 =>
 bif (decide ((2 : Int) = y15)) then
 some a0
 else
 (container_Container_Words k a0).bind fun y17 =>
 some (2, ([], (y17, []))))
 bif (decide (y1 ≤ 4096)) then
 j3 (IntKind.wrap .i64 (2 * y1))
 else
 j3 8192

noncomputable def runs_row_l0 : Nat → (List Int) → (List (Int × Int)) → Int → Int → Option ((List Int))
 | 0, _, _, _, _ => none
 | k + 1, p4_0, p4_1, p4_2, p4_3 =>
 bif (decide (p4_3 < p4_2)) then
 bif decide ((0 : Int) ≤ p4_3) then
 bif decide (p4_3 < (p4_1.length : Int)) then
 let v9 := p4_1.getD (Int.toNat p4_3) ((0 : Int), (0 : Int))
 (runs_end k v9).bind fun y11 =>
 bif decide ((List.length p4_0 + List.length [(IntKind.wrap .i64 v9.1), y11]) * 8 ≤ 140737488355328) then
 bif decide (List.length p4_0 + List.length [(IntKind.wrap .i64 v9.1), y11] ≤ 140737488355328) then
 runs_row_l0 k (p4_0 ++ [(IntKind.wrap .i64 v9.1), y11]) p4_1 p4_2 (IntKind.wrap .i64 (p4_3 + 1))
 else none
 else none
 else none
 else none
 else
 some p4_0
noncomputable def runs_row (k : Nat) (a0 : (List (Int × Int))) : Option ((List Int)) :=
 (runs_row_l0 k [] a0 (a0.length : Int) 0).bind fun y14 =>
 some y14

noncomputable def runs_Flip_1 (k : Nat) (a0 : Bool) (a1 : Bool) : Option (Bool) :=
 some (!(a0 == a1))

noncomputable def runs_edges_Flip_1_l1 : Nat → (List (Int × Int)) → (List Int) → (List Int) → Bool → Int → Int → Int → Int → Option ((List (Int × Int)) × (List Int) × (List Int) × Bool × Int × Int × Int × Int)
 | 0, _, _, _, _, _, _, _, _ => none
 | k + 1, p11_0, p11_1, p11_2, p11_3, p11_4, p11_5, p11_6, p11_7 =>
 bif (decide (p11_5 < (p11_1.length : Int))) then
 bif decide ((0 : Int) ≤ p11_5) then
 bif decide (p11_5 < (p11_1.length : Int)) then
 bif (decide ((p11_1.getD (Int.toNat p11_5) (0 : Int)) ≤ p11_7)) then
 runs_edges_Flip_1_l1 k p11_0 p11_1 p11_2 p11_3 p11_4 (IntKind.wrap .i64 (p11_5 + 1)) p11_6 p11_7
 else
 some (p11_0, p11_1, p11_2, p11_3, p11_4, p11_5, p11_6, p11_7)
 else none
 else none
 else
 some (p11_0, p11_1, p11_2, p11_3, p11_4, p11_5, p11_6, p11_7)
noncomputable def runs_edges_Flip_1_l2 : Nat → (List (Int × Int)) → (List Int) → (List Int) → Bool → Int → Int → Int → Int → Option ((List (Int × Int)) × (List Int) × (List Int) × Bool × Int × Int × Int × Int)
 | 0, _, _, _, _, _, _, _, _ => none
 | k + 1, p13_0, p13_1, p13_2, p13_3, p13_4, p13_5, p13_6, p13_7 =>
 bif (decide (p13_6 < (p13_2.length : Int))) then
 bif decide ((0 : Int) ≤ p13_6) then
 bif decide (p13_6 < (p13_2.length : Int)) then
 bif (decide ((p13_2.getD (Int.toNat p13_6) (0 : Int)) ≤ p13_7)) then
 runs_edges_Flip_1_l2 k p13_0 p13_1 p13_2 p13_3 p13_4 p13_5 (IntKind.wrap .i64 (p13_6 + 1)) p13_7
 else
 some (p13_0, p13_1, p13_2, p13_3, p13_4, p13_5, p13_6, p13_7)
 else none
 else none
 else
 some (p13_0, p13_1, p13_2, p13_3, p13_4, p13_5, p13_6, p13_7)
noncomputable def runs_edges_Flip_1_l0 : Nat → (List (Int × Int)) → (List Int) → (List Int) → Bool → Int → Int → Int → Option ((List (Int × Int)))
 | 0, _, _, _, _, _, _, _ => none
 | k + 1, p5_0, p5_1, p5_2, p5_3, p5_4, p5_5, p5_6 =>
 bif (decide (p5_5 < (p5_1.length : Int))) then
 let j55 := fun (x56 : Int) =>
 (let j57 := fun (x58 : Int) =>
 ((runs_edges_Flip_1_l1 k p5_0 p5_1 p5_2 p5_3 p5_4 p5_5 p5_6 x58).bind fun y59 =>
 (runs_edges_Flip_1_l2 k y59.1 y59.2.1 y59.2.2.1 y59.2.2.2.1 y59.2.2.2.2.1 y59.2.2.2.2.2.1 y59.2.2.2.2.2.2.1 y59.2.2.2.2.2.2.2).bind fun y60 =>
 (runs_Flip_1 k (decide ((y60.2.2.2.2.2.1.tmod 2) = 1)) (decide ((y60.2.2.2.2.2.2.1.tmod 2) = 1))).bind fun y65 =>
 bif (y65 == y60.2.2.2.1) then
 runs_edges_Flip_1_l0 k y60.1 y60.2.1 y60.2.2.1 y60.2.2.2.1 y60.2.2.2.2.1 y60.2.2.2.2.2.1 y60.2.2.2.2.2.2.1
 else
 bif y60.2.2.2.1 then
 let v67 := IntKind.wrap .u16 y60.2.2.2.2.1
 let v69 := IntKind.wrap .i64 ((IntKind.wrap .i64 (y60.2.2.2.2.2.2.2 - y60.2.2.2.2.1)) - 1)
 bif decide ((List.length y60.1 + List.length [(v67, (IntKind.wrap .u16 v69))]) * 4 ≤ 140737488355328) then
 bif decide (List.length y60.1 + List.length [(v67, (IntKind.wrap .u16 v69))] ≤ 140737488355328) then
 runs_edges_Flip_1_l0 k (y60.1 ++ [(v67, (IntKind.wrap .u16 v69))]) y60.2.1 y60.2.2.1 y65 y60.2.2.2.2.2.2.2 y60.2.2.2.2.2.1 y60.2.2.2.2.2.2.1
 else none
 else none
 else
 runs_edges_Flip_1_l0 k y60.1 y60.2.1 y60.2.2.1 y65 y60.2.2.2.2.2.2.2 y60.2.2.2.2.2.1 y60.2.2.2.2.2.2.1)
 bif (decide (p5_6 < (p5_2.length : Int))) then
 bif decide ((0 : Int) ≤ p5_6) then
 bif decide (p5_6 < (p5_2.length : Int)) then
 j57 (min x56 (p5_2.getD (Int.toNat p5_6) (0 : Int)))
 else none
 else none
 else
 j57 x56)
 bif (decide (p5_5 < (p5_1.length : Int))) then
 bif decide ((0 : Int) ≤ p5_5) then
 bif decide (p5_5 < (p5_1.length : Int)) then
 j55 (p5_1.getD (Int.toNat p5_5) (0 : Int))
 else none
 else none
 else
 j55 65537
 else
 bif (decide (p5_6 < (p5_2.length : Int))) then
 let j81 := fun (x82 : Int) =>
 (let j83 := fun (x84 : Int) =>
 ((runs_edges_Flip_1_l1 k p5_0 p5_1 p5_2 p5_3 p5_4 p5_5 p5_6 x84).bind fun y85 =>
 (runs_edges_Flip_1_l2 k y85.1 y85.2.1 y85.2.2.1 y85.2.2.2.1 y85.2.2.2.2.1 y85.2.2.2.2.2.1 y85.2.2.2.2.2.2.1 y85.2.2.2.2.2.2.2).bind fun y86 =>
 (runs_Flip_1 k (decide ((y86.2.2.2.2.2.1.tmod 2) = 1)) (decide ((y86.2.2.2.2.2.2.1.tmod 2) = 1))).bind fun y91 =>
 bif (y91 == y86.2.2.2.1) then
 runs_edges_Flip_1_l0 k y86.1 y86.2.1 y86.2.2.1 y86.2.2.2.1 y86.2.2.2.2.1 y86.2.2.2.2.2.1 y86.2.2.2.2.2.2.1
 else
 bif y86.2.2.2.1 then
 let v93 := IntKind.wrap .u16 y86.2.2.2.2.1
 let v95 := IntKind.wrap .i64 ((IntKind.wrap .i64 (y86.2.2.2.2.2.2.2 - y86.2.2.2.2.1)) - 1)
 bif decide ((List.length y86.1 + List.length [(v93, (IntKind.wrap .u16 v95))]) * 4 ≤ 140737488355328) then
 bif decide (List.length y86.1 + List.length [(v93, (IntKind.wrap .u16 v95))] ≤ 140737488355328) then
 runs_edges_Flip_1_l0 k (y86.1 ++ [(v93, (IntKind.wrap .u16 v95))]) y86.2.1 y86.2.2.1 y91 y86.2.2.2.2.2.2.2 y86.2.2.2.2.2.1 y86.2.2.2.2.2.2.1
 else none
 else none
 else
 runs_edges_Flip_1_l0 k y86.1 y86.2.1 y86.2.2.1 y91 y86.2.2.2.2.2.2.2 y86.2.2.2.2.2.1 y86.2.2.2.2.2.2.1)
 bif (decide (p5_6 < (p5_2.length : Int))) then
 bif decide ((0 : Int) ≤ p5_6) then
 bif decide (p5_6 < (p5_2.length : Int)) then
 j83 (min x82 (p5_2.getD (Int.toNat p5_6) (0 : Int)))
 else none
 else none
 else
 j83 x82)
 bif (decide (p5_5 < (p5_1.length : Int))) then
 bif decide ((0 : Int) ≤ p5_5) then
 bif decide (p5_5 < (p5_1.length : Int)) then
 j81 (p5_1.getD (Int.toNat p5_5) (0 : Int))
 else none
 else none
 else
 j81 65537
 else
 some p5_0
noncomputable def runs_edges_Flip_1 (k : Nat) (a0 : (List Int)) (a1 : (List Int)) : Option ((List (Int × Int))) :=
 (runs_edges_Flip_1_l0 k [] a0 a1 false 0 0 0).bind fun y105 =>
 some y105

noncomputable def runs_Flip (k : Nat) (a0 : (List (Int × Int))) (a1 : Int) (a2 : Int) : Option ((List (Int × Int))) :=
 bif (decide ((min a2 65536) ≤ (max a1 0))) then
 (slices_Clone_Run k a0).bind fun y4 =>
 some y4
 else
 (runs_row k a0).bind fun y5 =>
 (runs_edges_Flip_1 k y5 [(max a1 0), (min a2 65536)]).bind fun y6 =>
 some y6

noncomputable def container_Container_Flip (k : Nat) (a0 : Cn) (a1 : Int) (a2 : Int) : Option (Cn) :=
 bif (decide (a0.1 = 2)) then
 (words_Flip k a0.2.2.1 a1 a2).bind fun y2 =>
 (container_Container_Canonical k (2, ([], (y2, [])))).bind fun y3 =>
 some y3
 else
 (container_Container_Runs k a0).bind fun y4 =>
 (runs_Flip k y4 a1 a2).bind fun y5 =>
 (container_Container_Canonical k (3, ([], ([], y5)))).bind fun y6 =>
 some y6

noncomputable def arrays_Or_1 (k : Nat) (a0 : Bool) (a1 : Bool) : Option (Bool) :=
 some true

noncomputable def arrays_merge_Or_1_l0 : Nat → (List Int) → (List Int) → (List Int) → Option ((List Int))
 | 0, _, _, _ => none
 | k + 1, p3_0, p3_1, p3_2 =>
 bif (decide ((0 : Int) < (p3_1.length : Int))) then
 bif (decide ((p3_2.length : Int) = 0)) then
 bif (decide ((p3_1.length : Int) = 0)) then
 bif decide ((0 : Int) < (p3_1.length : Int)) then
 bif decide ((1 : Int) ≤ (p3_1.length : Int)) then
 bif decide ((0 : Int) < (p3_2.length : Int)) then
 let v181 := p3_2.getD (Int.toNat 0) (0 : Int)
 bif decide ((1 : Int) ≤ (p3_2.length : Int)) then
 (arrays_Or_1 k true true).bind fun y183 =>
 bif y183 then
 bif decide ((List.length p3_0 + List.length [v181]) * 2 ≤ 140737488355328) then
 bif decide (List.length p3_0 + List.length [v181] ≤ 140737488355328) then
 arrays_merge_Or_1_l0 k (p3_0 ++ [v181]) (p3_1.drop (Int.toNat 1)) (p3_2.drop (Int.toNat 1))
 else none
 else none
 else
 arrays_merge_Or_1_l0 k p3_0 (p3_1.drop (Int.toNat 1)) (p3_2.drop (Int.toNat 1))
 else none
 else none
 else none
 else none
 else
 bif (decide ((0 : Int) < (p3_2.length : Int))) then
 bif decide ((0 : Int) < (p3_2.length : Int)) then
 let v187 := p3_2.getD (Int.toNat 0) (0 : Int)
 bif decide ((0 : Int) < (p3_1.length : Int)) then
 let v188 := p3_1.getD (Int.toNat 0) (0 : Int)
 bif decide ((0 : Int) < (p3_1.length : Int)) then
 let v190 := p3_1.getD (Int.toNat 0) (0 : Int)
 bif decide ((1 : Int) ≤ (p3_1.length : Int)) then
 bif (decide (v187 ≤ v188)) then
 bif decide ((0 : Int) < (p3_2.length : Int)) then
 let v192 := p3_2.getD (Int.toNat 0) (0 : Int)
 bif decide ((1 : Int) ≤ (p3_2.length : Int)) then
 (arrays_Or_1 k true (decide (v187 ≤ v188))).bind fun y194 =>
 bif y194 then
 bif decide ((List.length p3_0 + List.length [v192]) * 2 ≤ 140737488355328) then
 bif decide (List.length p3_0 + List.length [v192] ≤ 140737488355328) then
 arrays_merge_Or_1_l0 k (p3_0 ++ [v192]) (p3_1.drop (Int.toNat 1)) (p3_2.drop (Int.toNat 1))
 else none
 else none
 else
 arrays_merge_Or_1_l0 k p3_0 (p3_1.drop (Int.toNat 1)) (p3_2.drop (Int.toNat 1))
 else none
 else none
 else
 (arrays_Or_1 k true (decide (v187 ≤ v188))).bind fun y196 =>
 bif y196 then
 bif decide ((List.length p3_0 + List.length [v190]) * 2 ≤ 140737488355328) then
 bif decide (List.length p3_0 + List.length [v190] ≤ 140737488355328) then
 arrays_merge_Or_1_l0 k (p3_0 ++ [v190]) (p3_1.drop (Int.toNat 1)) p3_2
 else none
 else none
 else
 arrays_merge_Or_1_l0 k p3_0 (p3_1.drop (Int.toNat 1)) p3_2
 else none
 else none
 else none
 else none
 else
 bif decide ((0 : Int) < (p3_1.length : Int)) then
 let v198 := p3_1.getD (Int.toNat 0) (0 : Int)
 bif decide ((1 : Int) ≤ (p3_1.length : Int)) then
 (arrays_Or_1 k true false).bind fun y200 =>
 bif y200 then
 bif decide ((List.length p3_0 + List.length [v198]) * 2 ≤ 140737488355328) then
 bif decide (List.length p3_0 + List.length [v198] ≤ 140737488355328) then
 arrays_merge_Or_1_l0 k (p3_0 ++ [v198]) (p3_1.drop (Int.toNat 1)) p3_2
 else none
 else none
 else
 arrays_merge_Or_1_l0 k p3_0 (p3_1.drop (Int.toNat 1)) p3_2
 else none
 else none
 else
 bif (decide ((0 : Int) < (p3_1.length : Int))) then
 bif decide ((0 : Int) < (p3_1.length : Int)) then
 let v204 := p3_1.getD (Int.toNat 0) (0 : Int)
 bif decide ((0 : Int) < (p3_2.length : Int)) then
 let v205 := p3_2.getD (Int.toNat 0) (0 : Int)
 bif (decide ((p3_1.length : Int) = 0)) then
 let j209 := fun (x210 : (List Int)) (x211 : Int) =>
 (bif decide ((0 : Int) < (p3_2.length : Int)) then
 let v212 := p3_2.getD (Int.toNat 0) (0 : Int)
 bif decide ((1 : Int) ≤ (p3_2.length : Int)) then
 (arrays_Or_1 k (decide (v204 ≤ v205)) true).bind fun y214 =>
 bif y214 then
 bif decide ((List.length p3_0 + List.length [v212]) * 2 ≤ 140737488355328) then
 bif decide (List.length p3_0 + List.length [v212] ≤ 140737488355328) then
 arrays_merge_Or_1_l0 k (p3_0 ++ [v212]) x210 (p3_2.drop (Int.toNat 1))
 else none
 else none
 else
 arrays_merge_Or_1_l0 k p3_0 x210 (p3_2.drop (Int.toNat 1))
 else none
 else none)
 bif (decide (v204 ≤ v205)) then
 bif decide ((0 : Int) < (p3_1.length : Int)) then
 bif decide ((1 : Int) ≤ (p3_1.length : Int)) then
 j209 (p3_1.drop (Int.toNat 1)) (p3_1.getD (Int.toNat 0) (0 : Int))
 else none
 else none
 else
 j209 p3_1 0
 else
 bif (decide ((0 : Int) < (p3_2.length : Int))) then
 bif decide ((0 : Int) < (p3_2.length : Int)) then
 let v220 := p3_2.getD (Int.toNat 0) (0 : Int)
 bif decide ((0 : Int) < (p3_1.length : Int)) then
 let v221 := p3_1.getD (Int.toNat 0) (0 : Int)
 let j223 := fun (x224 : (List Int)) (x225 : Int) =>
 (bif (decide (v220 ≤ v221)) then
 bif decide ((0 : Int) < (p3_2.length : Int)) then
 let v226 := p3_2.getD (Int.toNat 0) (0 : Int)
 bif decide ((1 : Int) ≤ (p3_2.length : Int)) then
 (arrays_Or_1 k (decide (v204 ≤ v205)) (decide (v220 ≤ v221))).bind fun y228 =>
 bif y228 then
 bif decide ((List.length p3_0 + List.length [v226]) * 2 ≤ 140737488355328) then
 bif decide (List.length p3_0 + List.length [v226] ≤ 140737488355328) then
 arrays_merge_Or_1_l0 k (p3_0 ++ [v226]) x224 (p3_2.drop (Int.toNat 1))
 else none
 else none
 else
 arrays_merge_Or_1_l0 k p3_0 x224 (p3_2.drop (Int.toNat 1))
 else none
 else none
 else
 (arrays_Or_1 k (decide (v204 ≤ v205)) (decide (v220 ≤ v221))).bind fun y230 =>
 bif y230 then
 bif decide ((List.length p3_0 + List.length [x225]) * 2 ≤ 140737488355328) then
 bif decide (List.length p3_0 + List.length [x225] ≤ 140737488355328) then
 arrays_merge_Or_1_l0 k (p3_0 ++ [x225]) x224 p3_2
 else none
 else none
 else
 arrays_merge_Or_1_l0 k p3_0 x224 p3_2)
 bif (decide (v204 ≤ v205)) then
 bif decide ((0 : Int) < (p3_1.length : Int)) then
 bif decide ((1 : Int) ≤ (p3_1.length : Int)) then
 j223 (p3_1.drop (Int.toNat 1)) (p3_1.getD (Int.toNat 0) (0 : Int))
 else none
 else none
 else
 j223 p3_1 0
 else none
 else none
 else
 bif (decide (v204 ≤ v205)) then
 bif decide ((0 : Int) < (p3_1.length : Int)) then
 let v234 := p3_1.getD (Int.toNat 0) (0 : Int)
 bif decide ((1 : Int) ≤ (p3_1.length : Int)) then
 (arrays_Or_1 k (decide (v204 ≤ v205)) false).bind fun y236 =>
 bif y236 then
 bif decide ((List.length p3_0 + List.length [v234]) * 2 ≤ 140737488355328) then
 bif decide (List.length p3_0 + List.length [v234] ≤ 140737488355328) then
 arrays_merge_Or_1_l0 k (p3_0 ++ [v234]) (p3_1.drop (Int.toNat 1)) p3_2
 else none
 else none
 else
 arrays_merge_Or_1_l0 k p3_0 (p3_1.drop (Int.toNat 1)) p3_2
 else none
 else none
 else
 (arrays_Or_1 k (decide (v204 ≤ v205)) false).bind fun y238 =>
 bif y238 then
 bif decide ((List.length p3_0 + List.length [0]) * 2 ≤ 140737488355328) then
 bif decide (List.length p3_0 + List.length [0] ≤ 140737488355328) then
 arrays_merge_Or_1_l0 k (p3_0 ++ [0]) p3_1 p3_2
 else none
 else none
 else
 arrays_merge_Or_1_l0 k p3_0 p3_1 p3_2
 else none
 else none
 else
 bif (decide ((p3_1.length : Int) = 0)) then
 bif decide ((0 : Int) < (p3_2.length : Int)) then
 let v242 := p3_2.getD (Int.toNat 0) (0 : Int)
 bif decide ((1 : Int) ≤ (p3_2.length : Int)) then
 (arrays_Or_1 k false true).bind fun y244 =>
 bif y244 then
 bif decide ((List.length p3_0 + List.length [v242]) * 2 ≤ 140737488355328) then
 bif decide (List.length p3_0 + List.length [v242] ≤ 140737488355328) then
 arrays_merge_Or_1_l0 k (p3_0 ++ [v242]) p3_1 (p3_2.drop (Int.toNat 1))
 else none
 else none
 else
 arrays_merge_Or_1_l0 k p3_0 p3_1 (p3_2.drop (Int.toNat 1))
 else none
 else none
 else
 bif (decide ((0 : Int) < (p3_2.length : Int))) then
 bif decide ((0 : Int) < (p3_2.length : Int)) then
 let v248 := p3_2.getD (Int.toNat 0) (0 : Int)
 bif decide ((0 : Int) < (p3_1.length : Int)) then
 let v249 := p3_1.getD (Int.toNat 0) (0 : Int)
 bif (decide (v248 ≤ v249)) then
 bif decide ((0 : Int) < (p3_2.length : Int)) then
 let v251 := p3_2.getD (Int.toNat 0) (0 : Int)
 bif decide ((1 : Int) ≤ (p3_2.length : Int)) then
 (arrays_Or_1 k false (decide (v248 ≤ v249))).bind fun y253 =>
 bif y253 then
 bif decide ((List.length p3_0 + List.length [v251]) * 2 ≤ 140737488355328) then
 bif decide (List.length p3_0 + List.length [v251] ≤ 140737488355328) then
 arrays_merge_Or_1_l0 k (p3_0 ++ [v251]) p3_1 (p3_2.drop (Int.toNat 1))
 else none
 else none
 else
 arrays_merge_Or_1_l0 k p3_0 p3_1 (p3_2.drop (Int.toNat 1))
 else none
 else none
 else
 (arrays_Or_1 k false (decide (v248 ≤ v249))).bind fun y255 =>
 bif y255 then
 bif decide ((List.length p3_0 + List.length [0]) * 2 ≤ 140737488355328) then
 bif decide (List.length p3_0 + List.length [0] ≤ 140737488355328) then
 arrays_merge_Or_1_l0 k (p3_0 ++ [0]) p3_1 p3_2
 else none
 else none
 else
 arrays_merge_Or_1_l0 k p3_0 p3_1 p3_2
 else none
 else none
 else
 (arrays_Or_1 k false false).bind fun y257 =>
 bif y257 then
 bif decide ((List.length p3_0 + List.length [0]) * 2 ≤ 140737488355328) then
 bif decide (List.length p3_0 + List.length [0] ≤ 140737488355328) then
 arrays_merge_Or_1_l0 k (p3_0 ++ [0]) p3_1 p3_2
 else none
 else none
 else
 arrays_merge_Or_1_l0 k p3_0 p3_1 p3_2
 else
 bif (decide ((0 : Int) < (p3_2.length : Int))) then
 bif (decide ((p3_2.length : Int) = 0)) then
 bif (decide ((p3_1.length : Int) = 0)) then
 bif decide ((0 : Int) < (p3_1.length : Int)) then
 bif decide ((1 : Int) ≤ (p3_1.length : Int)) then
 bif decide ((0 : Int) < (p3_2.length : Int)) then
 let v267 := p3_2.getD (Int.toNat 0) (0 : Int)
 bif decide ((1 : Int) ≤ (p3_2.length : Int)) then
 (arrays_Or_1 k true true).bind fun y269 =>
 bif y269 then
 bif decide ((List.length p3_0 + List.length [v267]) * 2 ≤ 140737488355328) then
 bif decide (List.length p3_0 + List.length [v267] ≤ 140737488355328) then
 arrays_merge_Or_1_l0 k (p3_0 ++ [v267]) (p3_1.drop (Int.toNat 1)) (p3_2.drop (Int.toNat 1))
 else none
 else none
 else
 arrays_merge_Or_1_l0 k p3_0 (p3_1.drop (Int.toNat 1)) (p3_2.drop (Int.toNat 1))
 else none
 else none
 else none
 else none
 else
 bif (decide ((0 : Int) < (p3_2.length : Int))) then
 bif decide ((0 : Int) < (p3_2.length : Int)) then
 let v273 := p3_2.getD (Int.toNat 0) (0 : Int)
 bif decide ((0 : Int) < (p3_1.length : Int)) then
 let v274 := p3_1.getD (Int.toNat 0) (0 : Int)
 bif decide ((0 : Int) < (p3_1.length : Int)) then
 let v276 := p3_1.getD (Int.toNat 0) (0 : Int)
 bif decide ((1 : Int) ≤ (p3_1.length : Int)) then
 bif (decide (v273 ≤ v274)) then
 bif decide ((0 : Int) < (p3_2.length : Int)) then
 let v278 := p3_2.getD (Int.toNat 0) (0 : Int)
 bif decide ((1 : Int) ≤ (p3_2.length : Int)) then
 (arrays_Or_1 k true (decide (v273 ≤ v274))).bind fun y280 =>
 bif y280 then
 bif decide ((List.length p3_0 + List.length [v278]) * 2 ≤ 140737488355328) then
 bif decide (List.length p3_0 + List.length [v278] ≤ 140737488355328) then
 arrays_merge_Or_1_l0 k (p3_0 ++ [v278]) (p3_1.drop (Int.toNat 1)) (p3_2.drop (Int.toNat 1))
 else none
 else none
 else
 arrays_merge_Or_1_l0 k p3_0 (p3_1.drop (Int.toNat 1)) (p3_2.drop (Int.toNat 1))
 else none
 else none
 else
 (arrays_Or_1 k true (decide (v273 ≤ v274))).bind fun y282 =>
 bif y282 then
 bif decide ((List.length p3_0 + List.length [v276]) * 2 ≤ 140737488355328) then
 bif decide (List.length p3_0 + List.length [v276] ≤ 140737488355328) then
 arrays_merge_Or_1_l0 k (p3_0 ++ [v276]) (p3_1.drop (Int.toNat 1)) p3_2
 else none
 else none
 else
 arrays_merge_Or_1_l0 k p3_0 (p3_1.drop (Int.toNat 1)) p3_2
 else none
 else none
 else none
 else none
 else
 bif decide ((0 : Int) < (p3_1.length : Int)) then
 let v284 := p3_1.getD (Int.toNat 0) (0 : Int)
 bif decide ((1 : Int) ≤ (p3_1.length : Int)) then
 (arrays_Or_1 k true false).bind fun y286 =>
 bif y286 then
 bif decide ((List.length p3_0 + List.length [v284]) * 2 ≤ 140737488355328) then
 bif decide (List.length p3_0 + List.length [v284] ≤ 140737488355328) then
 arrays_merge_Or_1_l0 k (p3_0 ++ [v284]) (p3_1.drop (Int.toNat 1)) p3_2
 else none
 else none
 else
 arrays_merge_Or_1_l0 k p3_0 (p3_1.drop (Int.toNat 1)) p3_2
 else none
 else none
 else
 bif (decide ((0 : Int) < (p3_1.length : Int))) then
 bif decide ((0 : Int) < (p3_1.length : Int)) then
 let v290 := p3_1.getD (Int.toNat 0) (0 : Int)
 bif decide ((0 : Int) < (p3_2.length : Int)) then
 let v291 := p3_2.getD (Int.toNat 0) (0 : Int)
 bif (decide ((p3_1.length : Int) = 0)) then
 let j295 := fun (x296 : (List Int)) (x297 : Int) =>
 (bif decide ((0 : Int) < (p3_2.length : Int)) then
 let v298 := p3_2.getD (Int.toNat 0) (0 : Int)
 bif decide ((1 : Int) ≤ (p3_2.length : Int)) then
 (arrays_Or_1 k (decide (v290 ≤ v291)) true).bind fun y300 =>
 bif y300 then
 bif decide ((List.length p3_0 + List.length [v298]) * 2 ≤ 140737488355328) then
 bif decide (List.length p3_0 + List.length [v298] ≤ 140737488355328) then
 arrays_merge_Or_1_l0 k (p3_0 ++ [v298]) x296 (p3_2.drop (Int.toNat 1))
 else none
 else none
 else
 arrays_merge_Or_1_l0 k p3_0 x296 (p3_2.drop (Int.toNat 1))
 else none
 else none)
 bif (decide (v290 ≤ v291)) then
 bif decide ((0 : Int) < (p3_1.length : Int)) then
 bif decide ((1 : Int) ≤ (p3_1.length : Int)) then
 j295 (p3_1.drop (Int.toNat 1)) (p3_1.getD (Int.toNat 0) (0 : Int))
 else none
 else none
 else
 j295 p3_1 0
 else
 bif (decide ((0 : Int) < (p3_2.length : Int))) then
 bif decide ((0 : Int) < (p3_2.length : Int)) then
 let v306 := p3_2.getD (Int.toNat 0) (0 : Int)
 bif decide ((0 : Int) < (p3_1.length : Int)) then
 let v307 := p3_1.getD (Int.toNat 0) (0 : Int)
 let j309 := fun (x310 : (List Int)) (x311 : Int) =>
 (bif (decide (v306 ≤ v307)) then
 bif decide ((0 : Int) < (p3_2.length : Int)) then
 let v312 := p3_2.getD (Int.toNat 0) (0 : Int)
 bif decide ((1 : Int) ≤ (p3_2.length : Int)) then
 (arrays_Or_1 k (decide (v290 ≤ v291)) (decide (v306 ≤ v307))).bind fun y314 =>
 bif y314 then
 bif decide ((List.length p3_0 + List.length [v312]) * 2 ≤ 140737488355328) then
 bif decide (List.length p3_0 + List.length [v312] ≤ 140737488355328) then
 arrays_merge_Or_1_l0 k (p3_0 ++ [v312]) x310 (p3_2.drop (Int.toNat 1))
 else none
 else none
 else
 arrays_merge_Or_1_l0 k p3_0 x310 (p3_2.drop (Int.toNat 1))
 else none
 else none
 else
 (arrays_Or_1 k (decide (v290 ≤ v291)) (decide (v306 ≤ v307))).bind fun y316 =>
 bif y316 then
 bif decide ((List.length p3_0 + List.length [x311]) * 2 ≤ 140737488355328) then
 bif decide (List.length p3_0 + List.length [x311] ≤ 140737488355328) then
 arrays_merge_Or_1_l0 k (p3_0 ++ [x311]) x310 p3_2
 else none
 else none
 else
 arrays_merge_Or_1_l0 k p3_0 x310 p3_2)
 bif (decide (v290 ≤ v291)) then
 bif decide ((0 : Int) < (p3_1.length : Int)) then
 bif decide ((1 : Int) ≤ (p3_1.length : Int)) then
 j309 (p3_1.drop (Int.toNat 1)) (p3_1.getD (Int.toNat 0) (0 : Int))
 else none
 else none
 else
 j309 p3_1 0
 else none
 else none
 else
 bif (decide (v290 ≤ v291)) then
 bif decide ((0 : Int) < (p3_1.length : Int)) then
 let v320 := p3_1.getD (Int.toNat 0) (0 : Int)
 bif decide ((1 : Int) ≤ (p3_1.length : Int)) then
 (arrays_Or_1 k (decide (v290 ≤ v291)) false).bind fun y322 =>
 bif y322 then
 bif decide ((List.length p3_0 + List.length [v320]) * 2 ≤ 140737488355328) then
 bif decide (List.length p3_0 + List.length [v320] ≤ 140737488355328) then
 arrays_merge_Or_1_l0 k (p3_0 ++ [v320]) (p3_1.drop (Int.toNat 1)) p3_2
 else none
 else none
 else
 arrays_merge_Or_1_l0 k p3_0 (p3_1.drop (Int.toNat 1)) p3_2
 else none
 else none
 else
 (arrays_Or_1 k (decide (v290 ≤ v291)) false).bind fun y324 =>
 bif y324 then
 bif decide ((List.length p3_0 + List.length [0]) * 2 ≤ 140737488355328) then
 bif decide (List.length p3_0 + List.length [0] ≤ 140737488355328) then
 arrays_merge_Or_1_l0 k (p3_0 ++ [0]) p3_1 p3_2
 else none
 else none
 else
 arrays_merge_Or_1_l0 k p3_0 p3_1 p3_2
 else none
 else none
 else
 bif (decide ((p3_1.length : Int) = 0)) then
 bif decide ((0 : Int) < (p3_2.length : Int)) then
 let v328 := p3_2.getD (Int.toNat 0) (0 : Int)
 bif decide ((1 : Int) ≤ (p3_2.length : Int)) then
 (arrays_Or_1 k false true).bind fun y330 =>
 bif y330 then
 bif decide ((List.length p3_0 + List.length [v328]) * 2 ≤ 140737488355328) then
 bif decide (List.length p3_0 + List.length [v328] ≤ 140737488355328) then
 arrays_merge_Or_1_l0 k (p3_0 ++ [v328]) p3_1 (p3_2.drop (Int.toNat 1))
 else none
 else none
 else
 arrays_merge_Or_1_l0 k p3_0 p3_1 (p3_2.drop (Int.toNat 1))
 else none
 else none
 else
 bif (decide ((0 : Int) < (p3_2.length : Int))) then
 bif decide ((0 : Int) < (p3_2.length : Int)) then
 let v334 := p3_2.getD (Int.toNat 0) (0 : Int)
 bif decide ((0 : Int) < (p3_1.length : Int)) then
 let v335 := p3_1.getD (Int.toNat 0) (0 : Int)
 bif (decide (v334 ≤ v335)) then
 bif decide ((0 : Int) < (p3_2.length : Int)) then
 let v337 := p3_2.getD (Int.toNat 0) (0 : Int)
 bif decide ((1 : Int) ≤ (p3_2.length : Int)) then
 (arrays_Or_1 k false (decide (v334 ≤ v335))).bind fun y339 =>
 bif y339 then
 bif decide ((List.length p3_0 + List.length [v337]) * 2 ≤ 140737488355328) then
 bif decide (List.length p3_0 + List.length [v337] ≤ 140737488355328) then
 arrays_merge_Or_1_l0 k (p3_0 ++ [v337]) p3_1 (p3_2.drop (Int.toNat 1))
 else none
 else none
 else
 arrays_merge_Or_1_l0 k p3_0 p3_1 (p3_2.drop (Int.toNat 1))
 else none
 else none
 else
 (arrays_Or_1 k false (decide (v334 ≤ v335))).bind fun y341 =>
 bif y341 then
 bif decide ((List.length p3_0 + List.length [0]) * 2 ≤ 140737488355328) then
 bif decide (List.length p3_0 + List.length [0] ≤ 140737488355328) then
 arrays_merge_Or_1_l0 k (p3_0 ++ [0]) p3_1 p3_2
 else none
 else none
 else
 arrays_merge_Or_1_l0 k p3_0 p3_1 p3_2
 else none
 else none
 else
 (arrays_Or_1 k false false).bind fun y343 =>
 bif y343 then
 bif decide ((List.length p3_0 + List.length [0]) * 2 ≤ 140737488355328) then
 bif decide (List.length p3_0 + List.length [0] ≤ 140737488355328) then
 arrays_merge_Or_1_l0 k (p3_0 ++ [0]) p3_1 p3_2
 else none
 else none
 else
 arrays_merge_Or_1_l0 k p3_0 p3_1 p3_2
 else
 some p3_0
noncomputable def arrays_merge_Or_1 (k : Nat) (a0 : (List Int)) (a1 : (List Int)) : Option ((List Int)) :=
 (arrays_merge_Or_1_l0 k [] a0 a1).bind fun y345 =>
 some y345

noncomputable def arrays_Or (k : Nat) (a0 : (List Int)) (a1 : (List Int)) : Option ((List Int)) :=
 (arrays_merge_Or_1 k a0 a1).bind fun y1 =>
 some y1

noncomputable def runs_Or_1 (k : Nat) (a0 : Bool) (a1 : Bool) : Option (Bool) :=
 bif a0 then
 some true
 else
 some a1

noncomputable def runs_edges_Or_1_l1 : Nat → (List (Int × Int)) → (List Int) → (List Int) → Bool → Int → Int → Int → Int → Option ((List (Int × Int)) × (List Int) × (List Int) × Bool × Int × Int × Int × Int)
 | 0, _, _, _, _, _, _, _, _ => none
 | k + 1, p11_0, p11_1, p11_2, p11_3, p11_4, p11_5, p11_6, p11_7 =>
 bif (decide (p11_5 < (p11_1.length : Int))) then
 bif decide ((0 : Int) ≤ p11_5) then
 bif decide (p11_5 < (p11_1.length : Int)) then
 bif (decide ((p11_1.getD (Int.toNat p11_5) (0 : Int)) ≤ p11_7)) then
 runs_edges_Or_1_l1 k p11_0 p11_1 p11_2 p11_3 p11_4 (IntKind.wrap .i64 (p11_5 + 1)) p11_6 p11_7
 else
 some (p11_0, p11_1, p11_2, p11_3, p11_4, p11_5, p11_6, p11_7)
 else none
 else none
 else
 some (p11_0, p11_1, p11_2, p11_3, p11_4, p11_5, p11_6, p11_7)
noncomputable def runs_edges_Or_1_l2 : Nat → (List (Int × Int)) → (List Int) → (List Int) → Bool → Int → Int → Int → Int → Option ((List (Int × Int)) × (List Int) × (List Int) × Bool × Int × Int × Int × Int)
 | 0, _, _, _, _, _, _, _, _ => none
 | k + 1, p13_0, p13_1, p13_2, p13_3, p13_4, p13_5, p13_6, p13_7 =>
 bif (decide (p13_6 < (p13_2.length : Int))) then
 bif decide ((0 : Int) ≤ p13_6) then
 bif decide (p13_6 < (p13_2.length : Int)) then
 bif (decide ((p13_2.getD (Int.toNat p13_6) (0 : Int)) ≤ p13_7)) then
 runs_edges_Or_1_l2 k p13_0 p13_1 p13_2 p13_3 p13_4 p13_5 (IntKind.wrap .i64 (p13_6 + 1)) p13_7
 else
 some (p13_0, p13_1, p13_2, p13_3, p13_4, p13_5, p13_6, p13_7)
 else none
 else none
 else
 some (p13_0, p13_1, p13_2, p13_3, p13_4, p13_5, p13_6, p13_7)
noncomputable def runs_edges_Or_1_l0 : Nat → (List (Int × Int)) → (List Int) → (List Int) → Bool → Int → Int → Int → Option ((List (Int × Int)))
 | 0, _, _, _, _, _, _, _ => none
 | k + 1, p5_0, p5_1, p5_2, p5_3, p5_4, p5_5, p5_6 =>
 bif (decide (p5_5 < (p5_1.length : Int))) then
 let j55 := fun (x56 : Int) =>
 (let j57 := fun (x58 : Int) =>
 ((runs_edges_Or_1_l1 k p5_0 p5_1 p5_2 p5_3 p5_4 p5_5 p5_6 x58).bind fun y59 =>
 (runs_edges_Or_1_l2 k y59.1 y59.2.1 y59.2.2.1 y59.2.2.2.1 y59.2.2.2.2.1 y59.2.2.2.2.2.1 y59.2.2.2.2.2.2.1 y59.2.2.2.2.2.2.2).bind fun y60 =>
 (runs_Or_1 k (decide ((y60.2.2.2.2.2.1.tmod 2) = 1)) (decide ((y60.2.2.2.2.2.2.1.tmod 2) = 1))).bind fun y65 =>
 bif (y65 == y60.2.2.2.1) then
 runs_edges_Or_1_l0 k y60.1 y60.2.1 y60.2.2.1 y60.2.2.2.1 y60.2.2.2.2.1 y60.2.2.2.2.2.1 y60.2.2.2.2.2.2.1
 else
 bif y60.2.2.2.1 then
 let v67 := IntKind.wrap .u16 y60.2.2.2.2.1
 let v69 := IntKind.wrap .i64 ((IntKind.wrap .i64 (y60.2.2.2.2.2.2.2 - y60.2.2.2.2.1)) - 1)
 bif decide ((List.length y60.1 + List.length [(v67, (IntKind.wrap .u16 v69))]) * 4 ≤ 140737488355328) then
 bif decide (List.length y60.1 + List.length [(v67, (IntKind.wrap .u16 v69))] ≤ 140737488355328) then
 runs_edges_Or_1_l0 k (y60.1 ++ [(v67, (IntKind.wrap .u16 v69))]) y60.2.1 y60.2.2.1 y65 y60.2.2.2.2.2.2.2 y60.2.2.2.2.2.1 y60.2.2.2.2.2.2.1
 else none
 else none
 else
 runs_edges_Or_1_l0 k y60.1 y60.2.1 y60.2.2.1 y65 y60.2.2.2.2.2.2.2 y60.2.2.2.2.2.1 y60.2.2.2.2.2.2.1)
 bif (decide (p5_6 < (p5_2.length : Int))) then
 bif decide ((0 : Int) ≤ p5_6) then
 bif decide (p5_6 < (p5_2.length : Int)) then
 j57 (min x56 (p5_2.getD (Int.toNat p5_6) (0 : Int)))
 else none
 else none
 else
 j57 x56)
 bif (decide (p5_5 < (p5_1.length : Int))) then
 bif decide ((0 : Int) ≤ p5_5) then
 bif decide (p5_5 < (p5_1.length : Int)) then
 j55 (p5_1.getD (Int.toNat p5_5) (0 : Int))
 else none
 else none
 else
 j55 65537
 else
 bif (decide (p5_6 < (p5_2.length : Int))) then
 let j81 := fun (x82 : Int) =>
 (let j83 := fun (x84 : Int) =>
 ((runs_edges_Or_1_l1 k p5_0 p5_1 p5_2 p5_3 p5_4 p5_5 p5_6 x84).bind fun y85 =>
 (runs_edges_Or_1_l2 k y85.1 y85.2.1 y85.2.2.1 y85.2.2.2.1 y85.2.2.2.2.1 y85.2.2.2.2.2.1 y85.2.2.2.2.2.2.1 y85.2.2.2.2.2.2.2).bind fun y86 =>
 (runs_Or_1 k (decide ((y86.2.2.2.2.2.1.tmod 2) = 1)) (decide ((y86.2.2.2.2.2.2.1.tmod 2) = 1))).bind fun y91 =>
 bif (y91 == y86.2.2.2.1) then
 runs_edges_Or_1_l0 k y86.1 y86.2.1 y86.2.2.1 y86.2.2.2.1 y86.2.2.2.2.1 y86.2.2.2.2.2.1 y86.2.2.2.2.2.2.1
 else
 bif y86.2.2.2.1 then
 let v93 := IntKind.wrap .u16 y86.2.2.2.2.1
 let v95 := IntKind.wrap .i64 ((IntKind.wrap .i64 (y86.2.2.2.2.2.2.2 - y86.2.2.2.2.1)) - 1)
 bif decide ((List.length y86.1 + List.length [(v93, (IntKind.wrap .u16 v95))]) * 4 ≤ 140737488355328) then
 bif decide (List.length y86.1 + List.length [(v93, (IntKind.wrap .u16 v95))] ≤ 140737488355328) then
 runs_edges_Or_1_l0 k (y86.1 ++ [(v93, (IntKind.wrap .u16 v95))]) y86.2.1 y86.2.2.1 y91 y86.2.2.2.2.2.2.2 y86.2.2.2.2.2.1 y86.2.2.2.2.2.2.1
 else none
 else none
 else
 runs_edges_Or_1_l0 k y86.1 y86.2.1 y86.2.2.1 y91 y86.2.2.2.2.2.2.2 y86.2.2.2.2.2.1 y86.2.2.2.2.2.2.1)
 bif (decide (p5_6 < (p5_2.length : Int))) then
 bif decide ((0 : Int) ≤ p5_6) then
 bif decide (p5_6 < (p5_2.length : Int)) then
 j83 (min x82 (p5_2.getD (Int.toNat p5_6) (0 : Int)))
 else none
 else none
 else
 j83 x82)
 bif (decide (p5_5 < (p5_1.length : Int))) then
 bif decide ((0 : Int) ≤ p5_5) then
 bif decide (p5_5 < (p5_1.length : Int)) then
 j81 (p5_1.getD (Int.toNat p5_5) (0 : Int))
 else none
 else none
 else
 j81 65537
 else
 some p5_0
noncomputable def runs_edges_Or_1 (k : Nat) (a0 : (List Int)) (a1 : (List Int)) : Option ((List (Int × Int))) :=
 (runs_edges_Or_1_l0 k [] a0 a1 false 0 0 0).bind fun y105 =>
 some y105

noncomputable def runs_Or (k : Nat) (a0 : (List (Int × Int))) (a1 : (List (Int × Int))) : Option ((List (Int × Int))) :=
 (runs_row k a0).bind fun y1 =>
 (runs_row k a1).bind fun y2 =>
 (runs_edges_Or_1 k y1 y2).bind fun y3 =>
 some y3

noncomputable def words_Or_1 (k : Nat) (a0 : Int) (a1 : Int) : Option (Int) :=
 some (bitsI .or .u64 a0 a1)

noncomputable def words_each_Or_1_l0 : Nat → (List Int) → (List Int) → (List Int) → Int → Int → Option ((List Int))
 | 0, _, _, _, _, _ => none
 | k + 1, p4_0, p4_1, p4_2, p4_3, p4_4 =>
 bif (decide (p4_4 < p4_3)) then
 bif decide ((0 : Int) ≤ p4_4) then
 bif decide (p4_4 < (p4_1.length : Int)) then
 bif decide ((0 : Int) ≤ p4_4) then
 bif decide (p4_4 < (p4_2.length : Int)) then
 (words_Or_1 k (p4_1.getD (Int.toNat p4_4) (0 : Int)) (p4_2.getD (Int.toNat p4_4) (0 : Int))).bind fun y13 =>
 bif decide ((0 : Int) ≤ p4_4) then
 bif decide (p4_4 < (p4_0.length : Int)) then
 words_each_Or_1_l0 k (p4_0.set (Int.toNat p4_4) y13) p4_1 p4_2 p4_3 (IntKind.wrap .i64 (p4_4 + 1))
 else none
 else none
 else none
 else none
 else none
 else none
 else
 some p4_0
noncomputable def words_each_Or_1 (k : Nat) (a0 : (List Int)) (a1 : (List Int)) : Option ((List Int)) :=
 bif decide (1024 ≤ 1024) then
 (words_each_Or_1_l0 k (List.replicate (Int.toNat 1024) (0 : Int)) a0 a1 (min (min (a0.length : Int) (a1.length : Int)) 1024) 0).bind fun y16 =>
 some y16
 else none

noncomputable def words_Or (k : Nat) (a0 : (List Int)) (a1 : (List Int)) : Option ((List Int)) :=
 (words_each_Or_1 k a0 a1).bind fun y1 =>
 some y1

noncomputable def container_pair_do (k : Nat) (a0 : Cn) (a1 : Cn) : Option (Cn) :=
 let j1 := fun (x2 : Bool) =>
 (bif x2 then
 (arrays_Or k a0.2.1 a1.2.1).bind fun y3 =>
 (container_Container_Canonical k (1, (y3, ([], [])))).bind fun y4 =>
 some y4
 else
 bif (decide (a0.1 = 3)) then
 bif (decide (a1.1 = 3)) then
 (runs_Or k a0.2.2.2 a1.2.2.2).bind fun y7 =>
 (container_Container_Canonical k (3, ([], ([], y7)))).bind fun y8 =>
 some y8
 else
 (container_Container_Words k a0).bind fun y9 =>
 (container_Container_Words k a1).bind fun y10 =>
 (words_Or k y9 y10).bind fun y11 =>
 (container_Container_Canonical k (2, ([], (y11, [])))).bind fun y12 =>
 some y12
 else
 (container_Container_Words k a0).bind fun y13 =>
 (container_Container_Words k a1).bind fun y14 =>
 (words_Or k y13 y14).bind fun y15 =>
 (container_Container_Canonical k (2, ([], (y15, [])))).bind fun y16 =>
 some y16)
 (container_Container_Kind k a0).bind fun y17 =>
 bif (decide (y17 = 1)) then
 (container_Container_Kind k a1).bind fun y19 =>
 j1 (decide (y19 = 1))
 else
 j1 false

noncomputable def container_Container_Or (k : Nat) (a0 : Cn) (a1 : Cn) : Option (Cn) :=
 (container_pair_do k a0 a1).bind fun y1 =>
 some y1

noncomputable def slices_Insert_uint16 (k : Nat) (a0 : (List Int)) (a1 : Int) (a2 : (List Int)) : Option ((List Int)) :=
 bif decide ((0 : Int) ≤ a1) then
 bif decide (a1 ≤ (List.length a0 : Int)) then
 bif (decide ((a2.length : Int) = 0)) then
 some a0
 else
 bif (decide (a1 = (a0.length : Int))) then
 bif decide ((List.length a0 + List.length a2) * 2 ≤ 140737488355328) then
 bif decide (List.length a0 + List.length a2 ≤ 140737488355328) then
 some (a0 ++ a2)
 else none
 else none
 else
 none
 else none
 else none

noncomputable def slices_Insert_Container (k : Nat) (a0 : (List Cn)) (a1 : Int) (a2 : (List Cn)) : Option ((List Cn)) :=
 bif decide ((0 : Int) ≤ a1) then
 bif decide (a1 ≤ (List.length a0 : Int)) then
 bif (decide ((a2.length : Int) = 0)) then
 some a0
 else
 bif (decide (a1 = (a0.length : Int))) then
 bif decide ((List.length a0 + List.length a2) * 80 ≤ 140737488355328) then
 bif decide (List.length a0 + List.length a2 ≤ 140737488355328) then
 some (a0 ++ a2)
 else none
 else none
 else
 none
 else none
 else none

noncomputable def roaring_Set_put (k : Nat) (a0 : (List Int)) (a1 : (List Cn)) (a2 : Int) (a3 : Cn) : Option ((List Int) × (List Cn)) :=
 (roaring_Set_find k a0 a1 a2).bind fun y1 =>
 bif y1.2.2.2 then
 bif decide ((0 : Int) ≤ y1.2.2.1) then
 bif decide (y1.2.2.1 < (y1.2.1.length : Int)) then
 some (y1.1, (y1.2.1.set (Int.toNat y1.2.2.1) a3))
 else none
 else none
 else
 (slices_Insert_uint16 k y1.1 y1.2.2.1 [a2]).bind fun y3 =>
 (slices_Insert_Container k y1.2.1 y1.2.2.1 [a3]).bind fun y4 =>
 some (y3, y4)

noncomputable def roaring_Set_AddRange_l0 : Nat → (List Int) → (List Cn) → Int → Int → Option ((List Int) × (List Cn))
 | 0, _, _, _, _ => none
 | k + 1, p2_0, p2_1, p2_2, p2_3 =>
 bif (decide (p2_2 < p2_3)) then
 let v21 := IntKind.wrap .u64 ((shrI .u64 p2_2 16) + 1)
 (roaring_Set_get k p2_0 p2_1 (IntKind.wrap .u16 (shrI .u64 p2_2 16))).bind fun y28 =>
 (container_Container_Flip k (0, ([], ([], []))) (IntKind.wrap .i64 (IntKind.wrap .u64 (p2_2 - (shlI .u64 (shrI .u64 p2_2 16) 16)))) (IntKind.wrap .i64 (IntKind.wrap .u64 ((min p2_3 (shlI .u64 v21 16)) - (shlI .u64 (shrI .u64 p2_2 16) 16))))).bind fun y33 =>
 (container_Container_Or k y28.2.2 y33).bind fun y34 =>
 (roaring_Set_put k y28.1 y28.2.1 (IntKind.wrap .u16 (shrI .u64 p2_2 16)) y34).bind fun y35 =>
 roaring_Set_AddRange_l0 k y35.1 y35.2 (min p2_3 (shlI .u64 v21 16)) p2_3
 else
 some (p2_0, p2_1)
noncomputable def roaring_Set_AddRange (k : Nat) (a0 : (List Int)) (a1 : (List Cn)) (a2 : Int) (a3 : Int) : Option ((List Int) × (List Cn)) :=
 (roaring_Set_AddRange_l0 k a0 a1 a2 (min a3 4294967296)).bind fun y36 =>
 some (y36.1, y36.2)

noncomputable def slices_Clone_uint16_w (k : Nat) (a0 : (List Int)) : Option ((List Int) × (List Int)) :=
 bif a0.isEmpty then
 (bothEq
 (some (a0, []))
 (bif decide ((List.length ([] : List Int) + List.length a0) * 2 ≤ 140737488355328) then
 bif decide (List.length ([] : List Int) + List.length a0 ≤ 140737488355328) then
 some (a0, (([] : List Int) ++ a0))
 else none
 else none))
 else
 bif decide ((List.length ([] : List Int) + List.length a0) * 2 ≤ 140737488355328) then
 bif decide (List.length ([] : List Int) + List.length a0 ≤ 140737488355328) then
 some (a0, (([] : List Int) ++ a0))
 else none
 else none

noncomputable def roaring_Set_Keys (k : Nat) (a0 : (List Int)) (a1 : (List Cn)) : Option ((List Int) × (List Cn) × (List Int)) :=
 (slices_Clone_uint16_w k a0).bind fun y1 =>
 some (y1.1, a1, y1.2)

noncomputable def slices_Clone_uint32 (k : Nat) (a0 : (List Int)) : Option ((List Int)) :=
 match a0 with
 | [] => some []
 | x :: l =>
 bif decide ((List.length ([] : List Int) + List.length (x :: l)) * 4 ≤ 140737488355328) then
 bif decide (List.length ([] : List Int) + List.length (x :: l) ≤ 140737488355328) then
 some (([] : List Int) ++ (x :: l))
 else none
 else none

noncomputable def math_bits_Len64 (k : Nat) (a0 : Int) : Option (Int) :=
 let j1 := fun (x2 : Int) (x3 : Int) =>
 (let j4 := fun (x5 : Int) (x6 : Int) =>
 (bif (decide ((256 : Int) ≤ x5)) then
 bif decide ((0 : Int) ≤ (IntKind.wrap .u8 (shrI .u64 x5 8))) then
 bif Nat.blt (Int.toNat (IntKind.wrap .u8 (shrI .u64 x5 8))) (ByteArray.size str0) then
 some (IntKind.wrap .i64 ((IntKind.wrap .i64 (x6 + 8)) + (IntKind.wrap .i64 (strAt str0 (Int.toNat (IntKind.wrap .u8 (shrI .u64 x5 8)))))))
 else none
 else none
 else
 bif decide ((0 : Int) ≤ (IntKind.wrap .u8 x5)) then
 bif Nat.blt (Int.toNat (IntKind.wrap .u8 x5)) (ByteArray.size str0) then
 some (IntKind.wrap .i64 (x6 + (IntKind.wrap .i64 (strAt str0 (Int.toNat (IntKind.wrap .u8 x5))))))
 else none
 else none)
 bif (decide ((65536 : Int) ≤ x2)) then
 j4 (shrI .u64 x2 16) (IntKind.wrap .i64 (x3 + 16))
 else
 j4 x2 x3)
 bif (decide ((4294967296 : Int) ≤ a0)) then
 j1 (shrI .u64 a0 32) 32
 else
 j1 a0 0

noncomputable def math_bits_Len (k : Nat) (a0 : Int) : Option (Int) :=
 (math_bits_Len64 k a0).bind fun y1 =>
 some y1

noncomputable def cmp_isNaN_uint32 (k : Nat) (a0 : Int) : Option (Bool) :=
 some (!(decide (a0 = a0)))

noncomputable def cmp_Less_uint32 (k : Nat) (a0 : Int) (a1 : Int) : Option (Bool) :=
 (cmp_isNaN_uint32 k a0).bind fun y1 =>
 bif y1 then
 (cmp_isNaN_uint32 k a1).bind fun y2 =>
 bif !y2 then
 some true
 else
 some (decide (a0 < a1))
 else
 some (decide (a0 < a1))

noncomputable def slices_insertionSortOrdered_uint32_l1 : Nat → (List Int) → Int → Int → Int → Int → Option ((List Int) × Int × Int × Int)
 | 0, _, _, _, _, _ => none
 | k + 1, p5_0, p5_1, p5_2, p5_3, p5_4 =>
 bif (decide (p5_1 < p5_4)) then
 bif decide ((0 : Int) ≤ p5_4) then
 bif decide (p5_4 < (p5_0.length : Int)) then
 let v17 := IntKind.wrap .i64 (p5_4 - 1)
 bif decide ((0 : Int) ≤ v17) then
 bif decide (v17 < (p5_0.length : Int)) then
 (cmp_Less_uint32 k (p5_0.getD (Int.toNat p5_4) (0 : Int)) (p5_0.getD (Int.toNat v17) (0 : Int))).bind fun y19 =>
 bif y19 then
 let v20 := IntKind.wrap .i64 (p5_4 - 1)
 let v21 := IntKind.wrap .i64 (p5_4 - 1)
 bif decide ((0 : Int) ≤ v21) then
 bif decide (v21 < (p5_0.length : Int)) then
 bif decide ((0 : Int) ≤ p5_4) then
 bif decide (p5_4 < (p5_0.length : Int)) then
 bif decide ((0 : Int) ≤ p5_4) then
 bif decide (p5_4 < (p5_0.length : Int)) then
 let v24 := p5_0.set (Int.toNat p5_4) (p5_0.getD (Int.toNat v21) (0 : Int))
 bif decide ((0 : Int) ≤ v20) then
 bif decide (v20 < (v24.length : Int)) then
 slices_insertionSortOrdered_uint32_l1 k (v24.set (Int.toNat v20) (p5_0.getD (Int.toNat p5_4) (0 : Int))) p5_1 p5_2 p5_3 (IntKind.wrap .i64 (p5_4 - 1))
 else none
 else none
 else none
 else none
 else none
 else none
 else none
 else none
 else
 some (p5_0, p5_1, p5_2, p5_3)
 else none
 else none
 else none
 else none
 else
 some (p5_0, p5_1, p5_2, p5_3)
noncomputable def slices_insertionSortOrdered_uint32_l0 : Nat → (List Int) → Int → Int → Int → Option ((List Int))
 | 0, _, _, _, _ => none
 | k + 1, p2_0, p2_1, p2_2, p2_3 =>
 bif (decide (p2_3 < p2_2)) then
 (slices_insertionSortOrdered_uint32_l1 k p2_0 p2_1 p2_2 p2_3 p2_3).bind fun y30 =>
 slices_insertionSortOrdered_uint32_l0 k y30.1 y30.2.1 y30.2.2.1 (IntKind.wrap .i64 (y30.2.2.2 + 1))
 else
 some p2_0
noncomputable def slices_insertionSortOrdered_uint32 (k : Nat) (a0 : (List Int)) (a1 : Int) (a2 : Int) : Option ((List Int)) :=
 (slices_insertionSortOrdered_uint32_l0 k a0 a1 a2 (IntKind.wrap .i64 (a1 + 1))).bind fun y32 =>
 some y32

noncomputable def slices_pdqsortOrdered_uint32_l0 : Nat → (List Int) → Int → Int → Int → Bool → Bool → Option ((List Int))
 | 0, _, _, _, _, _, _ => none
 | k + 1, p3_0, p3_1, p3_2, p3_3, p3_4, p3_5 =>
 bif (decide ((IntKind.wrap .i64 (p3_2 - p3_1)) ≤ 12)) then
 (slices_insertionSortOrdered_uint32 k p3_0 p3_1 p3_2).bind fun y7 =>
 some y7
 else
 bif (decide (p3_3 = 0)) then
 none
 else
 bif !p3_4 then
 none
 else
 none
noncomputable def slices_pdqsortOrdered_uint32 (k : Nat) (a0 : (List Int)) (a1 : Int) (a2 : Int) (a3 : Int) : Option ((List Int)) :=
 (slices_pdqsortOrdered_uint32_l0 k a0 a1 a2 a3 true true).bind fun y9 =>
 some y9

noncomputable def slices_Sort_uint32 (k : Nat) (a0 : (List Int)) : Option ((List Int)) :=
 (math_bits_Len k (IntKind.wrap .u64 (a0.length : Int))).bind fun y3 =>
 (slices_pdqsortOrdered_uint32 k a0 0 (a0.length : Int) y3).bind fun y4 =>
 some y4

noncomputable def arrays_May_l0 : Nat → (List Int) → Int → Option ((Bool) ⊕ (Unit))
 | 0, _, _ => none
 | k + 1, p3_0, p3_1 =>
 bif (decide (p3_1 < (p3_0.length : Int))) then
 let v10 := IntKind.wrap .i64 (p3_1 - 1)
 bif decide ((0 : Int) ≤ v10) then
 bif decide (v10 < (p3_0.length : Int)) then
 bif decide ((0 : Int) ≤ p3_1) then
 bif decide (p3_1 < (p3_0.length : Int)) then
 bif (decide ((p3_0.getD (Int.toNat p3_1) (0 : Int)) ≤ (p3_0.getD (Int.toNat v10) (0 : Int)))) then
 some (.inl false)
 else
 arrays_May_l0 k p3_0 (IntKind.wrap .i64 (p3_1 + 1))
 else none
 else none
 else none
 else none
 else
 some (.inr ())
noncomputable def arrays_May (k : Nat) (a0 : (List Int)) : Option (Bool) :=
 (arrays_May_l0 k a0 1).bind fun y15 =>
 (match y15 with
 | .inl y16 =>
 some y16
 | .inr y17 =>
 some true)

noncomputable def container_OfArray (k : Nat) (a0 : (List Int)) : Option (Cn × Bool) :=
 (arrays_May k a0).bind fun y1 =>
 bif !y1 then
 some ((0, ([], ([], []))), false)
 else
 (slices_Clone_uint16 k a0).bind fun y2 =>
 some ((1, (y2, ([], []))), true)

noncomputable def roaring_Set_push (k : Nat) (a0 : (List Int)) (a1 : (List Cn)) (a2 : Int) (a3 : (List Int)) : Option ((List Int) × (List Cn)) :=
 (container_OfArray k a3).bind fun y1 =>
 bif decide ((List.length a0 + List.length [a2]) * 2 ≤ 140737488355328) then
 bif decide (List.length a0 + List.length [a2] ≤ 140737488355328) then
 (container_Container_Canonical k y1.1).bind fun y3 =>
 bif decide ((List.length a1 + List.length [y3]) * 80 ≤ 140737488355328) then
 bif decide (List.length a1 + List.length [y3] ≤ 140737488355328) then
 some ((a0 ++ [a2]), (a1 ++ [y3]))
 else none
 else none
 else none
 else none

noncomputable def roaring_Of_l0 : Nat → (List Int) → (List Int) → (List Cn) → (List Int) → Int → Int → Option ((List Int) × (List Int) × (List Cn) × (List Int))
 | 0, _, _, _, _, _, _ => none
 | k + 1, p7_0, p7_1, p7_2, p7_3, p7_4, p7_5 =>
 bif (decide (p7_5 < p7_4)) then
 bif decide ((0 : Int) ≤ p7_5) then
 bif decide (p7_5 < (p7_0.length : Int)) then
 let v55 := p7_0.getD (Int.toNat p7_5) (0 : Int)
 bif (decide ((0 : Int) < p7_5)) then
 let v57 := IntKind.wrap .i64 (p7_5 - 1)
 bif decide ((0 : Int) ≤ v57) then
 bif decide (v57 < (p7_0.length : Int)) then
 bif (decide ((p7_0.getD (Int.toNat v57) (0 : Int)) = v55)) then
 roaring_Of_l0 k p7_0 p7_1 p7_2 p7_3 p7_4 (IntKind.wrap .i64 (p7_5 + 1))
 else
 bif (decide ((0 : Int) < (p7_3.length : Int))) then
 let v63 := IntKind.wrap .i64 (p7_5 - 1)
 bif decide ((0 : Int) ≤ v63) then
 bif decide (v63 < (p7_0.length : Int)) then
 bif (!(decide ((shrI .u32 (p7_0.getD (Int.toNat v63) (0 : Int)) 16) = (shrI .u32 v55 16)))) then
 let v68 := IntKind.wrap .i64 (p7_5 - 1)
 bif decide ((0 : Int) ≤ v68) then
 bif decide (v68 < (p7_0.length : Int)) then
 (roaring_Set_push k p7_1 p7_2 (IntKind.wrap .u16 (shrI .u32 (p7_0.getD (Int.toNat v68) (0 : Int)) 16)) p7_3).bind fun y72 =>
 bif decide ((List.length ([] : List Int) + List.length [(IntKind.wrap .u16 v55)]) * 2 ≤ 140737488355328) then
 bif decide (List.length ([] : List Int) + List.length [(IntKind.wrap .u16 v55)] ≤ 140737488355328) then
 roaring_Of_l0 k p7_0 y72.1 y72.2 (([] : List Int) ++ [(IntKind.wrap .u16 v55)]) p7_4 (IntKind.wrap .i64 (p7_5 + 1))
 else none
 else none
 else none
 else none
 else
 bif decide ((List.length p7_3 + List.length [(IntKind.wrap .u16 v55)]) * 2 ≤ 140737488355328) then
 bif decide (List.length p7_3 + List.length [(IntKind.wrap .u16 v55)] ≤ 140737488355328) then
 roaring_Of_l0 k p7_0 p7_1 p7_2 (p7_3 ++ [(IntKind.wrap .u16 v55)]) p7_4 (IntKind.wrap .i64 (p7_5 + 1))
 else none
 else none
 else none
 else none
 else
 bif decide ((List.length p7_3 + List.length [(IntKind.wrap .u16 v55)]) * 2 ≤ 140737488355328) then
 bif decide (List.length p7_3 + List.length [(IntKind.wrap .u16 v55)] ≤ 140737488355328) then
 roaring_Of_l0 k p7_0 p7_1 p7_2 (p7_3 ++ [(IntKind.wrap .u16 v55)]) p7_4 (IntKind.wrap .i64 (p7_5 + 1))
 else none
 else none
 else none
 else none
 else
 bif (decide ((0 : Int) < (p7_3.length : Int))) then
 let v84 := IntKind.wrap .i64 (p7_5 - 1)
 bif decide ((0 : Int) ≤ v84) then
 bif decide (v84 < (p7_0.length : Int)) then
 bif (!(decide ((shrI .u32 (p7_0.getD (Int.toNat v84) (0 : Int)) 16) = (shrI .u32 v55 16)))) then
 let v89 := IntKind.wrap .i64 (p7_5 - 1)
 bif decide ((0 : Int) ≤ v89) then
 bif decide (v89 < (p7_0.length : Int)) then
 (roaring_Set_push k p7_1 p7_2 (IntKind.wrap .u16 (shrI .u32 (p7_0.getD (Int.toNat v89) (0 : Int)) 16)) p7_3).bind fun y93 =>
 bif decide ((List.length ([] : List Int) + List.length [(IntKind.wrap .u16 v55)]) * 2 ≤ 140737488355328) then
 bif decide (List.length ([] : List Int) + List.length [(IntKind.wrap .u16 v55)] ≤ 140737488355328) then
 roaring_Of_l0 k p7_0 y93.1 y93.2 (([] : List Int) ++ [(IntKind.wrap .u16 v55)]) p7_4 (IntKind.wrap .i64 (p7_5 + 1))
 else none
 else none
 else none
 else none
 else
 bif decide ((List.length p7_3 + List.length [(IntKind.wrap .u16 v55)]) * 2 ≤ 140737488355328) then
 bif decide (List.length p7_3 + List.length [(IntKind.wrap .u16 v55)] ≤ 140737488355328) then
 roaring_Of_l0 k p7_0 p7_1 p7_2 (p7_3 ++ [(IntKind.wrap .u16 v55)]) p7_4 (IntKind.wrap .i64 (p7_5 + 1))
 else none
 else none
 else none
 else none
 else
 bif decide ((List.length p7_3 + List.length [(IntKind.wrap .u16 v55)]) * 2 ≤ 140737488355328) then
 bif decide (List.length p7_3 + List.length [(IntKind.wrap .u16 v55)] ≤ 140737488355328) then
 roaring_Of_l0 k p7_0 p7_1 p7_2 (p7_3 ++ [(IntKind.wrap .u16 v55)]) p7_4 (IntKind.wrap .i64 (p7_5 + 1))
 else none
 else none
 else none
 else none
 else
 some (p7_0, p7_1, p7_2, p7_3)
noncomputable def roaring_Of (k : Nat) (a0 : (List Int)) : Option ((List Int) × (List Cn)) :=
 (slices_Clone_uint32 k a0).bind fun y1 =>
 (slices_Sort_uint32 k y1).bind fun y2 =>
 (roaring_New k).bind fun y3 =>
 (roaring_Of_l0 k y2 y3.1 y3.2 [] (y2.length : Int) 0).bind fun y5 =>
 bif (decide ((0 : Int) < (y5.2.2.2.length : Int))) then
 let v9 := IntKind.wrap .i64 ((y5.1.length : Int) - 1)
 bif decide ((0 : Int) ≤ v9) then
 bif decide (v9 < (y5.1.length : Int)) then
 (roaring_Set_push k y5.2.1 y5.2.2.1 (IntKind.wrap .u16 (shrI .u32 (y5.1.getD (Int.toNat v9) (0 : Int)) 16)) y5.2.2.2).bind fun y13 =>
 some (y13.1, y13.2)
 else none
 else none
 else
 some (y5.2.1, y5.2.2.1)

noncomputable def roaring_Spans_l0 : Nat → (List Int) → (List Cn) → (List (Int × Int)) → Int → Int → Option ((List Int) × (List Cn))
 | 0, _, _, _, _, _ => none
 | k + 1, p4_0, p4_1, p4_2, p4_3, p4_4 =>
 bif (decide (p4_4 < p4_3)) then
 bif decide ((0 : Int) ≤ p4_4) then
 bif decide (p4_4 < (p4_2.length : Int)) then
 let v8 := p4_2.getD (Int.toNat p4_4) ((0 : Int), (0 : Int))
 (roaring_Set_AddRange k p4_0 p4_1 v8.1 v8.2).bind fun y9 =>
 roaring_Spans_l0 k y9.1 y9.2 p4_2 p4_3 (IntKind.wrap .i64 (p4_4 + 1))
 else none
 else none
 else
 some (p4_0, p4_1)
noncomputable def roaring_Spans (k : Nat) (a0 : (List (Int × Int))) : Option ((List Int) × (List Cn)) :=
 (roaring_New k).bind fun y1 =>
 (roaring_Spans_l0 k y1.1 y1.2 a0 (a0.length : Int) 0).bind fun y11 =>
 some (y11.1, y11.2)

noncomputable def slices_Grow_uint16 (k : Nat) (a0 : Int) : Option ((List Int)) :=
 bif (decide (a0 < 0)) then
 none
 else
 let v3 := IntKind.wrap .i64 (a0 - (IntKind.wrap .i64 (0 - 0)))
 bif (decide ((0 : Int) < v3)) then
 bif decide ((0 : Int) < v3) then
 bif decide ((v3 : Int) * 2 ≤ 140737488355328) then
 bif decide (v3 ≤ 140737488355328) then
 bif decide ((0 : Int) ≤ (List.length (List.replicate (Int.toNat v3) (0 : Int)) : Int)) then
 bif decide (0 < List.length (List.replicate (Int.toNat v3) (0 : Int))) then
 some ((List.replicate (Int.toNat v3) (0 : Int)).take (Int.toNat 0))
 else none
 else none
 else none
 else none
 else none
 else
 some []

noncomputable def slices_Concat_uint16_l0 : Nat → (List (List Int)) → Int → (List (List Int)) → Int → Int → Option ((List (List Int)) × Int)
 | 0, _, _, _, _, _ => none
 | k + 1, p4_0, p4_1, p4_2, p4_3, p4_4 =>
 bif (decide (p4_4 < p4_3)) then
 bif decide ((0 : Int) ≤ p4_4) then
 bif decide (p4_4 < (p4_2.length : Int)) then
 let v11 := IntKind.wrap .i64 (p4_1 + ((p4_2.getD (Int.toNat p4_4) []).length : Int))
 bif (decide (v11 < 0)) then
 none
 else
 slices_Concat_uint16_l0 k p4_0 v11 p4_2 p4_3 (IntKind.wrap .i64 (p4_4 + 1))
 else none
 else none
 else
 some (p4_0, p4_1)
noncomputable def slices_Concat_uint16_l1 : Nat → (List Int) → (List (List Int)) → Int → Int → Option ((List Int))
 | 0, _, _, _, _ => none
 | k + 1, p12_0, p12_1, p12_2, p12_3 =>
 bif (decide (p12_3 < p12_2)) then
 bif decide ((0 : Int) ≤ p12_3) then
 bif decide (p12_3 < (p12_1.length : Int)) then
 let v10 := p12_1.getD (Int.toNat p12_3) []
 bif decide ((List.length p12_0 + List.length v10) * 2 ≤ 140737488355328) then
 bif decide (List.length p12_0 + List.length v10 ≤ 140737488355328) then
 slices_Concat_uint16_l1 k (p12_0 ++ v10) p12_1 p12_2 (IntKind.wrap .i64 (p12_3 + 1))
 else none
 else none
 else none
 else none
 else
 some p12_0
noncomputable def slices_Concat_uint16 (k : Nat) (a0 : (List (List Int))) : Option ((List Int)) :=
 (slices_Concat_uint16_l0 k a0 0 a0 (a0.length : Int) 0).bind fun y2 =>
 (slices_Grow_uint16 k y2.2).bind fun y3 =>
 (slices_Concat_uint16_l1 k y3 y2.1 (y2.1.length : Int) 0).bind fun y13 =>
 some y13

noncomputable def slices_insertionSortOrdered_uint16_l1 : Nat → (List Int) → Int → Int → Int → Int → Option ((List Int) × Int × Int × Int)
 | 0, _, _, _, _, _ => none
 | k + 1, p5_0, p5_1, p5_2, p5_3, p5_4 =>
 bif (decide (p5_1 < p5_4)) then
 bif decide ((0 : Int) ≤ p5_4) then
 bif decide (p5_4 < (p5_0.length : Int)) then
 let v17 := IntKind.wrap .i64 (p5_4 - 1)
 bif decide ((0 : Int) ≤ v17) then
 bif decide (v17 < (p5_0.length : Int)) then
 (cmp_Less_uint16 k (p5_0.getD (Int.toNat p5_4) (0 : Int)) (p5_0.getD (Int.toNat v17) (0 : Int))).bind fun y19 =>
 bif y19 then
 let v20 := IntKind.wrap .i64 (p5_4 - 1)
 let v21 := IntKind.wrap .i64 (p5_4 - 1)
 bif decide ((0 : Int) ≤ v21) then
 bif decide (v21 < (p5_0.length : Int)) then
 bif decide ((0 : Int) ≤ p5_4) then
 bif decide (p5_4 < (p5_0.length : Int)) then
 bif decide ((0 : Int) ≤ p5_4) then
 bif decide (p5_4 < (p5_0.length : Int)) then
 let v24 := p5_0.set (Int.toNat p5_4) (p5_0.getD (Int.toNat v21) (0 : Int))
 bif decide ((0 : Int) ≤ v20) then
 bif decide (v20 < (v24.length : Int)) then
 slices_insertionSortOrdered_uint16_l1 k (v24.set (Int.toNat v20) (p5_0.getD (Int.toNat p5_4) (0 : Int))) p5_1 p5_2 p5_3 (IntKind.wrap .i64 (p5_4 - 1))
 else none
 else none
 else none
 else none
 else none
 else none
 else none
 else none
 else
 some (p5_0, p5_1, p5_2, p5_3)
 else none
 else none
 else none
 else none
 else
 some (p5_0, p5_1, p5_2, p5_3)
noncomputable def slices_insertionSortOrdered_uint16_l0 : Nat → (List Int) → Int → Int → Int → Option ((List Int))
 | 0, _, _, _, _ => none
 | k + 1, p2_0, p2_1, p2_2, p2_3 =>
 bif (decide (p2_3 < p2_2)) then
 (slices_insertionSortOrdered_uint16_l1 k p2_0 p2_1 p2_2 p2_3 p2_3).bind fun y30 =>
 slices_insertionSortOrdered_uint16_l0 k y30.1 y30.2.1 y30.2.2.1 (IntKind.wrap .i64 (y30.2.2.2 + 1))
 else
 some p2_0
noncomputable def slices_insertionSortOrdered_uint16 (k : Nat) (a0 : (List Int)) (a1 : Int) (a2 : Int) : Option ((List Int)) :=
 (slices_insertionSortOrdered_uint16_l0 k a0 a1 a2 (IntKind.wrap .i64 (a1 + 1))).bind fun y32 =>
 some y32

noncomputable def slices_pdqsortOrdered_uint16_l0 : Nat → (List Int) → Int → Int → Int → Bool → Bool → Option ((List Int))
 | 0, _, _, _, _, _, _ => none
 | k + 1, p3_0, p3_1, p3_2, p3_3, p3_4, p3_5 =>
 bif (decide ((IntKind.wrap .i64 (p3_2 - p3_1)) ≤ 12)) then
 (slices_insertionSortOrdered_uint16 k p3_0 p3_1 p3_2).bind fun y7 =>
 some y7
 else
 bif (decide (p3_3 = 0)) then
 none
 else
 bif !p3_4 then
 none
 else
 none
noncomputable def slices_pdqsortOrdered_uint16 (k : Nat) (a0 : (List Int)) (a1 : Int) (a2 : Int) (a3 : Int) : Option ((List Int)) :=
 (slices_pdqsortOrdered_uint16_l0 k a0 a1 a2 a3 true true).bind fun y9 =>
 some y9

noncomputable def slices_Sort_uint16 (k : Nat) (a0 : (List Int)) : Option ((List Int)) :=
 (math_bits_Len k (IntKind.wrap .u64 (a0.length : Int))).bind fun y3 =>
 (slices_pdqsortOrdered_uint16 k a0 0 (a0.length : Int) y3).bind fun y4 =>
 some y4

noncomputable def slices_Compact_uint16_l1 : Nat → (List Int) → Int → Int → Int → Option ((List Int) × Int)
 | 0, _, _, _, _ => none
 | k + 1, p10_0, p10_1, p10_2, p10_3 =>
 bif (decide (p10_3 < ((List.length p10_0 - (Int.toNat p10_2) : Nat) : Int))) then
 bif decide ((0 : Int) ≤ p10_3) then
 bif Nat.blt ((Int.toNat p10_2) + (Int.toNat p10_3)) (List.length p10_0) then
 let v23 := IntKind.wrap .i64 (p10_3 - 1)
 bif decide ((0 : Int) ≤ v23) then
 bif Nat.blt ((Int.toNat p10_2) + (Int.toNat v23)) (List.length p10_0) then
 bif (!(decide ((p10_0.getD ((Int.toNat p10_2) + (Int.toNat p10_3)) (0 : Int)) = (p10_0.getD ((Int.toNat p10_2) + (Int.toNat v23)) (0 : Int))))) then
 bif decide ((0 : Int) ≤ p10_3) then
 bif Nat.blt ((Int.toNat p10_2) + (Int.toNat p10_3)) (List.length p10_0) then
 bif decide ((0 : Int) ≤ p10_1) then
 bif decide (p10_1 < (p10_0.length : Int)) then
 slices_Compact_uint16_l1 k (p10_0.set (Int.toNat p10_1) (p10_0.getD ((Int.toNat p10_2) + (Int.toNat p10_3)) (0 : Int))) (IntKind.wrap .i64 (p10_1 + 1)) ((Int.toNat p10_2 : Nat) : Int) (IntKind.wrap .i64 (p10_3 + 1))
 else none
 else none
 else none
 else none
 else
 slices_Compact_uint16_l1 k p10_0 p10_1 ((Int.toNat p10_2 : Nat) : Int) (IntKind.wrap .i64 (p10_3 + 1))
 else none
 else none
 else none
 else none
 else
 some (p10_0, p10_1)
noncomputable def slices_Compact_uint16_l0 : Nat → (List Int) → Int → Option (((List Int)) ⊕ ((List Int)))
 | 0, _, _ => none
 | k + 1, p5_0, p5_1 =>
 bif (decide (p5_1 < (p5_0.length : Int))) then
 bif decide ((0 : Int) ≤ p5_1) then
 bif decide (p5_1 < (p5_0.length : Int)) then
 let v16 := IntKind.wrap .i64 (p5_1 - 1)
 bif decide ((0 : Int) ≤ v16) then
 bif decide (v16 < (p5_0.length : Int)) then
 bif (decide ((p5_0.getD (Int.toNat p5_1) (0 : Int)) = (p5_0.getD (Int.toNat v16) (0 : Int)))) then
 bif decide ((0 : Int) ≤ p5_1) then
 bif decide (p5_1 ≤ (List.length p5_0 : Int)) then
 (slices_Compact_uint16_l1 k p5_0 p5_1 ((Int.toNat p5_1 : Nat) : Int) 1).bind fun y19 =>
 bif decide ((0 : Int) ≤ y19.2) then
 bif decide (y19.2 ≤ (List.length y19.1 : Int)) then
 bif Nat.blt (Int.toNat y19.2) (List.length y19.1) then
 let v20 := List.take (Int.toNat y19.2) y19.1 ++ List.replicate (List.length y19.1 - (Int.toNat y19.2)) (0 : Int)
 bif decide ((0 : Int) ≤ y19.2) then
 bif decide (y19.2 ≤ (List.length v20 : Int)) then
 bif decide (0 < List.length v20) then
 some (.inl (v20.take (Int.toNat y19.2)))
 else none
 else none
 else none
 else none
 else none
 else none
 else none
 else none
 else
 slices_Compact_uint16_l0 k p5_0 (IntKind.wrap .i64 (p5_1 + 1))
 else none
 else none
 else none
 else none
 else
 some (.inr p5_0)
noncomputable def slices_Compact_uint16 (k : Nat) (a0 : (List Int)) : Option ((List Int)) :=
 bif (decide ((a0.length : Int) < 2)) then
 some a0
 else
 (slices_Compact_uint16_l0 k a0 1).bind fun y23 =>
 (match y23 with
 | .inl y24 =>
 some y24
 | .inr y25 =>
 some y25)

noncomputable def slices_BinarySearch_uint16_l0 : Nat → (List Int) → Int → Int → Int → Int → Option ((List Int) × Int × Int × Int)
 | 0, _, _, _, _, _ => none
 | k + 1, p4_0, p4_1, p4_2, p4_3, p4_4 =>
 bif (decide (p4_3 < p4_4)) then
 let v11 := IntKind.wrap .i64 (p4_3 + p4_4)
 bif decide ((0 : Int) ≤ (IntKind.wrap .i64 (shrI .u64 (IntKind.wrap .u64 v11) 1))) then
 bif decide ((IntKind.wrap .i64 (shrI .u64 (IntKind.wrap .u64 v11) 1)) < (p4_0.length : Int)) then
 (cmp_Less_uint16 k (p4_0.getD (Int.toNat (IntKind.wrap .i64 (shrI .u64 (IntKind.wrap .u64 v11) 1))) (0 : Int)) p4_1).bind fun y16 =>
 bif y16 then
 slices_BinarySearch_uint16_l0 k p4_0 p4_1 p4_2 (IntKind.wrap .i64 ((IntKind.wrap .i64 (shrI .u64 (IntKind.wrap .u64 v11) 1)) + 1)) p4_4
 else
 slices_BinarySearch_uint16_l0 k p4_0 p4_1 p4_2 p4_3 (IntKind.wrap .i64 (shrI .u64 (IntKind.wrap .u64 v11) 1))
 else none
 else none
 else
 some (p4_0, p4_1, p4_2, p4_3)
noncomputable def slices_BinarySearch_uint16 (k : Nat) (a0 : (List Int)) (a1 : Int) : Option (Int × Bool) :=
 (slices_BinarySearch_uint16_l0 k a0 a1 (a0.length : Int) 0 (a0.length : Int)).bind fun y2 =>
 bif (decide (y2.2.2.2 < y2.2.2.1)) then
 bif decide ((0 : Int) ≤ y2.2.2.2) then
 bif decide (y2.2.2.2 < (y2.1.length : Int)) then
 bif (decide ((y2.1.getD (Int.toNat y2.2.2.2) (0 : Int)) = y2.2.1)) then
 some (y2.2.2.2, true)
 else
 bif decide ((0 : Int) ≤ y2.2.2.2) then
 bif decide (y2.2.2.2 < (y2.1.length : Int)) then
 (slices_isNaN_uint16 k (y2.1.getD (Int.toNat y2.2.2.2) (0 : Int))).bind fun y7 =>
 bif y7 then
 (slices_isNaN_uint16 k y2.2.1).bind fun y8 =>
 some (y2.2.2.2, y8)
 else
 some (y2.2.2.2, false)
 else none
 else none
 else none
 else none
 else
 some (y2.2.2.2, false)

noncomputable def arrays_Find (k : Nat) (a0 : (List Int)) (a1 : Int) : Option (Int × Bool) :=
 (slices_BinarySearch_uint16 k a0 a1).bind fun y1 =>
 some (y1.1, y1.2)

noncomputable def container_Container_arrayHas (k : Nat) (a0 : Cn) (a1 : Int) : Option (Bool) :=
 (arrays_Find k a0.2.1 a1).bind fun y1 =>
 some y1.2

noncomputable def words_Has (k : Nat) (a0 : (List Int)) (a1 : Int) : Option (Bool) :=
 bif (decide ((IntKind.wrap .i64 (IntKind.wrap .u16 (a1.tdiv 64))) < (a0.length : Int))) then
 let v5 := IntKind.wrap .u16 (a1.tdiv 64)
 bif decide ((0 : Int) ≤ v5) then
 bif decide (v5 < (a0.length : Int)) then
 bif !(decide ((a1.tmod 64) < 0)) then
 some (decide ((bitsI .and .u64 (shrI .u64 (a0.getD (Int.toNat v5) (0 : Int)) (a1.tmod 64)) 1) = 1))
 else none
 else none
 else none
 else
 some false

noncomputable def container_Container_wordsHas (k : Nat) (a0 : Cn) (a1 : Int) : Option (Bool) :=
 (words_Has k a0.2.2.1 a1).bind fun y1 =>
 some y1

noncomputable def runs_Has_1 (k : Nat) (a0 : (Int × Int)) (a1 : Int) : Option (Int) :=
 some (IntKind.wrap .i64 ((IntKind.wrap .i64 a0.1) - (IntKind.wrap .i64 a1)))

noncomputable def slices_BinarySearchFunc_uint16_Has_1_l0 : Nat → (List (Int × Int)) → Int → Int → Int → Int → Option ((List (Int × Int)) × Int × Int × Int)
 | 0, _, _, _, _, _ => none
 | k + 1, p4_0, p4_1, p4_2, p4_3, p4_4 =>
 bif (decide (p4_3 < p4_4)) then
 let v12 := IntKind.wrap .i64 (p4_3 + p4_4)
 bif decide ((0 : Int) ≤ (IntKind.wrap .i64 (shrI .u64 (IntKind.wrap .u64 v12) 1))) then
 bif decide ((IntKind.wrap .i64 (shrI .u64 (IntKind.wrap .u64 v12) 1)) < (p4_0.length : Int)) then
 (runs_Has_1 k (p4_0.getD (Int.toNat (IntKind.wrap .i64 (shrI .u64 (IntKind.wrap .u64 v12) 1))) ((0 : Int), (0 : Int))) p4_1).bind fun y17 =>
 bif (decide (y17 < 0)) then
 slices_BinarySearchFunc_uint16_Has_1_l0 k p4_0 p4_1 p4_2 (IntKind.wrap .i64 ((IntKind.wrap .i64 (shrI .u64 (IntKind.wrap .u64 v12) 1)) + 1)) p4_4
 else
 slices_BinarySearchFunc_uint16_Has_1_l0 k p4_0 p4_1 p4_2 p4_3 (IntKind.wrap .i64 (shrI .u64 (IntKind.wrap .u64 v12) 1))
 else none
 else none
 else
 some (p4_0, p4_1, p4_2, p4_3)
noncomputable def slices_BinarySearchFunc_uint16_Has_1 (k : Nat) (a0 : (List (Int × Int))) (a1 : Int) : Option (Int × Bool) :=
 (slices_BinarySearchFunc_uint16_Has_1_l0 k a0 a1 (a0.length : Int) 0 (a0.length : Int)).bind fun y2 =>
 bif (decide (y2.2.2.2 < y2.2.2.1)) then
 bif decide ((0 : Int) ≤ y2.2.2.2) then
 bif decide (y2.2.2.2 < (y2.1.length : Int)) then
 (runs_Has_1 k (y2.1.getD (Int.toNat y2.2.2.2) ((0 : Int), (0 : Int))) y2.2.1).bind fun y5 =>
 some (y2.2.2.2, (decide (y5 = 0)))
 else none
 else none
 else
 some (y2.2.2.2, false)

noncomputable def runs_Has (k : Nat) (a0 : (List (Int × Int))) (a1 : Int) : Option (Bool) :=
 (slices_BinarySearchFunc_uint16_Has_1 k a0 a1).bind fun y1 =>
 bif y1.2 then
 some true
 else
 bif (decide ((0 : Int) < y1.1)) then
 let v4 := IntKind.wrap .i64 (y1.1 - 1)
 bif decide ((0 : Int) ≤ v4) then
 bif decide (v4 < (a0.length : Int)) then
 (runs_end k (a0.getD (Int.toNat v4) ((0 : Int), (0 : Int)))).bind fun y6 =>
 some (decide ((IntKind.wrap .i64 a1) < y6))
 else none
 else none
 else
 some false

noncomputable def container_Container_runsHas (k : Nat) (a0 : Cn) (a1 : Int) : Option (Bool) :=
 (runs_Has k a0.2.2.2 a1).bind fun y1 =>
 some y1

noncomputable def container_Container_Has (k : Nat) (a0 : Cn) (a1 : Int) : Option (Bool) :=
 (container_Container_Kind k a0).bind fun y1 =>
 bif decide (y1 = 0) then
 none
 else
 bif decide (y1 = 1) then
 (container_Container_arrayHas k a0 a1).bind fun y2 =>
 some y2
 else
 bif decide (y1 = 2) then
 (container_Container_wordsHas k a0 a1).bind fun y3 =>
 some y3
 else
 bif decide (y1 = 3) then
 (container_Container_runsHas k a0 a1).bind fun y4 =>
 some y4
 else
 none

noncomputable def container_Container_AndNot_1 (k : Nat) (a0 : Int) (a1 : (List Int)) (a2 : (List Int)) (a3 : (List (Int × Int))) (a4 : Int) : Option (Int × (List Int) × (List Int) × (List (Int × Int)) × Bool) :=
 (container_Container_Has k (a0, (a1, (a2, a3))) a4).bind fun y1 =>
 some (a0, a1, a2, a3, !y1)

noncomputable def container_sift_1 (k : Nat) (a0 : Int) (a1 : (List Int)) (a2 : (List Int)) (a3 : (List (Int × Int))) (a4 : Int) : Option (Int × (List Int) × (List Int) × (List (Int × Int)) × Bool) :=
 (container_Container_AndNot_1 k a0 a1 a2 a3 a4).bind fun y1 =>
 some (y1.1, y1.2.1, y1.2.2.1, y1.2.2.2.1, !y1.2.2.2.2)

noncomputable def slices_IndexFunc_uint16_sift_1_l0 : Nat → (List Int) → Int → (List Int) → (List Int) → (List (Int × Int)) → Int → Int → Option (((List Int) × Int × (List Int) × (List Int) × (List (Int × Int)) × Int) ⊕ ((List Int) × Int × (List Int) × (List Int) × (List (Int × Int))))
 | 0, _, _, _, _, _, _, _ => none
 | k + 1, p3_0, p3_1, p3_2, p3_3, p3_4, p3_5, p3_6 =>
 bif (decide (p3_6 < p3_5)) then
 bif decide ((0 : Int) ≤ p3_6) then
 bif decide (p3_6 < (p3_0.length : Int)) then
 (container_sift_1 k p3_1 p3_2 p3_3 p3_4 (p3_0.getD (Int.toNat p3_6) (0 : Int))).bind fun y8 =>
 bif y8.2.2.2.2 then
 some (.inl (p3_0, y8.1, y8.2.1, y8.2.2.1, y8.2.2.2.1, p3_6))
 else
 slices_IndexFunc_uint16_sift_1_l0 k p3_0 y8.1 y8.2.1 y8.2.2.1 y8.2.2.2.1 p3_5 (IntKind.wrap .i64 (p3_6 + 1))
 else none
 else none
 else
 some (.inr (p3_0, p3_1, p3_2, p3_3, p3_4))
noncomputable def slices_IndexFunc_uint16_sift_1 (k : Nat) (a0 : (List Int)) (a1 : Int) (a2 : (List Int)) (a3 : (List Int)) (a4 : (List (Int × Int))) : Option ((List Int) × Int × (List Int) × (List Int) × (List (Int × Int)) × Int) :=
 (slices_IndexFunc_uint16_sift_1_l0 k a0 a1 a2 a3 a4 (a0.length : Int) 0).bind fun y10 =>
 (match y10 with
 | .inl y11 =>
 some (y11.1, y11.2.1, y11.2.2.1, y11.2.2.2.1, y11.2.2.2.2.1, y11.2.2.2.2.2)
 | .inr y12 =>
 some (y12.1, y12.2.1, y12.2.2.1, y12.2.2.2.1, y12.2.2.2.2, (-1)))

noncomputable def slices_DeleteFunc_uint16_sift_1_l0 : Nat → (List Int) → Int → (List Int) → (List Int) → (List (Int × Int)) → Int → Int → Option ((List Int) × Int × (List Int) × (List Int) × (List (Int × Int)) × Int)
 | 0, _, _, _, _, _, _, _ => none
 | k + 1, p6_0, p6_1, p6_2, p6_3, p6_4, p6_5, p6_6 =>
 bif (decide (p6_6 < (p6_0.length : Int))) then
 bif decide ((0 : Int) ≤ p6_6) then
 bif decide (p6_6 < (p6_0.length : Int)) then
 let v14 := p6_0.getD (Int.toNat p6_6) (0 : Int)
 (container_sift_1 k p6_1 p6_2 p6_3 p6_4 v14).bind fun y15 =>
 bif !y15.2.2.2.2 then
 bif decide ((0 : Int) ≤ p6_5) then
 bif decide (p6_5 < (p6_0.length : Int)) then
 slices_DeleteFunc_uint16_sift_1_l0 k (p6_0.set (Int.toNat p6_5) v14) y15.1 y15.2.1 y15.2.2.1 y15.2.2.2.1 (IntKind.wrap .i64 (p6_5 + 1)) (IntKind.wrap .i64 (p6_6 + 1))
 else none
 else none
 else
 slices_DeleteFunc_uint16_sift_1_l0 k p6_0 y15.1 y15.2.1 y15.2.2.1 y15.2.2.2.1 p6_5 (IntKind.wrap .i64 (p6_6 + 1))
 else none
 else none
 else
 some (p6_0, p6_1, p6_2, p6_3, p6_4, p6_5)
noncomputable def slices_DeleteFunc_uint16_sift_1 (k : Nat) (a0 : (List Int)) (a1 : Int) (a2 : (List Int)) (a3 : (List Int)) (a4 : (List (Int × Int))) : Option (Int × (List Int) × (List Int) × (List (Int × Int)) × (List Int)) :=
 (slices_IndexFunc_uint16_sift_1 k a0 a1 a2 a3 a4).bind fun y1 =>
 bif (decide (y1.2.2.2.2.2 = (-1))) then
 some (y1.2.1, y1.2.2.1, y1.2.2.2.1, y1.2.2.2.2.1, y1.1)
 else
 (slices_DeleteFunc_uint16_sift_1_l0 k y1.1 y1.2.1 y1.2.2.1 y1.2.2.2.1 y1.2.2.2.2.1 y1.2.2.2.2.2 (IntKind.wrap .i64 (y1.2.2.2.2.2 + 1))).bind fun y4 =>
 bif decide ((0 : Int) ≤ y4.2.2.2.2.2) then
 bif decide (y4.2.2.2.2.2 ≤ (List.length y4.1 : Int)) then
 bif Nat.blt (Int.toNat y4.2.2.2.2.2) (List.length y4.1) then
 let v5 := List.take (Int.toNat y4.2.2.2.2.2) y4.1 ++ List.replicate (List.length y4.1 - (Int.toNat y4.2.2.2.2.2)) (0 : Int)
 bif decide ((0 : Int) ≤ y4.2.2.2.2.2) then
 bif decide (y4.2.2.2.2.2 ≤ (List.length v5 : Int)) then
 bif decide (0 < List.length v5) then
 some (y4.2.1, y4.2.2.1, y4.2.2.2.1, y4.2.2.2.2.1, (v5.take (Int.toNat y4.2.2.2.2.2)))
 else none
 else none
 else none
 else none
 else none
 else none

noncomputable def container_sift_Container_AndNot_1 (k : Nat) (a0 : Int) (a1 : (List Int)) (a2 : (List Int)) (a3 : (List (Int × Int))) (a4 : (List Int)) : Option (Int × (List Int) × (List Int) × (List (Int × Int)) × Cn) :=
 (slices_Clone_uint16 k a4).bind fun y1 =>
 (slices_DeleteFunc_uint16_sift_1 k y1 a0 a1 a2 a3).bind fun y2 =>
 (container_Container_Canonical k (1, (y2.2.2.2.2, ([], [])))).bind fun y3 =>
 some (y2.1, y2.2.1, y2.2.2.1, y2.2.2.2.1, y3)

noncomputable def arrays_AndNot_1 (k : Nat) (a0 : Bool) (a1 : Bool) : Option (Bool) :=
 some (!a1)

noncomputable def arrays_merge_AndNot_1_l0 : Nat → (List Int) → (List Int) → (List Int) → Option ((List Int))
 | 0, _, _, _ => none
 | k + 1, p3_0, p3_1, p3_2 =>
 bif (decide ((0 : Int) < (p3_1.length : Int))) then
 bif (decide ((p3_2.length : Int) = 0)) then
 bif (decide ((p3_1.length : Int) = 0)) then
 bif decide ((0 : Int) < (p3_1.length : Int)) then
 bif decide ((1 : Int) ≤ (p3_1.length : Int)) then
 bif decide ((0 : Int) < (p3_2.length : Int)) then
 let v181 := p3_2.getD (Int.toNat 0) (0 : Int)
 bif decide ((1 : Int) ≤ (p3_2.length : Int)) then
 (arrays_AndNot_1 k true true).bind fun y183 =>
 bif y183 then
 bif decide ((List.length p3_0 + List.length [v181]) * 2 ≤ 140737488355328) then
 bif decide (List.length p3_0 + List.length [v181] ≤ 140737488355328) then
 arrays_merge_AndNot_1_l0 k (p3_0 ++ [v181]) (p3_1.drop (Int.toNat 1)) (p3_2.drop (Int.toNat 1))
 else none
 else none
 else
 arrays_merge_AndNot_1_l0 k p3_0 (p3_1.drop (Int.toNat 1)) (p3_2.drop (Int.toNat 1))
 else none
 else none
 else none
 else none
 else
 bif (decide ((0 : Int) < (p3_2.length : Int))) then
 bif decide ((0 : Int) < (p3_2.length : Int)) then
 let v187 := p3_2.getD (Int.toNat 0) (0 : Int)
 bif decide ((0 : Int) < (p3_1.length : Int)) then
 let v188 := p3_1.getD (Int.toNat 0) (0 : Int)
 bif decide ((0 : Int) < (p3_1.length : Int)) then
 let v190 := p3_1.getD (Int.toNat 0) (0 : Int)
 bif decide ((1 : Int) ≤ (p3_1.length : Int)) then
 bif (decide (v187 ≤ v188)) then
 bif decide ((0 : Int) < (p3_2.length : Int)) then
 let v192 := p3_2.getD (Int.toNat 0) (0 : Int)
 bif decide ((1 : Int) ≤ (p3_2.length : Int)) then
 (arrays_AndNot_1 k true (decide (v187 ≤ v188))).bind fun y194 =>
 bif y194 then
 bif decide ((List.length p3_0 + List.length [v192]) * 2 ≤ 140737488355328) then
 bif decide (List.length p3_0 + List.length [v192] ≤ 140737488355328) then
 arrays_merge_AndNot_1_l0 k (p3_0 ++ [v192]) (p3_1.drop (Int.toNat 1)) (p3_2.drop (Int.toNat 1))
 else none
 else none
 else
 arrays_merge_AndNot_1_l0 k p3_0 (p3_1.drop (Int.toNat 1)) (p3_2.drop (Int.toNat 1))
 else none
 else none
 else
 (arrays_AndNot_1 k true (decide (v187 ≤ v188))).bind fun y196 =>
 bif y196 then
 bif decide ((List.length p3_0 + List.length [v190]) * 2 ≤ 140737488355328) then
 bif decide (List.length p3_0 + List.length [v190] ≤ 140737488355328) then
 arrays_merge_AndNot_1_l0 k (p3_0 ++ [v190]) (p3_1.drop (Int.toNat 1)) p3_2
 else none
 else none
 else
 arrays_merge_AndNot_1_l0 k p3_0 (p3_1.drop (Int.toNat 1)) p3_2
 else none
 else none
 else none
 else none
 else
 bif decide ((0 : Int) < (p3_1.length : Int)) then
 let v198 := p3_1.getD (Int.toNat 0) (0 : Int)
 bif decide ((1 : Int) ≤ (p3_1.length : Int)) then
 (arrays_AndNot_1 k true false).bind fun y200 =>
 bif y200 then
 bif decide ((List.length p3_0 + List.length [v198]) * 2 ≤ 140737488355328) then
 bif decide (List.length p3_0 + List.length [v198] ≤ 140737488355328) then
 arrays_merge_AndNot_1_l0 k (p3_0 ++ [v198]) (p3_1.drop (Int.toNat 1)) p3_2
 else none
 else none
 else
 arrays_merge_AndNot_1_l0 k p3_0 (p3_1.drop (Int.toNat 1)) p3_2
 else none
 else none
 else
 bif (decide ((0 : Int) < (p3_1.length : Int))) then
 bif decide ((0 : Int) < (p3_1.length : Int)) then
 let v204 := p3_1.getD (Int.toNat 0) (0 : Int)
 bif decide ((0 : Int) < (p3_2.length : Int)) then
 let v205 := p3_2.getD (Int.toNat 0) (0 : Int)
 bif (decide ((p3_1.length : Int) = 0)) then
 let j209 := fun (x210 : (List Int)) (x211 : Int) =>
 (bif decide ((0 : Int) < (p3_2.length : Int)) then
 let v212 := p3_2.getD (Int.toNat 0) (0 : Int)
 bif decide ((1 : Int) ≤ (p3_2.length : Int)) then
 (arrays_AndNot_1 k (decide (v204 ≤ v205)) true).bind fun y214 =>
 bif y214 then
 bif decide ((List.length p3_0 + List.length [v212]) * 2 ≤ 140737488355328) then
 bif decide (List.length p3_0 + List.length [v212] ≤ 140737488355328) then
 arrays_merge_AndNot_1_l0 k (p3_0 ++ [v212]) x210 (p3_2.drop (Int.toNat 1))
 else none
 else none
 else
 arrays_merge_AndNot_1_l0 k p3_0 x210 (p3_2.drop (Int.toNat 1))
 else none
 else none)
 bif (decide (v204 ≤ v205)) then
 bif decide ((0 : Int) < (p3_1.length : Int)) then
 bif decide ((1 : Int) ≤ (p3_1.length : Int)) then
 j209 (p3_1.drop (Int.toNat 1)) (p3_1.getD (Int.toNat 0) (0 : Int))
 else none
 else none
 else
 j209 p3_1 0
 else
 bif (decide ((0 : Int) < (p3_2.length : Int))) then
 bif decide ((0 : Int) < (p3_2.length : Int)) then
 let v220 := p3_2.getD (Int.toNat 0) (0 : Int)
 bif decide ((0 : Int) < (p3_1.length : Int)) then
 let v221 := p3_1.getD (Int.toNat 0) (0 : Int)
 let j223 := fun (x224 : (List Int)) (x225 : Int) =>
 (bif (decide (v220 ≤ v221)) then
 bif decide ((0 : Int) < (p3_2.length : Int)) then
 let v226 := p3_2.getD (Int.toNat 0) (0 : Int)
 bif decide ((1 : Int) ≤ (p3_2.length : Int)) then
 (arrays_AndNot_1 k (decide (v204 ≤ v205)) (decide (v220 ≤ v221))).bind fun y228 =>
 bif y228 then
 bif decide ((List.length p3_0 + List.length [v226]) * 2 ≤ 140737488355328) then
 bif decide (List.length p3_0 + List.length [v226] ≤ 140737488355328) then
 arrays_merge_AndNot_1_l0 k (p3_0 ++ [v226]) x224 (p3_2.drop (Int.toNat 1))
 else none
 else none
 else
 arrays_merge_AndNot_1_l0 k p3_0 x224 (p3_2.drop (Int.toNat 1))
 else none
 else none
 else
 (arrays_AndNot_1 k (decide (v204 ≤ v205)) (decide (v220 ≤ v221))).bind fun y230 =>
 bif y230 then
 bif decide ((List.length p3_0 + List.length [x225]) * 2 ≤ 140737488355328) then
 bif decide (List.length p3_0 + List.length [x225] ≤ 140737488355328) then
 arrays_merge_AndNot_1_l0 k (p3_0 ++ [x225]) x224 p3_2
 else none
 else none
 else
 arrays_merge_AndNot_1_l0 k p3_0 x224 p3_2)
 bif (decide (v204 ≤ v205)) then
 bif decide ((0 : Int) < (p3_1.length : Int)) then
 bif decide ((1 : Int) ≤ (p3_1.length : Int)) then
 j223 (p3_1.drop (Int.toNat 1)) (p3_1.getD (Int.toNat 0) (0 : Int))
 else none
 else none
 else
 j223 p3_1 0
 else none
 else none
 else
 bif (decide (v204 ≤ v205)) then
 bif decide ((0 : Int) < (p3_1.length : Int)) then
 let v234 := p3_1.getD (Int.toNat 0) (0 : Int)
 bif decide ((1 : Int) ≤ (p3_1.length : Int)) then
 (arrays_AndNot_1 k (decide (v204 ≤ v205)) false).bind fun y236 =>
 bif y236 then
 bif decide ((List.length p3_0 + List.length [v234]) * 2 ≤ 140737488355328) then
 bif decide (List.length p3_0 + List.length [v234] ≤ 140737488355328) then
 arrays_merge_AndNot_1_l0 k (p3_0 ++ [v234]) (p3_1.drop (Int.toNat 1)) p3_2
 else none
 else none
 else
 arrays_merge_AndNot_1_l0 k p3_0 (p3_1.drop (Int.toNat 1)) p3_2
 else none
 else none
 else
 (arrays_AndNot_1 k (decide (v204 ≤ v205)) false).bind fun y238 =>
 bif y238 then
 bif decide ((List.length p3_0 + List.length [0]) * 2 ≤ 140737488355328) then
 bif decide (List.length p3_0 + List.length [0] ≤ 140737488355328) then
 arrays_merge_AndNot_1_l0 k (p3_0 ++ [0]) p3_1 p3_2
 else none
 else none
 else
 arrays_merge_AndNot_1_l0 k p3_0 p3_1 p3_2
 else none
 else none
 else
 bif (decide ((p3_1.length : Int) = 0)) then
 bif decide ((0 : Int) < (p3_2.length : Int)) then
 let v242 := p3_2.getD (Int.toNat 0) (0 : Int)
 bif decide ((1 : Int) ≤ (p3_2.length : Int)) then
 (arrays_AndNot_1 k false true).bind fun y244 =>
 bif y244 then
 bif decide ((List.length p3_0 + List.length [v242]) * 2 ≤ 140737488355328) then
 bif decide (List.length p3_0 + List.length [v242] ≤ 140737488355328) then
 arrays_merge_AndNot_1_l0 k (p3_0 ++ [v242]) p3_1 (p3_2.drop (Int.toNat 1))
 else none
 else none
 else
 arrays_merge_AndNot_1_l0 k p3_0 p3_1 (p3_2.drop (Int.toNat 1))
 else none
 else none
 else
 bif (decide ((0 : Int) < (p3_2.length : Int))) then
 bif decide ((0 : Int) < (p3_2.length : Int)) then
 let v248 := p3_2.getD (Int.toNat 0) (0 : Int)
 bif decide ((0 : Int) < (p3_1.length : Int)) then
 let v249 := p3_1.getD (Int.toNat 0) (0 : Int)
 bif (decide (v248 ≤ v249)) then
 bif decide ((0 : Int) < (p3_2.length : Int)) then
 let v251 := p3_2.getD (Int.toNat 0) (0 : Int)
 bif decide ((1 : Int) ≤ (p3_2.length : Int)) then
 (arrays_AndNot_1 k false (decide (v248 ≤ v249))).bind fun y253 =>
 bif y253 then
 bif decide ((List.length p3_0 + List.length [v251]) * 2 ≤ 140737488355328) then
 bif decide (List.length p3_0 + List.length [v251] ≤ 140737488355328) then
 arrays_merge_AndNot_1_l0 k (p3_0 ++ [v251]) p3_1 (p3_2.drop (Int.toNat 1))
 else none
 else none
 else
 arrays_merge_AndNot_1_l0 k p3_0 p3_1 (p3_2.drop (Int.toNat 1))
 else none
 else none
 else
 (arrays_AndNot_1 k false (decide (v248 ≤ v249))).bind fun y255 =>
 bif y255 then
 bif decide ((List.length p3_0 + List.length [0]) * 2 ≤ 140737488355328) then
 bif decide (List.length p3_0 + List.length [0] ≤ 140737488355328) then
 arrays_merge_AndNot_1_l0 k (p3_0 ++ [0]) p3_1 p3_2
 else none
 else none
 else
 arrays_merge_AndNot_1_l0 k p3_0 p3_1 p3_2
 else none
 else none
 else
 (arrays_AndNot_1 k false false).bind fun y257 =>
 bif y257 then
 bif decide ((List.length p3_0 + List.length [0]) * 2 ≤ 140737488355328) then
 bif decide (List.length p3_0 + List.length [0] ≤ 140737488355328) then
 arrays_merge_AndNot_1_l0 k (p3_0 ++ [0]) p3_1 p3_2
 else none
 else none
 else
 arrays_merge_AndNot_1_l0 k p3_0 p3_1 p3_2
 else
 bif (decide ((0 : Int) < (p3_2.length : Int))) then
 bif (decide ((p3_2.length : Int) = 0)) then
 bif (decide ((p3_1.length : Int) = 0)) then
 bif decide ((0 : Int) < (p3_1.length : Int)) then
 bif decide ((1 : Int) ≤ (p3_1.length : Int)) then
 bif decide ((0 : Int) < (p3_2.length : Int)) then
 let v267 := p3_2.getD (Int.toNat 0) (0 : Int)
 bif decide ((1 : Int) ≤ (p3_2.length : Int)) then
 (arrays_AndNot_1 k true true).bind fun y269 =>
 bif y269 then
 bif decide ((List.length p3_0 + List.length [v267]) * 2 ≤ 140737488355328) then
 bif decide (List.length p3_0 + List.length [v267] ≤ 140737488355328) then
 arrays_merge_AndNot_1_l0 k (p3_0 ++ [v267]) (p3_1.drop (Int.toNat 1)) (p3_2.drop (Int.toNat 1))
 else none
 else none
 else
 arrays_merge_AndNot_1_l0 k p3_0 (p3_1.drop (Int.toNat 1)) (p3_2.drop (Int.toNat 1))
 else none
 else none
 else none
 else none
 else
 bif (decide ((0 : Int) < (p3_2.length : Int))) then
 bif decide ((0 : Int) < (p3_2.length : Int)) then
 let v273 := p3_2.getD (Int.toNat 0) (0 : Int)
 bif decide ((0 : Int) < (p3_1.length : Int)) then
 let v274 := p3_1.getD (Int.toNat 0) (0 : Int)
 bif decide ((0 : Int) < (p3_1.length : Int)) then
 let v276 := p3_1.getD (Int.toNat 0) (0 : Int)
 bif decide ((1 : Int) ≤ (p3_1.length : Int)) then
 bif (decide (v273 ≤ v274)) then
 bif decide ((0 : Int) < (p3_2.length : Int)) then
 let v278 := p3_2.getD (Int.toNat 0) (0 : Int)
 bif decide ((1 : Int) ≤ (p3_2.length : Int)) then
 (arrays_AndNot_1 k true (decide (v273 ≤ v274))).bind fun y280 =>
 bif y280 then
 bif decide ((List.length p3_0 + List.length [v278]) * 2 ≤ 140737488355328) then
 bif decide (List.length p3_0 + List.length [v278] ≤ 140737488355328) then
 arrays_merge_AndNot_1_l0 k (p3_0 ++ [v278]) (p3_1.drop (Int.toNat 1)) (p3_2.drop (Int.toNat 1))
 else none
 else none
 else
 arrays_merge_AndNot_1_l0 k p3_0 (p3_1.drop (Int.toNat 1)) (p3_2.drop (Int.toNat 1))
 else none
 else none
 else
 (arrays_AndNot_1 k true (decide (v273 ≤ v274))).bind fun y282 =>
 bif y282 then
 bif decide ((List.length p3_0 + List.length [v276]) * 2 ≤ 140737488355328) then
 bif decide (List.length p3_0 + List.length [v276] ≤ 140737488355328) then
 arrays_merge_AndNot_1_l0 k (p3_0 ++ [v276]) (p3_1.drop (Int.toNat 1)) p3_2
 else none
 else none
 else
 arrays_merge_AndNot_1_l0 k p3_0 (p3_1.drop (Int.toNat 1)) p3_2
 else none
 else none
 else none
 else none
 else
 bif decide ((0 : Int) < (p3_1.length : Int)) then
 let v284 := p3_1.getD (Int.toNat 0) (0 : Int)
 bif decide ((1 : Int) ≤ (p3_1.length : Int)) then
 (arrays_AndNot_1 k true false).bind fun y286 =>
 bif y286 then
 bif decide ((List.length p3_0 + List.length [v284]) * 2 ≤ 140737488355328) then
 bif decide (List.length p3_0 + List.length [v284] ≤ 140737488355328) then
 arrays_merge_AndNot_1_l0 k (p3_0 ++ [v284]) (p3_1.drop (Int.toNat 1)) p3_2
 else none
 else none
 else
 arrays_merge_AndNot_1_l0 k p3_0 (p3_1.drop (Int.toNat 1)) p3_2
 else none
 else none
 else
 bif (decide ((0 : Int) < (p3_1.length : Int))) then
 bif decide ((0 : Int) < (p3_1.length : Int)) then
 let v290 := p3_1.getD (Int.toNat 0) (0 : Int)
 bif decide ((0 : Int) < (p3_2.length : Int)) then
 let v291 := p3_2.getD (Int.toNat 0) (0 : Int)
 bif (decide ((p3_1.length : Int) = 0)) then
 let j295 := fun (x296 : (List Int)) (x297 : Int) =>
 (bif decide ((0 : Int) < (p3_2.length : Int)) then
 let v298 := p3_2.getD (Int.toNat 0) (0 : Int)
 bif decide ((1 : Int) ≤ (p3_2.length : Int)) then
 (arrays_AndNot_1 k (decide (v290 ≤ v291)) true).bind fun y300 =>
 bif y300 then
 bif decide ((List.length p3_0 + List.length [v298]) * 2 ≤ 140737488355328) then
 bif decide (List.length p3_0 + List.length [v298] ≤ 140737488355328) then
 arrays_merge_AndNot_1_l0 k (p3_0 ++ [v298]) x296 (p3_2.drop (Int.toNat 1))
 else none
 else none
 else
 arrays_merge_AndNot_1_l0 k p3_0 x296 (p3_2.drop (Int.toNat 1))
 else none
 else none)
 bif (decide (v290 ≤ v291)) then
 bif decide ((0 : Int) < (p3_1.length : Int)) then
 bif decide ((1 : Int) ≤ (p3_1.length : Int)) then
 j295 (p3_1.drop (Int.toNat 1)) (p3_1.getD (Int.toNat 0) (0 : Int))
 else none
 else none
 else
 j295 p3_1 0
 else
 bif (decide ((0 : Int) < (p3_2.length : Int))) then
 bif decide ((0 : Int) < (p3_2.length : Int)) then
 let v306 := p3_2.getD (Int.toNat 0) (0 : Int)
 bif decide ((0 : Int) < (p3_1.length : Int)) then
 let v307 := p3_1.getD (Int.toNat 0) (0 : Int)
 let j309 := fun (x310 : (List Int)) (x311 : Int) =>
 (bif (decide (v306 ≤ v307)) then
 bif decide ((0 : Int) < (p3_2.length : Int)) then
 let v312 := p3_2.getD (Int.toNat 0) (0 : Int)
 bif decide ((1 : Int) ≤ (p3_2.length : Int)) then
 (arrays_AndNot_1 k (decide (v290 ≤ v291)) (decide (v306 ≤ v307))).bind fun y314 =>
 bif y314 then
 bif decide ((List.length p3_0 + List.length [v312]) * 2 ≤ 140737488355328) then
 bif decide (List.length p3_0 + List.length [v312] ≤ 140737488355328) then
 arrays_merge_AndNot_1_l0 k (p3_0 ++ [v312]) x310 (p3_2.drop (Int.toNat 1))
 else none
 else none
 else
 arrays_merge_AndNot_1_l0 k p3_0 x310 (p3_2.drop (Int.toNat 1))
 else none
 else none
 else
 (arrays_AndNot_1 k (decide (v290 ≤ v291)) (decide (v306 ≤ v307))).bind fun y316 =>
 bif y316 then
 bif decide ((List.length p3_0 + List.length [x311]) * 2 ≤ 140737488355328) then
 bif decide (List.length p3_0 + List.length [x311] ≤ 140737488355328) then
 arrays_merge_AndNot_1_l0 k (p3_0 ++ [x311]) x310 p3_2
 else none
 else none
 else
 arrays_merge_AndNot_1_l0 k p3_0 x310 p3_2)
 bif (decide (v290 ≤ v291)) then
 bif decide ((0 : Int) < (p3_1.length : Int)) then
 bif decide ((1 : Int) ≤ (p3_1.length : Int)) then
 j309 (p3_1.drop (Int.toNat 1)) (p3_1.getD (Int.toNat 0) (0 : Int))
 else none
 else none
 else
 j309 p3_1 0
 else none
 else none
 else
 bif (decide (v290 ≤ v291)) then
 bif decide ((0 : Int) < (p3_1.length : Int)) then
 let v320 := p3_1.getD (Int.toNat 0) (0 : Int)
 bif decide ((1 : Int) ≤ (p3_1.length : Int)) then
 (arrays_AndNot_1 k (decide (v290 ≤ v291)) false).bind fun y322 =>
 bif y322 then
 bif decide ((List.length p3_0 + List.length [v320]) * 2 ≤ 140737488355328) then
 bif decide (List.length p3_0 + List.length [v320] ≤ 140737488355328) then
 arrays_merge_AndNot_1_l0 k (p3_0 ++ [v320]) (p3_1.drop (Int.toNat 1)) p3_2
 else none
 else none
 else
 arrays_merge_AndNot_1_l0 k p3_0 (p3_1.drop (Int.toNat 1)) p3_2
 else none
 else none
 else
 (arrays_AndNot_1 k (decide (v290 ≤ v291)) false).bind fun y324 =>
 bif y324 then
 bif decide ((List.length p3_0 + List.length [0]) * 2 ≤ 140737488355328) then
 bif decide (List.length p3_0 + List.length [0] ≤ 140737488355328) then
 arrays_merge_AndNot_1_l0 k (p3_0 ++ [0]) p3_1 p3_2
 else none
 else none
 else
 arrays_merge_AndNot_1_l0 k p3_0 p3_1 p3_2
 else none
 else none
 else
 bif (decide ((p3_1.length : Int) = 0)) then
 bif decide ((0 : Int) < (p3_2.length : Int)) then
 let v328 := p3_2.getD (Int.toNat 0) (0 : Int)
 bif decide ((1 : Int) ≤ (p3_2.length : Int)) then
 (arrays_AndNot_1 k false true).bind fun y330 =>
 bif y330 then
 bif decide ((List.length p3_0 + List.length [v328]) * 2 ≤ 140737488355328) then
 bif decide (List.length p3_0 + List.length [v328] ≤ 140737488355328) then
 arrays_merge_AndNot_1_l0 k (p3_0 ++ [v328]) p3_1 (p3_2.drop (Int.toNat 1))
 else none
 else none
 else
 arrays_merge_AndNot_1_l0 k p3_0 p3_1 (p3_2.drop (Int.toNat 1))
 else none
 else none
 else
 bif (decide ((0 : Int) < (p3_2.length : Int))) then
 bif decide ((0 : Int) < (p3_2.length : Int)) then
 let v334 := p3_2.getD (Int.toNat 0) (0 : Int)
 bif decide ((0 : Int) < (p3_1.length : Int)) then
 let v335 := p3_1.getD (Int.toNat 0) (0 : Int)
 bif (decide (v334 ≤ v335)) then
 bif decide ((0 : Int) < (p3_2.length : Int)) then
 let v337 := p3_2.getD (Int.toNat 0) (0 : Int)
 bif decide ((1 : Int) ≤ (p3_2.length : Int)) then
 (arrays_AndNot_1 k false (decide (v334 ≤ v335))).bind fun y339 =>
 bif y339 then
 bif decide ((List.length p3_0 + List.length [v337]) * 2 ≤ 140737488355328) then
 bif decide (List.length p3_0 + List.length [v337] ≤ 140737488355328) then
 arrays_merge_AndNot_1_l0 k (p3_0 ++ [v337]) p3_1 (p3_2.drop (Int.toNat 1))
 else none
 else none
 else
 arrays_merge_AndNot_1_l0 k p3_0 p3_1 (p3_2.drop (Int.toNat 1))
 else none
 else none
 else
 (arrays_AndNot_1 k false (decide (v334 ≤ v335))).bind fun y341 =>
 bif y341 then
 bif decide ((List.length p3_0 + List.length [0]) * 2 ≤ 140737488355328) then
 bif decide (List.length p3_0 + List.length [0] ≤ 140737488355328) then
 arrays_merge_AndNot_1_l0 k (p3_0 ++ [0]) p3_1 p3_2
 else none
 else none
 else
 arrays_merge_AndNot_1_l0 k p3_0 p3_1 p3_2
 else none
 else none
 else
 (arrays_AndNot_1 k false false).bind fun y343 =>
 bif y343 then
 bif decide ((List.length p3_0 + List.length [0]) * 2 ≤ 140737488355328) then
 bif decide (List.length p3_0 + List.length [0] ≤ 140737488355328) then
 arrays_merge_AndNot_1_l0 k (p3_0 ++ [0]) p3_1 p3_2
 else none
 else none
 else
 arrays_merge_AndNot_1_l0 k p3_0 p3_1 p3_2
 else
 some p3_0
noncomputable def arrays_merge_AndNot_1 (k : Nat) (a0 : (List Int)) (a1 : (List Int)) : Option ((List Int)) :=
 (arrays_merge_AndNot_1_l0 k [] a0 a1).bind fun y345 =>
 some y345

noncomputable def arrays_AndNot (k : Nat) (a0 : (List Int)) (a1 : (List Int)) : Option ((List Int)) :=
 (arrays_merge_AndNot_1 k a0 a1).bind fun y1 =>
 some y1

noncomputable def runs_AndNot_1 (k : Nat) (a0 : Bool) (a1 : Bool) : Option (Bool) :=
 bif a0 then
 some (!a1)
 else
 some false

noncomputable def runs_edges_AndNot_1_l1 : Nat → (List (Int × Int)) → (List Int) → (List Int) → Bool → Int → Int → Int → Int → Option ((List (Int × Int)) × (List Int) × (List Int) × Bool × Int × Int × Int × Int)
 | 0, _, _, _, _, _, _, _, _ => none
 | k + 1, p11_0, p11_1, p11_2, p11_3, p11_4, p11_5, p11_6, p11_7 =>
 bif (decide (p11_5 < (p11_1.length : Int))) then
 bif decide ((0 : Int) ≤ p11_5) then
 bif decide (p11_5 < (p11_1.length : Int)) then
 bif (decide ((p11_1.getD (Int.toNat p11_5) (0 : Int)) ≤ p11_7)) then
 runs_edges_AndNot_1_l1 k p11_0 p11_1 p11_2 p11_3 p11_4 (IntKind.wrap .i64 (p11_5 + 1)) p11_6 p11_7
 else
 some (p11_0, p11_1, p11_2, p11_3, p11_4, p11_5, p11_6, p11_7)
 else none
 else none
 else
 some (p11_0, p11_1, p11_2, p11_3, p11_4, p11_5, p11_6, p11_7)
noncomputable def runs_edges_AndNot_1_l2 : Nat → (List (Int × Int)) → (List Int) → (List Int) → Bool → Int → Int → Int → Int → Option ((List (Int × Int)) × (List Int) × (List Int) × Bool × Int × Int × Int × Int)
 | 0, _, _, _, _, _, _, _, _ => none
 | k + 1, p13_0, p13_1, p13_2, p13_3, p13_4, p13_5, p13_6, p13_7 =>
 bif (decide (p13_6 < (p13_2.length : Int))) then
 bif decide ((0 : Int) ≤ p13_6) then
 bif decide (p13_6 < (p13_2.length : Int)) then
 bif (decide ((p13_2.getD (Int.toNat p13_6) (0 : Int)) ≤ p13_7)) then
 runs_edges_AndNot_1_l2 k p13_0 p13_1 p13_2 p13_3 p13_4 p13_5 (IntKind.wrap .i64 (p13_6 + 1)) p13_7
 else
 some (p13_0, p13_1, p13_2, p13_3, p13_4, p13_5, p13_6, p13_7)
 else none
 else none
 else
 some (p13_0, p13_1, p13_2, p13_3, p13_4, p13_5, p13_6, p13_7)
noncomputable def runs_edges_AndNot_1_l0 : Nat → (List (Int × Int)) → (List Int) → (List Int) → Bool → Int → Int → Int → Option ((List (Int × Int)))
 | 0, _, _, _, _, _, _, _ => none
 | k + 1, p5_0, p5_1, p5_2, p5_3, p5_4, p5_5, p5_6 =>
 bif (decide (p5_5 < (p5_1.length : Int))) then
 let j55 := fun (x56 : Int) =>
 (let j57 := fun (x58 : Int) =>
 ((runs_edges_AndNot_1_l1 k p5_0 p5_1 p5_2 p5_3 p5_4 p5_5 p5_6 x58).bind fun y59 =>
 (runs_edges_AndNot_1_l2 k y59.1 y59.2.1 y59.2.2.1 y59.2.2.2.1 y59.2.2.2.2.1 y59.2.2.2.2.2.1 y59.2.2.2.2.2.2.1 y59.2.2.2.2.2.2.2).bind fun y60 =>
 (runs_AndNot_1 k (decide ((y60.2.2.2.2.2.1.tmod 2) = 1)) (decide ((y60.2.2.2.2.2.2.1.tmod 2) = 1))).bind fun y65 =>
 bif (y65 == y60.2.2.2.1) then
 runs_edges_AndNot_1_l0 k y60.1 y60.2.1 y60.2.2.1 y60.2.2.2.1 y60.2.2.2.2.1 y60.2.2.2.2.2.1 y60.2.2.2.2.2.2.1
 else
 bif y60.2.2.2.1 then
 let v67 := IntKind.wrap .u16 y60.2.2.2.2.1
 let v69 := IntKind.wrap .i64 ((IntKind.wrap .i64 (y60.2.2.2.2.2.2.2 - y60.2.2.2.2.1)) - 1)
 bif decide ((List.length y60.1 + List.length [(v67, (IntKind.wrap .u16 v69))]) * 4 ≤ 140737488355328) then
 bif decide (List.length y60.1 + List.length [(v67, (IntKind.wrap .u16 v69))] ≤ 140737488355328) then
 runs_edges_AndNot_1_l0 k (y60.1 ++ [(v67, (IntKind.wrap .u16 v69))]) y60.2.1 y60.2.2.1 y65 y60.2.2.2.2.2.2.2 y60.2.2.2.2.2.1 y60.2.2.2.2.2.2.1
 else none
 else none
 else
 runs_edges_AndNot_1_l0 k y60.1 y60.2.1 y60.2.2.1 y65 y60.2.2.2.2.2.2.2 y60.2.2.2.2.2.1 y60.2.2.2.2.2.2.1)
 bif (decide (p5_6 < (p5_2.length : Int))) then
 bif decide ((0 : Int) ≤ p5_6) then
 bif decide (p5_6 < (p5_2.length : Int)) then
 j57 (min x56 (p5_2.getD (Int.toNat p5_6) (0 : Int)))
 else none
 else none
 else
 j57 x56)
 bif (decide (p5_5 < (p5_1.length : Int))) then
 bif decide ((0 : Int) ≤ p5_5) then
 bif decide (p5_5 < (p5_1.length : Int)) then
 j55 (p5_1.getD (Int.toNat p5_5) (0 : Int))
 else none
 else none
 else
 j55 65537
 else
 bif (decide (p5_6 < (p5_2.length : Int))) then
 let j81 := fun (x82 : Int) =>
 (let j83 := fun (x84 : Int) =>
 ((runs_edges_AndNot_1_l1 k p5_0 p5_1 p5_2 p5_3 p5_4 p5_5 p5_6 x84).bind fun y85 =>
 (runs_edges_AndNot_1_l2 k y85.1 y85.2.1 y85.2.2.1 y85.2.2.2.1 y85.2.2.2.2.1 y85.2.2.2.2.2.1 y85.2.2.2.2.2.2.1 y85.2.2.2.2.2.2.2).bind fun y86 =>
 (runs_AndNot_1 k (decide ((y86.2.2.2.2.2.1.tmod 2) = 1)) (decide ((y86.2.2.2.2.2.2.1.tmod 2) = 1))).bind fun y91 =>
 bif (y91 == y86.2.2.2.1) then
 runs_edges_AndNot_1_l0 k y86.1 y86.2.1 y86.2.2.1 y86.2.2.2.1 y86.2.2.2.2.1 y86.2.2.2.2.2.1 y86.2.2.2.2.2.2.1
 else
 bif y86.2.2.2.1 then
 let v93 := IntKind.wrap .u16 y86.2.2.2.2.1
 let v95 := IntKind.wrap .i64 ((IntKind.wrap .i64 (y86.2.2.2.2.2.2.2 - y86.2.2.2.2.1)) - 1)
 bif decide ((List.length y86.1 + List.length [(v93, (IntKind.wrap .u16 v95))]) * 4 ≤ 140737488355328) then
 bif decide (List.length y86.1 + List.length [(v93, (IntKind.wrap .u16 v95))] ≤ 140737488355328) then
 runs_edges_AndNot_1_l0 k (y86.1 ++ [(v93, (IntKind.wrap .u16 v95))]) y86.2.1 y86.2.2.1 y91 y86.2.2.2.2.2.2.2 y86.2.2.2.2.2.1 y86.2.2.2.2.2.2.1
 else none
 else none
 else
 runs_edges_AndNot_1_l0 k y86.1 y86.2.1 y86.2.2.1 y91 y86.2.2.2.2.2.2.2 y86.2.2.2.2.2.1 y86.2.2.2.2.2.2.1)
 bif (decide (p5_6 < (p5_2.length : Int))) then
 bif decide ((0 : Int) ≤ p5_6) then
 bif decide (p5_6 < (p5_2.length : Int)) then
 j83 (min x82 (p5_2.getD (Int.toNat p5_6) (0 : Int)))
 else none
 else none
 else
 j83 x82)
 bif (decide (p5_5 < (p5_1.length : Int))) then
 bif decide ((0 : Int) ≤ p5_5) then
 bif decide (p5_5 < (p5_1.length : Int)) then
 j81 (p5_1.getD (Int.toNat p5_5) (0 : Int))
 else none
 else none
 else
 j81 65537
 else
 some p5_0
noncomputable def runs_edges_AndNot_1 (k : Nat) (a0 : (List Int)) (a1 : (List Int)) : Option ((List (Int × Int))) :=
 (runs_edges_AndNot_1_l0 k [] a0 a1 false 0 0 0).bind fun y105 =>
 some y105

noncomputable def runs_AndNot (k : Nat) (a0 : (List (Int × Int))) (a1 : (List (Int × Int))) : Option ((List (Int × Int))) :=
 (runs_row k a0).bind fun y1 =>
 (runs_row k a1).bind fun y2 =>
 (runs_edges_AndNot_1 k y1 y2).bind fun y3 =>
 some y3

noncomputable def words_AndNot_1 (k : Nat) (a0 : Int) (a1 : Int) : Option (Int) :=
 some (bitsI .andNot .u64 a0 a1)

noncomputable def words_each_AndNot_1_l0 : Nat → (List Int) → (List Int) → (List Int) → Int → Int → Option ((List Int))
 | 0, _, _, _, _, _ => none
 | k + 1, p4_0, p4_1, p4_2, p4_3, p4_4 =>
 bif (decide (p4_4 < p4_3)) then
 bif decide ((0 : Int) ≤ p4_4) then
 bif decide (p4_4 < (p4_1.length : Int)) then
 bif decide ((0 : Int) ≤ p4_4) then
 bif decide (p4_4 < (p4_2.length : Int)) then
 (words_AndNot_1 k (p4_1.getD (Int.toNat p4_4) (0 : Int)) (p4_2.getD (Int.toNat p4_4) (0 : Int))).bind fun y13 =>
 bif decide ((0 : Int) ≤ p4_4) then
 bif decide (p4_4 < (p4_0.length : Int)) then
 words_each_AndNot_1_l0 k (p4_0.set (Int.toNat p4_4) y13) p4_1 p4_2 p4_3 (IntKind.wrap .i64 (p4_4 + 1))
 else none
 else none
 else none
 else none
 else none
 else none
 else
 some p4_0
noncomputable def words_each_AndNot_1 (k : Nat) (a0 : (List Int)) (a1 : (List Int)) : Option ((List Int)) :=
 bif decide (1024 ≤ 1024) then
 (words_each_AndNot_1_l0 k (List.replicate (Int.toNat 1024) (0 : Int)) a0 a1 (min (min (a0.length : Int) (a1.length : Int)) 1024) 0).bind fun y16 =>
 some y16
 else none

noncomputable def words_AndNot (k : Nat) (a0 : (List Int)) (a1 : (List Int)) : Option ((List Int)) :=
 (words_each_AndNot_1 k a0 a1).bind fun y1 =>
 some y1

noncomputable def container_pair_do_o (k : Nat) (a0 : Cn) (a1 : Cn) : Option (Cn) :=
 let j1 := fun (x2 : Bool) =>
 (bif x2 then
 (arrays_AndNot k a0.2.1 a1.2.1).bind fun y3 =>
 (container_Container_Canonical k (1, (y3, ([], [])))).bind fun y4 =>
 some y4
 else
 bif (decide (a0.1 = 3)) then
 bif (decide (a1.1 = 3)) then
 (runs_AndNot k a0.2.2.2 a1.2.2.2).bind fun y7 =>
 (container_Container_Canonical k (3, ([], ([], y7)))).bind fun y8 =>
 some y8
 else
 (container_Container_Words k a0).bind fun y9 =>
 (container_Container_Words k a1).bind fun y10 =>
 (words_AndNot k y9 y10).bind fun y11 =>
 (container_Container_Canonical k (2, ([], (y11, [])))).bind fun y12 =>
 some y12
 else
 (container_Container_Words k a0).bind fun y13 =>
 (container_Container_Words k a1).bind fun y14 =>
 (words_AndNot k y13 y14).bind fun y15 =>
 (container_Container_Canonical k (2, ([], (y15, [])))).bind fun y16 =>
 some y16)
 (container_Container_Kind k a0).bind fun y17 =>
 bif (decide (y17 = 1)) then
 (container_Container_Kind k a1).bind fun y19 =>
 j1 (decide (y19 = 1))
 else
 j1 false

noncomputable def container_Container_AndNot (k : Nat) (a0 : Cn) (a1 : Cn) : Option (Cn) :=
 (container_Container_Kind k a0).bind fun y1 =>
 bif (decide (y1 = 1)) then
 (container_sift_Container_AndNot_1 k a1.1 a1.2.1 a1.2.2.1 a1.2.2.2 a0.2.1).bind fun y3 =>
 some y3.2.2.2.2
 else
 (container_pair_do_o k a0 a1).bind fun y4 =>
 some y4

noncomputable def roaring_each_Container_AndNot_l0 : Nat → (List Int) → (List Cn) → (List Int) → (List Cn) → (List Int) → (List Cn) → (List Int) → Int → Int → Option ((List Int) × (List Cn) × (List Int) × (List Cn) × (List Int) × (List Cn))
 | 0, _, _, _, _, _, _, _, _, _ => none
 | k + 1, p6_0, p6_1, p6_2, p6_3, p6_4, p6_5, p6_6, p6_7, p6_8 =>
 bif (decide (p6_8 < p6_7)) then
 bif decide ((0 : Int) ≤ p6_8) then
 bif decide (p6_8 < (p6_6.length : Int)) then
 let v20 := p6_6.getD (Int.toNat p6_8) (0 : Int)
 (roaring_Set_get k p6_0 p6_1 v20).bind fun y21 =>
 (roaring_Set_get k p6_2 p6_3 v20).bind fun y22 =>
 (container_Container_AndNot k y21.2.2 y22.2.2).bind fun y23 =>
 (container_Container_Len k y23).bind fun y24 =>
 bif (decide ((0 : Int) < y24)) then
 bif decide ((List.length p6_4 + List.length [v20]) * 2 ≤ 140737488355328) then
 bif decide (List.length p6_4 + List.length [v20] ≤ 140737488355328) then
 bif decide ((List.length p6_5 + List.length [y23]) * 80 ≤ 140737488355328) then
 bif decide (List.length p6_5 + List.length [y23] ≤ 140737488355328) then
 roaring_each_Container_AndNot_l0 k y21.1 y21.2.1 y22.1 y22.2.1 (p6_4 ++ [v20]) (p6_5 ++ [y23]) p6_6 p6_7 (IntKind.wrap .i64 (p6_8 + 1))
 else none
 else none
 else none
 else none
 else
 roaring_each_Container_AndNot_l0 k y21.1 y21.2.1 y22.1 y22.2.1 p6_4 p6_5 p6_6 p6_7 (IntKind.wrap .i64 (p6_8 + 1))
 else none
 else none
 else
 some (p6_0, p6_1, p6_2, p6_3, p6_4, p6_5)
noncomputable def roaring_each_Container_AndNot (k : Nat) (a0 : (List Int)) (a1 : (List Cn)) (a2 : (List Int)) (a3 : (List Cn)) : Option ((List Int) × (List Cn) × (List Int) × (List Cn) × (List Int) × (List Cn)) :=
 (roaring_New k).bind fun y1 =>
 (roaring_Set_Keys k a0 a1).bind fun y2 =>
 (roaring_Set_Keys k a2 a3).bind fun y3 =>
 (slices_Concat_uint16 k [y2.2.2, y3.2.2]).bind fun y4 =>
 (slices_Sort_uint16 k y4).bind fun y5 =>
 (slices_Compact_uint16 k y5).bind fun y6 =>
 (roaring_each_Container_AndNot_l0 k y2.1 y2.2.1 y3.1 y3.2.1 y1.1 y1.2 y6 (y6.length : Int) 0).bind fun y30 =>
 some (y30.1, y30.2.1, y30.2.2.1, y30.2.2.2.1, y30.2.2.2.2.1, y30.2.2.2.2.2)

noncomputable def roaring_Set_AndNot (k : Nat) (a0 : (List Int)) (a1 : (List Cn)) (a2 : (List Int)) (a3 : (List Cn)) : Option ((List Int) × (List Cn) × (List Int) × (List Cn) × (List Int) × (List Cn)) :=
 (roaring_each_Container_AndNot k a0 a1 a2 a3).bind fun y1 =>
 some (y1.1, y1.2.1, y1.2.2.1, y1.2.2.2.1, y1.2.2.2.2.1, y1.2.2.2.2.2)

noncomputable def roaring_Set_Not (k : Nat) (a0 : (List Int)) (a1 : (List Cn)) (a2 : Int) : Option ((List Int) × (List Cn) × (List Int) × (List Cn)) :=
 (roaring_Spans k [(0, a2)]).bind fun y1 =>
 (roaring_Set_AndNot k y1.1 y1.2 a0 a1).bind fun y2 =>
 some (y2.2.2.1, y2.2.2.2.1, y2.2.2.2.2.1, y2.2.2.2.2.2)

noncomputable def roaring_Set_list (k : Nat) (a0 : (List Int)) (a1 : (List Cn)) : Option ((List Int) × (List Cn)) :=
 some (a0, a1)

noncomputable def roaring_Set_Runs_l1 : Nat → (List Int) → (List Cn) → (List (Int × Int)) → Int → Int → Int → (List (Int × Int)) → Int → Int → Option ((List Int) × (List Cn) × (List (Int × Int)) × Int × Int)
 | 0, _, _, _, _, _, _, _, _, _ => none
 | k + 1, p8_0, p8_1, p8_2, p8_3, p8_4, p8_5, p8_6, p8_7, p8_8 =>
 bif (decide (p8_8 < p8_7)) then
 bif decide ((0 : Int) ≤ p8_8) then
 bif decide (p8_8 < (p8_6.length : Int)) then
 let v32 := p8_6.getD (Int.toNat p8_8) ((0 : Int), (0 : Int))
 let v34 := IntKind.wrap .u64 (p8_3 + (IntKind.wrap .u64 v32.1))
 let v39 := IntKind.wrap .u64 ((IntKind.wrap .u64 ((IntKind.wrap .u64 (p8_3 + (IntKind.wrap .u64 v32.1))) + (IntKind.wrap .u64 v32.2))) + 1)
 bif (decide ((0 : Int) < (p8_2.length : Int))) then
 let v42 := IntKind.wrap .i64 ((p8_2.length : Int) - 1)
 bif decide ((0 : Int) ≤ v42) then
 bif decide (v42 < (p8_2.length : Int)) then
 bif (decide ((p8_2.getD (Int.toNat v42) ((0 : Int), (0 : Int))).2 = v34)) then
 let v45 := IntKind.wrap .i64 ((p8_2.length : Int) - 1)
 bif decide ((0 : Int) ≤ v45) then
 bif decide (v45 < (p8_2.length : Int)) then
 roaring_Set_Runs_l1 k p8_0 p8_1 (p8_2.set (Int.toNat v45) (((p8_2.getD (Int.toNat v45) ((0 : Int), (0 : Int)))).1, v39)) p8_3 p8_4 p8_5 p8_6 p8_7 (IntKind.wrap .i64 (p8_8 + 1))
 else none
 else none
 else
 bif decide ((List.length p8_2 + List.length [(v34, v39)]) * 16 ≤ 140737488355328) then
 bif decide (List.length p8_2 + List.length [(v34, v39)] ≤ 140737488355328) then
 roaring_Set_Runs_l1 k p8_0 p8_1 (p8_2 ++ [(v34, v39)]) p8_3 p8_4 p8_5 p8_6 p8_7 (IntKind.wrap .i64 (p8_8 + 1))
 else none
 else none
 else none
 else none
 else
 bif decide ((List.length p8_2 + List.length [(v34, v39)]) * 16 ≤ 140737488355328) then
 bif decide (List.length p8_2 + List.length [(v34, v39)] ≤ 140737488355328) then
 roaring_Set_Runs_l1 k p8_0 p8_1 (p8_2 ++ [(v34, v39)]) p8_3 p8_4 p8_5 p8_6 p8_7 (IntKind.wrap .i64 (p8_8 + 1))
 else none
 else none
 else none
 else none
 else
 some (p8_0, p8_1, p8_2, p8_4, p8_5)
noncomputable def roaring_Set_Runs_l0 : Nat → (List Int) → (List Cn) → (List (Int × Int)) → Int → Int → Option ((List Int) × (List Cn) × (List (Int × Int)))
 | 0, _, _, _, _, _ => none
 | k + 1, p4_0, p4_1, p4_2, p4_3, p4_4 =>
 bif (decide (p4_4 < p4_3)) then
 bif decide ((0 : Int) ≤ p4_4) then
 bif decide (p4_4 < (p4_1.length : Int)) then
 bif decide ((0 : Int) ≤ p4_4) then
 bif decide (p4_4 < (p4_0.length : Int)) then
 (container_Container_Runs k (p4_1.getD (Int.toNat p4_4) ((0 : Int), ([], ([], []))))).bind fun y59 =>
 (roaring_Set_Runs_l1 k p4_0 p4_1 p4_2 (shlI .u64 (IntKind.wrap .u64 (p4_0.getD (Int.toNat p4_4) (0 : Int))) 16) p4_3 p4_4 y59 (y59.length : Int) 0).bind fun y61 =>
 roaring_Set_Runs_l0 k y61.1 y61.2.1 y61.2.2.1 y61.2.2.2.1 (IntKind.wrap .i64 (y61.2.2.2.2 + 1))
 else none
 else none
 else none
 else none
 else
 some (p4_0, p4_1, p4_2)
noncomputable def roaring_Set_Runs (k : Nat) (a0 : (List Int)) (a1 : (List Cn)) : Option ((List Int) × (List Cn) × (List (Int × Int))) :=
 (roaring_Set_list k a0 a1).bind fun y1 =>
 (roaring_Set_Runs_l0 k y1.1 y1.2 [] (y1.2.length : Int) 0).bind fun y63 =>
 some (y63.1, y63.2.1, y63.2.2)

noncomputable def roaring_Set_Len_l0 : Nat → (List Int) → (List Cn) → Int → Int → Int → Option ((List Int) × (List Cn) × Int)
 | 0, _, _, _, _, _ => none
 | k + 1, p4_0, p4_1, p4_2, p4_3, p4_4 =>
 bif (decide (p4_4 < p4_3)) then
 bif decide ((0 : Int) ≤ p4_4) then
 bif decide (p4_4 < (p4_1.length : Int)) then
 (container_Container_Len k (p4_1.getD (Int.toNat p4_4) ((0 : Int), ([], ([], []))))).bind fun y10 =>
 roaring_Set_Len_l0 k p4_0 p4_1 (IntKind.wrap .i64 (p4_2 + y10)) p4_3 (IntKind.wrap .i64 (p4_4 + 1))
 else none
 else none
 else
 some (p4_0, p4_1, p4_2)
noncomputable def roaring_Set_Len (k : Nat) (a0 : (List Int)) (a1 : (List Cn)) : Option ((List Int) × (List Cn) × Int) :=
 (roaring_Set_list k a0 a1).bind fun y1 =>
 (roaring_Set_Len_l0 k y1.1 y1.2 0 (y1.2.length : Int) 0).bind fun y13 =>
 some (y13.1, y13.2.1, y13.2.2)

noncomputable def container_Container_arrayRank (k : Nat) (a0 : Cn) (a1 : Int) : Option (Int) :=
 bif (decide (a1 ≤ 0)) then
 some 0
 else
 bif (decide ((65536 : Int) ≤ a1)) then
 some (a0.2.1.length : Int)
 else
 (arrays_Find k a0.2.1 (IntKind.wrap .u16 a1)).bind fun y5 =>
 some y5.1

noncomputable def words_Rank (k : Nat) (a0 : (List Int)) (a1 : Int) : Option (Int) :=
 let v3 := IntKind.wrap .i64 (64 * (a0.length : Int))
 let v5 := IntKind.wrap .i64 ((min (max a1 0) v3).tdiv 64)
 bif decide ((0 : Int) ≤ v5) then
 bif decide (v5 ≤ (a0.length : Int)) then
 (words_Len k (a0.take (Int.toNat v5))).bind fun y7 =>
 bif (decide ((0 : Int) < ((min (max a1 0) v3).tmod 64))) then
 let v10 := IntKind.wrap .i64 ((min (max a1 0) v3).tdiv 64)
 bif decide ((0 : Int) ≤ v10) then
 bif decide (v10 < (a0.length : Int)) then
 let v13 := IntKind.wrap .i64 (64 - ((min (max a1 0) v3).tmod 64))
 bif !(decide (v13 < 0)) then
 (math_bits_OnesCount64 k (shlI .u64 (a0.getD (Int.toNat v10) (0 : Int)) v13)).bind fun y15 =>
 some (IntKind.wrap .i64 (y7 + y15))
 else none
 else none
 else none
 else
 some y7
 else none
 else none

noncomputable def container_Container_wordsRank (k : Nat) (a0 : Cn) (a1 : Int) : Option (Int) :=
 (words_Rank k a0.2.2.1 a1).bind fun y1 =>
 some y1

noncomputable def runs_Rank_l0 : Nat → Int → Int → (List (Int × Int)) → Int → Int → Option (Int)
 | 0, _, _, _, _, _ => none
 | k + 1, p5_0, p5_1, p5_2, p5_3, p5_4 =>
 bif (decide (p5_4 < p5_3)) then
 bif decide ((0 : Int) ≤ p5_4) then
 bif decide (p5_4 < (p5_2.length : Int)) then
 let v14 := p5_2.getD (Int.toNat p5_4) ((0 : Int), (0 : Int))
 runs_Rank_l0 k p5_0 (IntKind.wrap .i64 (p5_1 + (min (max (IntKind.wrap .i64 (p5_0 - (IntKind.wrap .i64 v14.1))) 0) (IntKind.wrap .i64 ((IntKind.wrap .i64 v14.2) + 1))))) p5_2 p5_3 (IntKind.wrap .i64 (p5_4 + 1))
 else none
 else none
 else
 some p5_1
noncomputable def runs_Rank (k : Nat) (a0 : (List (Int × Int))) (a1 : Int) : Option (Int) :=
 (runs_Rank_l0 k (max a1 0) 0 a0 (a0.length : Int) 0).bind fun y23 =>
 some y23

noncomputable def container_Container_runsRank (k : Nat) (a0 : Cn) (a1 : Int) : Option (Int) :=
 (runs_Rank k a0.2.2.2 a1).bind fun y1 =>
 some y1

noncomputable def container_Container_Rank (k : Nat) (a0 : Cn) (a1 : Int) : Option (Int) :=
 (container_Container_Kind k a0).bind fun y1 =>
 bif decide (y1 = 0) then
 none
 else
 bif decide (y1 = 1) then
 (container_Container_arrayRank k a0 a1).bind fun y2 =>
 some y2
 else
 bif decide (y1 = 2) then
 (container_Container_wordsRank k a0 a1).bind fun y3 =>
 some y3
 else
 bif decide (y1 = 3) then
 (container_Container_runsRank k a0 a1).bind fun y4 =>
 some y4
 else
 none

noncomputable def roaring_Set_Rank_l0 : Nat → (List Int) → (List Cn) → Int → Int → Int → Int → Option ((List Int) × (List Cn) × Int)
 | 0, _, _, _, _, _, _ => none
 | k + 1, p6_0, p6_1, p6_2, p6_3, p6_4, p6_5 =>
 bif (decide (p6_5 < p6_4)) then
 bif decide ((0 : Int) ≤ p6_5) then
 bif decide (p6_5 < (p6_1.length : Int)) then
 let v23 := p6_1.getD (Int.toNat p6_5) ((0 : Int), ([], ([], [])))
 bif decide ((0 : Int) ≤ p6_5) then
 bif decide (p6_5 < (p6_0.length : Int)) then
 let v24 := p6_0.getD (Int.toNat p6_5) (0 : Int)
 bif (decide ((IntKind.wrap .u64 v24) < (shrI .u64 p6_2 16))) then
 (container_Container_Len k v23).bind fun y28 =>
 roaring_Set_Rank_l0 k p6_0 p6_1 p6_2 (IntKind.wrap .i64 (p6_3 + y28)) p6_4 (IntKind.wrap .i64 (p6_5 + 1))
 else
 bif (decide ((IntKind.wrap .u64 v24) = (shrI .u64 p6_2 16))) then
 (container_Container_Rank k v23 (IntKind.wrap .i64 (bitsI .and .u64 p6_2 65535))).bind fun y35 =>
 roaring_Set_Rank_l0 k p6_0 p6_1 p6_2 (IntKind.wrap .i64 (p6_3 + y35)) p6_4 (IntKind.wrap .i64 (p6_5 + 1))
 else
 roaring_Set_Rank_l0 k p6_0 p6_1 p6_2 p6_3 p6_4 (IntKind.wrap .i64 (p6_5 + 1))
 else none
 else none
 else none
 else none
 else
 some (p6_0, p6_1, p6_3)
noncomputable def roaring_Set_Rank (k : Nat) (a0 : (List Int)) (a1 : (List Cn)) (a2 : Int) : Option ((List Int) × (List Cn) × Int) :=
 bif (decide ((4294967296 : Int) ≤ a2)) then
 (roaring_Set_Len k a0 a1).bind fun y2 =>
 some (y2.1, y2.2.1, y2.2.2)
 else
 (roaring_Set_list k a0 a1).bind fun y3 =>
 (roaring_Set_Rank_l0 k y3.1 y3.2 a2 0 (y3.2.length : Int) 0).bind fun y39 =>
 some (y39.1, y39.2.1, y39.2.2)

noncomputable def isinglassref08_Same_l0 : Nat → (List (Int × Int)) → (List (Int × Int)) → Int → Option ((Bool) ⊕ (Unit))
 | 0, _, _, _ => none
 | k + 1, p5_0, p5_1, p5_2 =>
 bif (decide (p5_2 < (p5_0.length : Int))) then
 bif decide ((0 : Int) ≤ p5_2) then
 bif decide (p5_2 < (p5_0.length : Int)) then
 let v12 := p5_0.getD (Int.toNat p5_2) ((0 : Int), (0 : Int))
 bif decide ((0 : Int) ≤ p5_2) then
 bif decide (p5_2 < (p5_1.length : Int)) then
 let v13 := p5_1.getD (Int.toNat p5_2) ((0 : Int), (0 : Int))
 bif (!(decide (v12.1 = v13.1) && (decide (v12.2 = v13.2)))) then
 some (.inl false)
 else
 isinglassref08_Same_l0 k p5_0 p5_1 (IntKind.wrap .i64 (p5_2 + 1))
 else none
 else none
 else none
 else none
 else
 some (.inr ())
noncomputable def isinglassref08_Same (k : Nat) (a0 : (List (Int × Int))) (a1 : (List (Int × Int))) : Option (Bool) :=
 bif (!(decide ((a0.length : Int) = (a1.length : Int)))) then
 some false
 else
 (isinglassref08_Same_l0 k a0 a1 0).bind fun y16 =>
 (match y16 with
 | .inl y17 =>
 some y17
 | .inr y18 =>
 some true)

noncomputable def isinglasslaw08_known (k : Nat) : Option (Bool) :=
 (roaring_New k).bind fun y1 =>
 (roaring_Set_AddRange k y1.1 y1.2 65535 65538).bind fun y2 =>
 (roaring_Set_Keys k y2.1 y2.2).bind fun y3 =>
 (roaring_Of k [5, 1]).bind fun y4 =>
 (roaring_Set_Not k y4.1 y4.2 4).bind fun y5 =>
 (roaring_Set_Runs k y5.2.2.1 y5.2.2.2).bind fun y6 =>
 (roaring_Set_Len k y3.1 y3.2.1).bind fun y7 =>
 bif (decide (y7.2.2 = 3)) then
 bif (decide ((y3.2.2.length : Int) = 2)) then
 bif decide ((1 : Int) < (y3.2.2.length : Int)) then
 bif (decide ((y3.2.2.getD (Int.toNat 1) (0 : Int)) = 1)) then
 (roaring_Set_Rank k y7.1 y7.2.1 65537).bind fun y13 =>
 bif (decide (y13.2.2 = 2)) then
 (isinglassref08_Same k y6.2.2 [(0, 1), (2, 4)]).bind fun y15 =>
 some y15
 else
 some false
 else
 some false
 else none
 else
 some false
 else
 some false

noncomputable def container_OfWords (k : Nat) (a0 : (List Int)) : Option (Cn × Bool) :=
 bif (!(decide ((a0.length : Int) = 1024))) then
 some ((0, ([], ([], []))), false)
 else
 (slices_Clone_uint64 k a0).bind fun y3 =>
 some ((2, ([], (y3, []))), true)

noncomputable def runs_May_l0 : Nat → Int → (List (Int × Int)) → Int → Int → Option ((Bool) ⊕ (Unit))
 | 0, _, _, _, _ => none
 | k + 1, p4_0, p4_1, p4_2, p4_3 =>
 bif (decide (p4_3 < p4_2)) then
 bif decide ((0 : Int) ≤ p4_3) then
 bif decide (p4_3 < (p4_1.length : Int)) then
 let v12 := p4_1.getD (Int.toNat p4_3) ((0 : Int), (0 : Int))
 bif (decide ((IntKind.wrap .i64 v12.1) < p4_0)) then
 some (.inl false)
 else
 (runs_end k v12).bind fun y15 =>
 bif (decide ((65536 : Int) < y15)) then
 some (.inl false)
 else
 (runs_end k v12).bind fun y17 =>
 runs_May_l0 k (IntKind.wrap .i64 (y17 + 1)) p4_1 p4_2 (IntKind.wrap .i64 (p4_3 + 1))
 else none
 else none
 else
 some (.inr ())
noncomputable def runs_May (k : Nat) (a0 : (List (Int × Int))) : Option (Bool) :=
 (runs_May_l0 k 0 a0 (a0.length : Int) 0).bind fun y20 =>
 (match y20 with
 | .inl y21 =>
 some y21
 | .inr y22 =>
 some true)

noncomputable def container_OfRuns (k : Nat) (a0 : (List (Int × Int))) : Option (Cn × Bool) :=
 (runs_May k a0).bind fun y1 =>
 bif !y1 then
 some ((0, ([], ([], []))), false)
 else
 (slices_Clone_Run k a0).bind fun y2 =>
 some ((3, ([], ([], y2))), true)

noncomputable def roaring_Join_l0 : Nat → (List Int) → (List Cn) → (List Int) → (List Cn) → Int → Int → Option (((Option ((List Int) × (List Cn))) × Int) ⊕ ((List Int) × (List Cn)))
 | 0, _, _, _, _, _, _ => none
 | k + 1, p6_0, p6_1, p6_2, p6_3, p6_4, p6_5 =>
 bif (decide (p6_5 < p6_4)) then
 bif decide ((0 : Int) ≤ p6_5) then
 bif decide (p6_5 < (p6_3.length : Int)) then
 let v26 := p6_3.getD (Int.toNat p6_5) ((0 : Int), ([], ([], [])))
 (container_Container_Len k v26).bind fun y27 =>
 bif (decide (y27 = 0)) then
 some (.inl (none, 2))
 else
 bif (decide ((0 : Int) < p6_5)) then
 let v30 := IntKind.wrap .i64 (p6_5 - 1)
 bif decide ((0 : Int) ≤ v30) then
 bif decide (v30 < (p6_2.length : Int)) then
 bif decide ((0 : Int) ≤ p6_5) then
 bif decide (p6_5 < (p6_2.length : Int)) then
 bif (decide ((p6_2.getD (Int.toNat p6_5) (0 : Int)) ≤ (p6_2.getD (Int.toNat v30) (0 : Int)))) then
 some (.inl (none, 2))
 else
 bif decide ((0 : Int) ≤ p6_5) then
 bif decide (p6_5 < (p6_2.length : Int)) then
 let v34 := p6_2.getD (Int.toNat p6_5) (0 : Int)
 bif decide ((List.length p6_0 + List.length [v34]) * 2 ≤ 140737488355328) then
 bif decide (List.length p6_0 + List.length [v34] ≤ 140737488355328) then
 (container_Container_Canonical k v26).bind fun y36 =>
 bif decide ((List.length p6_1 + List.length [y36]) * 80 ≤ 140737488355328) then
 bif decide (List.length p6_1 + List.length [y36] ≤ 140737488355328) then
 roaring_Join_l0 k (p6_0 ++ [v34]) (p6_1 ++ [y36]) p6_2 p6_3 p6_4 (IntKind.wrap .i64 (p6_5 + 1))
 else none
 else none
 else none
 else none
 else none
 else none
 else none
 else none
 else none
 else none
 else
 bif decide ((0 : Int) ≤ p6_5) then
 bif decide (p6_5 < (p6_2.length : Int)) then
 let v39 := p6_2.getD (Int.toNat p6_5) (0 : Int)
 bif decide ((List.length p6_0 + List.length [v39]) * 2 ≤ 140737488355328) then
 bif decide (List.length p6_0 + List.length [v39] ≤ 140737488355328) then
 (container_Container_Canonical k v26).bind fun y41 =>
 bif decide ((List.length p6_1 + List.length [y41]) * 80 ≤ 140737488355328) then
 bif decide (List.length p6_1 + List.length [y41] ≤ 140737488355328) then
 roaring_Join_l0 k (p6_0 ++ [v39]) (p6_1 ++ [y41]) p6_2 p6_3 p6_4 (IntKind.wrap .i64 (p6_5 + 1))
 else none
 else none
 else none
 else none
 else none
 else none
 else none
 else none
 else
 some (.inr (p6_0, p6_1))
noncomputable def roaring_Join (k : Nat) (a0 : (List Int)) (a1 : (List Cn)) : Option ((Option ((List Int) × (List Cn))) × Int) :=
 bif (!(decide ((a0.length : Int) = (a1.length : Int)))) then
 some (none, 2)
 else
 (roaring_New k).bind fun y4 =>
 (roaring_Join_l0 k y4.1 y4.2 a0 a1 (a1.length : Int) 0).bind fun y44 =>
 (match y44 with
 | .inl y45 =>
 some (y45.1, y45.2)
 | .inr y46 =>
 some ((some y46), 0))

noncomputable def isinglassref04_May_l0 : Nat → (List Int) → Int → Option ((Bool) ⊕ (Unit))
 | 0, _, _ => none
 | k + 1, p3_0, p3_1 =>
 bif (decide (p3_1 < (p3_0.length : Int))) then
 let v10 := IntKind.wrap .i64 (p3_1 - 1)
 bif decide ((0 : Int) ≤ v10) then
 bif decide (v10 < (p3_0.length : Int)) then
 bif decide ((0 : Int) ≤ p3_1) then
 bif decide (p3_1 < (p3_0.length : Int)) then
 bif (decide ((p3_0.getD (Int.toNat p3_1) (0 : Int)) ≤ (p3_0.getD (Int.toNat v10) (0 : Int)))) then
 some (.inl false)
 else
 isinglassref04_May_l0 k p3_0 (IntKind.wrap .i64 (p3_1 + 1))
 else none
 else none
 else none
 else none
 else
 some (.inr ())
noncomputable def isinglassref04_May (k : Nat) (a0 : (List Int)) : Option (Bool) :=
 (isinglassref04_May_l0 k a0 1).bind fun y15 =>
 (match y15 with
 | .inl y16 =>
 some y16
 | .inr y17 =>
 some true)

noncomputable def roaring_Set_list_d (k : Nat) (a0 : (Option ((List Int) × (List Cn)))) : Option ((List Cn)) :=
 bif (a0.isNone) then
 some []
 else
 a0.bind fun y2 =>
 some y2.2

noncomputable def container_Container_arraySelect (k : Nat) (a0 : Cn) (a1 : Int) : Option (Int × Bool) :=
 bif (decide (a1 < 0)) then
 some (0, false)
 else
 bif (decide ((a0.2.1.length : Int) ≤ a1)) then
 some (0, false)
 else
 bif decide ((0 : Int) ≤ a1) then
 bif decide (a1 < (a0.2.1.length : Int)) then
 some ((a0.2.1.getD (Int.toNat a1) (0 : Int)), true)
 else none
 else none

noncomputable def words_Select_l1 : Nat → Int → Int → Int → Int → Option (Int × Int)
 | 0, _, _, _, _ => none
 | k + 1, p12_0, p12_1, p12_2, p12_3 =>
 bif (decide (p12_3 < p12_2)) then
 words_Select_l1 k p12_0 (bitsI .and .u64 p12_1 (IntKind.wrap .u64 (p12_1 - 1))) p12_2 (IntKind.wrap .i64 (p12_3 + 1))
 else
 some (p12_0, p12_1)
noncomputable def words_Select_l0 : Nat → (List Int) → Int → Int → Int → Option ((Int × Bool) ⊕ (Unit))
 | 0, _, _, _, _ => none
 | k + 1, p5_0, p5_1, p5_2, p5_3 =>
 bif (decide (p5_3 < p5_2)) then
 bif decide ((0 : Int) ≤ p5_3) then
 bif decide (p5_3 < (p5_0.length : Int)) then
 let v16 := p5_0.getD (Int.toNat p5_3) (0 : Int)
 (math_bits_OnesCount64 k v16).bind fun y17 =>
 bif (decide (y17 ≤ p5_1)) then
 words_Select_l0 k p5_0 (IntKind.wrap .i64 (p5_1 - y17)) p5_2 (IntKind.wrap .i64 (p5_3 + 1))
 else
 (words_Select_l1 k p5_3 v16 p5_1 0).bind fun y21 =>
 (math_bits_TrailingZeros64 k y21.2).bind fun y23 =>
 some (.inl ((IntKind.wrap .u16 (IntKind.wrap .i64 ((IntKind.wrap .i64 (64 * y21.1)) + y23))), true))
 else none
 else none
 else
 some (.inr ())
noncomputable def words_Select (k : Nat) (a0 : (List Int)) (a1 : Int) : Option (Int × Bool) :=
 bif (decide (a1 < 0)) then
 some (0, false)
 else
 (words_Select_l0 k a0 a1 (min (a0.length : Int) 1024) 0).bind fun y26 =>
 (match y26 with
 | .inl y27 =>
 some (y27.1, y27.2)
 | .inr y28 =>
 some (0, false))

noncomputable def container_Container_wordsSelect (k : Nat) (a0 : Cn) (a1 : Int) : Option (Int × Bool) :=
 (words_Select k a0.2.2.1 a1).bind fun y1 =>
 some (y1.1, y1.2)

noncomputable def runs_Select_l0 : Nat → (List (Int × Int)) → Int → (List (Int × Int)) → Int → Int → Option ((List (Int × Int)) × Int)
 | 0, _, _, _, _, _ => none
 | k + 1, p3_0, p3_1, p3_2, p3_3, p3_4 =>
 bif (decide (p3_4 < p3_3)) then
 bif decide ((0 : Int) ≤ p3_4) then
 bif decide (p3_4 < (p3_2.length : Int)) then
 let v12 := p3_2.getD (Int.toNat p3_4) ((0 : Int), (0 : Int))
 bif (decide (p3_1 ≤ (IntKind.wrap .i64 v12.2))) then
 some (p3_0, p3_1)
 else
 bif decide ((1 : Int) ≤ (p3_0.length : Int)) then
 runs_Select_l0 k (p3_0.drop (Int.toNat 1)) (IntKind.wrap .i64 (p3_1 - (IntKind.wrap .i64 ((IntKind.wrap .i64 v12.2) + 1)))) p3_2 p3_3 (IntKind.wrap .i64 (p3_4 + 1))
 else none
 else none
 else none
 else
 some (p3_0, p3_1)
noncomputable def runs_Select (k : Nat) (a0 : (List (Int × Int))) (a1 : Int) : Option (Int × Bool) :=
 (runs_Select_l0 k a0 a1 a0 (a0.length : Int) 0).bind fun y2 =>
 bif (decide (y2.2 < 0)) then
 some (0, false)
 else
 bif (decide ((y2.1.length : Int) = 0)) then
 some (0, false)
 else
 bif decide ((0 : Int) < (y2.1.length : Int)) then
 some ((IntKind.wrap .u16 ((y2.1.getD (Int.toNat 0) ((0 : Int), (0 : Int))).1 + (IntKind.wrap .u16 y2.2))), true)
 else none

noncomputable def container_Container_runsSelect (k : Nat) (a0 : Cn) (a1 : Int) : Option (Int × Bool) :=
 (runs_Select k a0.2.2.2 a1).bind fun y1 =>
 some (y1.1, y1.2)

noncomputable def container_Container_Select (k : Nat) (a0 : Cn) (a1 : Int) : Option (Int × Bool) :=
 (container_Container_Kind k a0).bind fun y1 =>
 bif decide (y1 = 0) then
 none
 else
 bif decide (y1 = 1) then
 (container_Container_arraySelect k a0 a1).bind fun y2 =>
 some (y2.1, y2.2)
 else
 bif decide (y1 = 2) then
 (container_Container_wordsSelect k a0 a1).bind fun y3 =>
 some (y3.1, y3.2)
 else
 bif decide (y1 = 3) then
 (container_Container_runsSelect k a0 a1).bind fun y4 =>
 some (y4.1, y4.2)
 else
 none

noncomputable def roaring_Set_Select_d_l0 : Nat → (Option ((List Int) × (List Cn))) → Int → (List Cn) → Int → Int → Option ((Int × Bool) ⊕ (Unit))
 | 0, _, _, _, _, _ => none
 | k + 1, p5_0, p5_1, p5_2, p5_3, p5_4 =>
 bif (decide (p5_4 < p5_3)) then
 bif decide ((0 : Int) ≤ p5_4) then
 bif decide (p5_4 < (p5_2.length : Int)) then
 let v18 := p5_2.getD (Int.toNat p5_4) ((0 : Int), ([], ([], [])))
 (container_Container_Len k v18).bind fun y19 =>
 bif (decide (y19 ≤ p5_1)) then
 roaring_Set_Select_d_l0 k p5_0 (IntKind.wrap .i64 (p5_1 - y19)) p5_2 p5_3 (IntKind.wrap .i64 (p5_4 + 1))
 else
 (container_Container_Select k v18 p5_1).bind fun y23 =>
 p5_0.bind fun y24 =>
 bif decide ((0 : Int) ≤ p5_4) then
 bif decide (p5_4 < (y24.1.length : Int)) then
 some (.inl ((bitsI .or .u32 (shlI .u32 (IntKind.wrap .u32 (y24.1.getD (Int.toNat p5_4) (0 : Int))) 16) (IntKind.wrap .u32 y23.1)), y23.2))
 else none
 else none
 else none
 else none
 else
 some (.inr ())
noncomputable def roaring_Set_Select_d (k : Nat) (a0 : (Option ((List Int) × (List Cn)))) (a1 : Int) : Option (Int × Bool) :=
 bif (decide (a1 < 0)) then
 some (0, false)
 else
 (roaring_Set_list_d k a0).bind fun y2 =>
 (roaring_Set_Select_d_l0 k a0 a1 y2 (y2.length : Int) 0).bind fun y30 =>
 (match y30 with
 | .inl y31 =>
 some (y31.1, y31.2)
 | .inr y32 =>
 some (0, false))

noncomputable def isinglassref08_Set_Select_l0 : Nat → (List (Int × Int)) → Int → Int → Option ((Int × Bool) ⊕ (Unit))
 | 0, _, _, _ => none
 | k + 1, p6_0, p6_1, p6_2 =>
 bif (decide (p6_2 < (p6_0.length : Int))) then
 bif decide ((0 : Int) ≤ p6_2) then
 bif decide (p6_2 < (p6_0.length : Int)) then
 bif decide ((0 : Int) ≤ p6_2) then
 bif decide (p6_2 < (p6_0.length : Int)) then
 let v18 := IntKind.wrap .u64 ((p6_0.getD (Int.toNat p6_2) ((0 : Int), (0 : Int))).2 - (p6_0.getD (Int.toNat p6_2) ((0 : Int), (0 : Int))).1)
 bif (decide (p6_1 < v18)) then
 bif decide ((0 : Int) ≤ p6_2) then
 bif decide (p6_2 < (p6_0.length : Int)) then
 some (.inl ((IntKind.wrap .u32 (IntKind.wrap .u64 ((p6_0.getD (Int.toNat p6_2) ((0 : Int), (0 : Int))).1 + p6_1))), true))
 else none
 else none
 else
 isinglassref08_Set_Select_l0 k p6_0 (IntKind.wrap .u64 (p6_1 - v18)) (IntKind.wrap .i64 (p6_2 + 1))
 else none
 else none
 else none
 else none
 else
 some (.inr ())
noncomputable def isinglassref08_Set_Select (k : Nat) (a0 : (List (Int × Int))) (a1 : Int) : Option (Int × Bool) :=
 bif (decide (a1 < 0)) then
 some (0, false)
 else
 (isinglassref08_Set_Select_l0 k a0 (IntKind.wrap .u64 a1) 0).bind fun y25 =>
 (match y25 with
 | .inl y26 =>
 some (y26.1, y26.2)
 | .inr y27 =>
 some (0, false))

noncomputable def roaring_Set_Keys_d (k : Nat) (a0 : (Option ((List Int) × (List Cn)))) : Option ((List Int)) :=
 bif (a0.isNone) then
 some []
 else
 a0.bind fun y2 =>
 (slices_Clone_uint16 k y2.1).bind fun y3 =>
 some y3

noncomputable def isinglassref08_Set_Keys_l1 : Nat → (List Int) → (List (Int × Int)) → Int → Int → Option ((List Int) × (List (Int × Int)) × Int)
 | 0, _, _, _, _ => none
 | k + 1, p7_0, p7_1, p7_2, p7_3 =>
 bif decide ((0 : Int) ≤ p7_2) then
 bif decide (p7_2 < (p7_1.length : Int)) then
 bif (decide (p7_3 ≤ (IntKind.wrap .u64 ((IntKind.wrap .u64 ((p7_1.getD (Int.toNat p7_2) ((0 : Int), (0 : Int))).2 - 1)).tdiv 65536)))) then
 bif (decide ((p7_0.length : Int) = 0)) then
 bif decide ((List.length p7_0 + List.length [(IntKind.wrap .u16 p7_3)]) * 2 ≤ 140737488355328) then
 bif decide (List.length p7_0 + List.length [(IntKind.wrap .u16 p7_3)] ≤ 140737488355328) then
 isinglassref08_Set_Keys_l1 k (p7_0 ++ [(IntKind.wrap .u16 p7_3)]) p7_1 p7_2 (IntKind.wrap .u64 (p7_3 + 1))
 else none
 else none
 else
 let v33 := IntKind.wrap .i64 ((p7_0.length : Int) - 1)
 bif decide ((0 : Int) ≤ v33) then
 bif decide (v33 < (p7_0.length : Int)) then
 bif (!(decide ((p7_0.getD (Int.toNat v33) (0 : Int)) = (IntKind.wrap .u16 p7_3)))) then
 bif decide ((List.length p7_0 + List.length [(IntKind.wrap .u16 p7_3)]) * 2 ≤ 140737488355328) then
 bif decide (List.length p7_0 + List.length [(IntKind.wrap .u16 p7_3)] ≤ 140737488355328) then
 isinglassref08_Set_Keys_l1 k (p7_0 ++ [(IntKind.wrap .u16 p7_3)]) p7_1 p7_2 (IntKind.wrap .u64 (p7_3 + 1))
 else none
 else none
 else
 isinglassref08_Set_Keys_l1 k p7_0 p7_1 p7_2 (IntKind.wrap .u64 (p7_3 + 1))
 else none
 else none
 else
 some (p7_0, p7_1, p7_2)
 else none
 else none
noncomputable def isinglassref08_Set_Keys_l0 : Nat → (List Int) → (List (Int × Int)) → Int → Option ((List Int))
 | 0, _, _, _ => none
 | k + 1, p4_0, p4_1, p4_2 =>
 bif (decide (p4_2 < (p4_1.length : Int))) then
 bif decide ((0 : Int) ≤ p4_2) then
 bif decide (p4_2 < (p4_1.length : Int)) then
 (isinglassref08_Set_Keys_l1 k p4_0 p4_1 p4_2 (IntKind.wrap .u64 ((p4_1.getD (Int.toNat p4_2) ((0 : Int), (0 : Int))).1.tdiv 65536))).bind fun y47 =>
 isinglassref08_Set_Keys_l0 k y47.1 y47.2.1 (IntKind.wrap .i64 (y47.2.2 + 1))
 else none
 else none
 else
 some p4_0
noncomputable def isinglassref08_Set_Keys (k : Nat) (a0 : (List (Int × Int))) : Option ((List Int)) :=
 (isinglassref08_Set_Keys_l0 k [] a0 0).bind fun y49 =>
 some y49

noncomputable def roaring_Set_Runs_d_l1 : Nat → (List (Int × Int)) → (Option ((List Int) × (List Cn))) → Int → (List Cn) → Int → Int → (List (Int × Int)) → Int → Int → Option ((List (Int × Int)) × (Option ((List Int) × (List Cn))) × (List Cn) × Int × Int)
 | 0, _, _, _, _, _, _, _, _, _ => none
 | k + 1, p8_0, p8_1, p8_2, p8_3, p8_4, p8_5, p8_6, p8_7, p8_8 =>
 bif (decide (p8_8 < p8_7)) then
 bif decide ((0 : Int) ≤ p8_8) then
 bif decide (p8_8 < (p8_6.length : Int)) then
 let v33 := p8_6.getD (Int.toNat p8_8) ((0 : Int), (0 : Int))
 let v35 := IntKind.wrap .u64 (p8_2 + (IntKind.wrap .u64 v33.1))
 let v40 := IntKind.wrap .u64 ((IntKind.wrap .u64 ((IntKind.wrap .u64 (p8_2 + (IntKind.wrap .u64 v33.1))) + (IntKind.wrap .u64 v33.2))) + 1)
 bif (decide ((0 : Int) < (p8_0.length : Int))) then
 let v43 := IntKind.wrap .i64 ((p8_0.length : Int) - 1)
 bif decide ((0 : Int) ≤ v43) then
 bif decide (v43 < (p8_0.length : Int)) then
 bif (decide ((p8_0.getD (Int.toNat v43) ((0 : Int), (0 : Int))).2 = v35)) then
 let v46 := IntKind.wrap .i64 ((p8_0.length : Int) - 1)
 bif decide ((0 : Int) ≤ v46) then
 bif decide (v46 < (p8_0.length : Int)) then
 roaring_Set_Runs_d_l1 k (p8_0.set (Int.toNat v46) (((p8_0.getD (Int.toNat v46) ((0 : Int), (0 : Int)))).1, v40)) p8_1 p8_2 p8_3 p8_4 p8_5 p8_6 p8_7 (IntKind.wrap .i64 (p8_8 + 1))
 else none
 else none
 else
 bif decide ((List.length p8_0 + List.length [(v35, v40)]) * 16 ≤ 140737488355328) then
 bif decide (List.length p8_0 + List.length [(v35, v40)] ≤ 140737488355328) then
 roaring_Set_Runs_d_l1 k (p8_0 ++ [(v35, v40)]) p8_1 p8_2 p8_3 p8_4 p8_5 p8_6 p8_7 (IntKind.wrap .i64 (p8_8 + 1))
 else none
 else none
 else none
 else none
 else
 bif decide ((List.length p8_0 + List.length [(v35, v40)]) * 16 ≤ 140737488355328) then
 bif decide (List.length p8_0 + List.length [(v35, v40)] ≤ 140737488355328) then
 roaring_Set_Runs_d_l1 k (p8_0 ++ [(v35, v40)]) p8_1 p8_2 p8_3 p8_4 p8_5 p8_6 p8_7 (IntKind.wrap .i64 (p8_8 + 1))
 else none
 else none
 else none
 else none
 else
 some (p8_0, p8_1, p8_3, p8_4, p8_5)
noncomputable def roaring_Set_Runs_d_l0 : Nat → (List (Int × Int)) → (Option ((List Int) × (List Cn))) → (List Cn) → Int → Int → Option ((List (Int × Int)))
 | 0, _, _, _, _, _ => none
 | k + 1, p4_0, p4_1, p4_2, p4_3, p4_4 =>
 bif (decide (p4_4 < p4_3)) then
 bif decide ((0 : Int) ≤ p4_4) then
 bif decide (p4_4 < (p4_2.length : Int)) then
 p4_1.bind fun y57 =>
 bif decide ((0 : Int) ≤ p4_4) then
 bif decide (p4_4 < (y57.1.length : Int)) then
 (container_Container_Runs k (p4_2.getD (Int.toNat p4_4) ((0 : Int), ([], ([], []))))).bind fun y61 =>
 (roaring_Set_Runs_d_l1 k p4_0 p4_1 (shlI .u64 (IntKind.wrap .u64 (y57.1.getD (Int.toNat p4_4) (0 : Int))) 16) p4_2 p4_3 p4_4 y61 (y61.length : Int) 0).bind fun y63 =>
 roaring_Set_Runs_d_l0 k y63.1 y63.2.1 y63.2.2.1 y63.2.2.2.1 (IntKind.wrap .i64 (y63.2.2.2.2 + 1))
 else none
 else none
 else none
 else none
 else
 some p4_0
noncomputable def roaring_Set_Runs_d (k : Nat) (a0 : (Option ((List Int) × (List Cn)))) : Option ((List (Int × Int))) :=
 (roaring_Set_list_d k a0).bind fun y1 =>
 (roaring_Set_Runs_d_l0 k [] a0 y1 (y1.length : Int) 0).bind fun y65 =>
 some y65

noncomputable def roaring_Set_Len_d_l0 : Nat → Int → (List Cn) → Int → Int → Option (Int)
 | 0, _, _, _, _ => none
 | k + 1, p4_0, p4_1, p4_2, p4_3 =>
 bif (decide (p4_3 < p4_2)) then
 bif decide ((0 : Int) ≤ p4_3) then
 bif decide (p4_3 < (p4_1.length : Int)) then
 (container_Container_Len k (p4_1.getD (Int.toNat p4_3) ((0 : Int), ([], ([], []))))).bind fun y10 =>
 roaring_Set_Len_d_l0 k (IntKind.wrap .i64 (p4_0 + y10)) p4_1 p4_2 (IntKind.wrap .i64 (p4_3 + 1))
 else none
 else none
 else
 some p4_0
noncomputable def roaring_Set_Len_d (k : Nat) (a0 : (Option ((List Int) × (List Cn)))) : Option (Int) :=
 (roaring_Set_list_d k a0).bind fun y1 =>
 (roaring_Set_Len_d_l0 k 0 y1 (y1.length : Int) 0).bind fun y13 =>
 some y13

noncomputable def isinglassref08_Set_Rank_l0 : Nat → (List (Int × Int)) → Int → Int → Int → Option (Int)
 | 0, _, _, _, _ => none
 | k + 1, p4_0, p4_1, p4_2, p4_3 =>
 bif (decide (p4_3 < (p4_0.length : Int))) then
 bif decide ((0 : Int) ≤ p4_3) then
 bif decide (p4_3 < (p4_0.length : Int)) then
 let v16 := p4_0.getD (Int.toNat p4_3) ((0 : Int), (0 : Int))
 let j17 := fun (x18 : Int) =>
 (bif decide ((0 : Int) ≤ p4_3) then
 bif decide (p4_3 < (p4_0.length : Int)) then
 bif (decide ((p4_0.getD (Int.toNat p4_3) ((0 : Int), (0 : Int))).1 < x18)) then
 bif decide ((0 : Int) ≤ p4_3) then
 bif decide (p4_3 < (p4_0.length : Int)) then
 isinglassref08_Set_Rank_l0 k p4_0 p4_1 (IntKind.wrap .u64 ((IntKind.wrap .u64 (p4_2 + x18)) - (p4_0.getD (Int.toNat p4_3) ((0 : Int), (0 : Int))).1)) (IntKind.wrap .i64 (p4_3 + 1))
 else none
 else none
 else
 isinglassref08_Set_Rank_l0 k p4_0 p4_1 p4_2 (IntKind.wrap .i64 (p4_3 + 1))
 else none
 else none)
 bif (decide (p4_1 < v16.2)) then
 j17 p4_1
 else
 j17 v16.2
 else none
 else none
 else
 some p4_2
noncomputable def isinglassref08_Set_Rank (k : Nat) (a0 : (List (Int × Int))) (a1 : Int) : Option (Int) :=
 (isinglassref08_Set_Rank_l0 k a0 a1 0 0).bind fun y27 =>
 some (IntKind.wrap .i64 y27)

noncomputable def isinglassref08_Set_Len (k : Nat) (a0 : (List (Int × Int))) : Option (Int) :=
 (isinglassref08_Set_Rank k a0 4294967296).bind fun y1 =>
 some y1

noncomputable def roaring_Set_find_d (k : Nat) (a0 : (Option ((List Int) × (List Cn)))) (a1 : Int) : Option (Int × Bool) :=
 bif (a0.isNone) then
 some (0, false)
 else
 a0.bind fun y2 =>
 (slices_BinarySearch_uint16 k y2.1 a1).bind fun y3 =>
 some (y3.1, y3.2)

noncomputable def roaring_Set_get_d (k : Nat) (a0 : (Option ((List Int) × (List Cn)))) (a1 : Int) : Option (Cn) :=
 (roaring_Set_find_d k a0 a1).bind fun y1 =>
 bif y1.2 then
 a0.bind fun y2 =>
 bif decide ((0 : Int) ≤ y1.1) then
 bif decide (y1.1 < (y2.2.length : Int)) then
 some (y2.2.getD (Int.toNat y1.1) ((0 : Int), ([], ([], []))))
 else none
 else none
 else
 some (0, ([], ([], [])))

noncomputable def roaring_Set_Has_d (k : Nat) (a0 : (Option ((List Int) × (List Cn)))) (a1 : Int) : Option (Bool) :=
 (roaring_Set_get_d k a0 (IntKind.wrap .u16 (shrI .u32 a1 16))).bind fun y3 =>
 (container_Container_Has k y3 (IntKind.wrap .u16 a1)).bind fun y5 =>
 some y5

noncomputable def isinglassref08_Set_Has_l0 : Nat → (List (Int × Int)) → Int → Int → Option ((Bool) ⊕ (Unit))
 | 0, _, _, _ => none
 | k + 1, p3_0, p3_1, p3_2 =>
 bif (decide (p3_2 < (p3_0.length : Int))) then
 bif decide ((0 : Int) ≤ p3_2) then
 bif decide (p3_2 < (p3_0.length : Int)) then
 bif (decide ((p3_0.getD (Int.toNat p3_2) ((0 : Int), (0 : Int))).1 ≤ p3_1)) then
 bif decide ((0 : Int) ≤ p3_2) then
 bif decide (p3_2 < (p3_0.length : Int)) then
 bif (decide (p3_1 < (p3_0.getD (Int.toNat p3_2) ((0 : Int), (0 : Int))).2)) then
 some (.inl true)
 else
 isinglassref08_Set_Has_l0 k p3_0 p3_1 (IntKind.wrap .i64 (p3_2 + 1))
 else none
 else none
 else
 isinglassref08_Set_Has_l0 k p3_0 p3_1 (IntKind.wrap .i64 (p3_2 + 1))
 else none
 else none
 else
 some (.inr ())
noncomputable def isinglassref08_Set_Has (k : Nat) (a0 : (List (Int × Int))) (a1 : Int) : Option (Bool) :=
 (isinglassref08_Set_Has_l0 k a0 a1 0).bind fun y17 =>
 (match y17 with
 | .inl y18 =>
 some y18
 | .inr y19 =>
 some false)

noncomputable def roaring_Set_Rank_d_l0 : Nat → (Option ((List Int) × (List Cn))) → Int → Int → (List Cn) → Int → Int → Option (Int)
 | 0, _, _, _, _, _, _ => none
 | k + 1, p6_0, p6_1, p6_2, p6_3, p6_4, p6_5 =>
 bif (decide (p6_5 < p6_4)) then
 bif decide ((0 : Int) ≤ p6_5) then
 bif decide (p6_5 < (p6_3.length : Int)) then
 let v24 := p6_3.getD (Int.toNat p6_5) ((0 : Int), ([], ([], [])))
 p6_0.bind fun y25 =>
 bif decide ((0 : Int) ≤ p6_5) then
 bif decide (p6_5 < (y25.1.length : Int)) then
 let v26 := y25.1.getD (Int.toNat p6_5) (0 : Int)
 bif (decide ((IntKind.wrap .u64 v26) < (shrI .u64 p6_1 16))) then
 (container_Container_Len k v24).bind fun y30 =>
 roaring_Set_Rank_d_l0 k p6_0 p6_1 (IntKind.wrap .i64 (p6_2 + y30)) p6_3 p6_4 (IntKind.wrap .i64 (p6_5 + 1))
 else
 bif (decide ((IntKind.wrap .u64 v26) = (shrI .u64 p6_1 16))) then
 (container_Container_Rank k v24 (IntKind.wrap .i64 (bitsI .and .u64 p6_1 65535))).bind fun y37 =>
 roaring_Set_Rank_d_l0 k p6_0 p6_1 (IntKind.wrap .i64 (p6_2 + y37)) p6_3 p6_4 (IntKind.wrap .i64 (p6_5 + 1))
 else
 roaring_Set_Rank_d_l0 k p6_0 p6_1 p6_2 p6_3 p6_4 (IntKind.wrap .i64 (p6_5 + 1))
 else none
 else none
 else none
 else none
 else
 some p6_2
noncomputable def roaring_Set_Rank_d (k : Nat) (a0 : (Option ((List Int) × (List Cn)))) (a1 : Int) : Option (Int) :=
 bif (decide ((4294967296 : Int) ≤ a1)) then
 (roaring_Set_Len_d k a0).bind fun y2 =>
 some y2
 else
 (roaring_Set_list_d k a0).bind fun y3 =>
 (roaring_Set_Rank_d_l0 k a0 a1 0 y3 (y3.length : Int) 0).bind fun y41 =>
 some y41

noncomputable def isinglassref04_Same_l0 : Nat → (List Int) → (List Int) → Int → Option ((Bool) ⊕ (Unit))
 | 0, _, _, _ => none
 | k + 1, p5_0, p5_1, p5_2 =>
 bif (decide (p5_2 < (p5_0.length : Int))) then
 bif decide ((0 : Int) ≤ p5_2) then
 bif decide (p5_2 < (p5_0.length : Int)) then
 bif decide ((0 : Int) ≤ p5_2) then
 bif decide (p5_2 < (p5_1.length : Int)) then
 bif (!(decide ((p5_0.getD (Int.toNat p5_2) (0 : Int)) = (p5_1.getD (Int.toNat p5_2) (0 : Int))))) then
 some (.inl false)
 else
 isinglassref04_Same_l0 k p5_0 p5_1 (IntKind.wrap .i64 (p5_2 + 1))
 else none
 else none
 else none
 else none
 else
 some (.inr ())
noncomputable def isinglassref04_Same (k : Nat) (a0 : (List Int)) (a1 : (List Int)) : Option (Bool) :=
 bif (!(decide ((a0.length : Int) = (a1.length : Int)))) then
 some false
 else
 (isinglassref04_Same_l0 k a0 a1 0).bind fun y16 =>
 (match y16 with
 | .inl y17 =>
 some y17
 | .inr y18 =>
 some true)

noncomputable def roaring_Set_At_d (k : Nat) (a0 : (Option ((List Int) × (List Cn)))) (a1 : Int) : Option (Cn × Bool) :=
 bif (decide (a1 < 0)) then
 some ((0, ([], ([], []))), false)
 else
 (roaring_Set_list_d k a0).bind fun y2 =>
 bif (decide ((y2.length : Int) ≤ a1)) then
 some ((0, ([], ([], []))), false)
 else
 a0.bind fun y5 =>
 bif decide ((0 : Int) ≤ a1) then
 bif decide (a1 < (y5.2.length : Int)) then
 some ((y5.2.getD (Int.toNat a1) ((0 : Int), ([], ([], [])))), true)
 else none
 else none

noncomputable def isinglassref08_Span (k : Nat) (a0 : Int) (a1 : Int) : Option ((List (Int × Int))) :=
 bif (decide ((4294967296 : Int) < a1)) then
 bif (decide ((4294967296 : Int) ≤ a0)) then
 some []
 else
 some [(a0, 4294967296)]
 else
 bif (decide (a1 ≤ a0)) then
 some []
 else
 some [(a0, a1)]

noncomputable def isinglassref08_Set_edge (k : Nat) (a0 : (List (Int × Int))) (a1 : Int) (a2 : Bool) : Option (Int) :=
 bif (decide ((a0.length : Int) ≤ a1)) then
 some 4611686018427387904
 else
 bif a2 then
 bif decide ((0 : Int) ≤ a1) then
 bif decide (a1 < (a0.length : Int)) then
 some (a0.getD (Int.toNat a1) ((0 : Int), (0 : Int))).2
 else none
 else none
 else
 bif decide ((0 : Int) ≤ a1) then
 bif decide (a1 < (a0.length : Int)) then
 some (a0.getD (Int.toNat a1) ((0 : Int), (0 : Int))).1
 else none
 else none

noncomputable def isinglassref08_in (k : Nat) (a0 : Bool) (a1 : Bool) (a2 : Int) : Option (Bool) :=
 bif (decide (a2 = 1)) then
 bif a0 then
 some a1
 else
 some false
 else
 bif (decide (a2 = 2)) then
 bif a0 then
 some true
 else
 some a1
 else
 bif (decide (a2 = 3)) then
 bif a0 then
 some (!a1)
 else
 some false
 else
 some (!(a0 == a1))

noncomputable def isinglassref08_Both_l0 : Nat → (List (Int × Int)) → (List (Int × Int)) → (List (Int × Int)) → Int → Int → Int → Bool → Bool → Int → Option ((List (Int × Int)))
 | 0, _, _, _, _, _, _, _, _, _ => none
 | k + 1, p6_0, p6_1, p6_2, p6_3, p6_4, p6_5, p6_6, p6_7, p6_8 =>
 bif (decide (p6_4 < (p6_1.length : Int))) then
 (isinglassref08_Set_edge k p6_1 p6_4 p6_6).bind fun y119 =>
 (isinglassref08_Set_edge k p6_2 p6_5 p6_7).bind fun y120 =>
 let j121 := fun (x122 : Int) =>
 ((isinglassref08_in k p6_6 p6_7 p6_3).bind fun y123 =>
 bif y123 then
 bif (decide (p6_8 < x122)) then
 bif (decide ((0 : Int) < (p6_0.length : Int))) then
 let v127 := IntKind.wrap .i64 ((p6_0.length : Int) - 1)
 bif decide ((0 : Int) ≤ v127) then
 bif decide (v127 < (p6_0.length : Int)) then
 bif (decide ((p6_0.getD (Int.toNat v127) ((0 : Int), (0 : Int))).2 = p6_8)) then
 let v130 := IntKind.wrap .i64 ((p6_0.length : Int) - 1)
 bif decide ((0 : Int) ≤ v130) then
 bif decide (v130 < (p6_0.length : Int)) then
 let v131 := p6_0.set (Int.toNat v130) (((p6_0.getD (Int.toNat v130) ((0 : Int), (0 : Int)))).1, x122)
 bif (decide (y119 = x122)) then
 bif p6_6 then
 let v133 := IntKind.wrap .i64 (p6_4 + 1)
 bif (decide (y120 = x122)) then
 bif p6_7 then
 isinglassref08_Both_l0 k v131 p6_1 p6_2 p6_3 v133 (IntKind.wrap .i64 (p6_5 + 1)) (!p6_6) (!p6_7) x122
 else
 isinglassref08_Both_l0 k v131 p6_1 p6_2 p6_3 v133 p6_5 (!p6_6) (!p6_7) x122
 else
 isinglassref08_Both_l0 k v131 p6_1 p6_2 p6_3 v133 p6_5 (!p6_6) p6_7 x122
 else
 bif (decide (y120 = x122)) then
 bif p6_7 then
 isinglassref08_Both_l0 k v131 p6_1 p6_2 p6_3 p6_4 (IntKind.wrap .i64 (p6_5 + 1)) (!p6_6) (!p6_7) x122
 else
 isinglassref08_Both_l0 k v131 p6_1 p6_2 p6_3 p6_4 p6_5 (!p6_6) (!p6_7) x122
 else
 isinglassref08_Both_l0 k v131 p6_1 p6_2 p6_3 p6_4 p6_5 (!p6_6) p6_7 x122
 else
 bif (decide (y120 = x122)) then
 bif p6_7 then
 isinglassref08_Both_l0 k v131 p6_1 p6_2 p6_3 p6_4 (IntKind.wrap .i64 (p6_5 + 1)) p6_6 (!p6_7) x122
 else
 isinglassref08_Both_l0 k v131 p6_1 p6_2 p6_3 p6_4 p6_5 p6_6 (!p6_7) x122
 else
 isinglassref08_Both_l0 k v131 p6_1 p6_2 p6_3 p6_4 p6_5 p6_6 p6_7 x122
 else none
 else none
 else
 bif decide ((List.length p6_0 + List.length [(p6_8, x122)]) * 16 ≤ 140737488355328) then
 bif decide (List.length p6_0 + List.length [(p6_8, x122)] ≤ 140737488355328) then
 bif (decide (y119 = x122)) then
 bif p6_6 then
 let v142 := IntKind.wrap .i64 (p6_4 + 1)
 bif (decide (y120 = x122)) then
 bif p6_7 then
 isinglassref08_Both_l0 k (p6_0 ++ [(p6_8, x122)]) p6_1 p6_2 p6_3 v142 (IntKind.wrap .i64 (p6_5 + 1)) (!p6_6) (!p6_7) x122
 else
 isinglassref08_Both_l0 k (p6_0 ++ [(p6_8, x122)]) p6_1 p6_2 p6_3 v142 p6_5 (!p6_6) (!p6_7) x122
 else
 isinglassref08_Both_l0 k (p6_0 ++ [(p6_8, x122)]) p6_1 p6_2 p6_3 v142 p6_5 (!p6_6) p6_7 x122
 else
 bif (decide (y120 = x122)) then
 bif p6_7 then
 isinglassref08_Both_l0 k (p6_0 ++ [(p6_8, x122)]) p6_1 p6_2 p6_3 p6_4 (IntKind.wrap .i64 (p6_5 + 1)) (!p6_6) (!p6_7) x122
 else
 isinglassref08_Both_l0 k (p6_0 ++ [(p6_8, x122)]) p6_1 p6_2 p6_3 p6_4 p6_5 (!p6_6) (!p6_7) x122
 else
 isinglassref08_Both_l0 k (p6_0 ++ [(p6_8, x122)]) p6_1 p6_2 p6_3 p6_4 p6_5 (!p6_6) p6_7 x122
 else
 bif (decide (y120 = x122)) then
 bif p6_7 then
 isinglassref08_Both_l0 k (p6_0 ++ [(p6_8, x122)]) p6_1 p6_2 p6_3 p6_4 (IntKind.wrap .i64 (p6_5 + 1)) p6_6 (!p6_7) x122
 else
 isinglassref08_Both_l0 k (p6_0 ++ [(p6_8, x122)]) p6_1 p6_2 p6_3 p6_4 p6_5 p6_6 (!p6_7) x122
 else
 isinglassref08_Both_l0 k (p6_0 ++ [(p6_8, x122)]) p6_1 p6_2 p6_3 p6_4 p6_5 p6_6 p6_7 x122
 else none
 else none
 else none
 else none
 else
 bif decide ((List.length p6_0 + List.length [(p6_8, x122)]) * 16 ≤ 140737488355328) then
 bif decide (List.length p6_0 + List.length [(p6_8, x122)] ≤ 140737488355328) then
 bif (decide (y119 = x122)) then
 bif p6_6 then
 let v151 := IntKind.wrap .i64 (p6_4 + 1)
 bif (decide (y120 = x122)) then
 bif p6_7 then
 isinglassref08_Both_l0 k (p6_0 ++ [(p6_8, x122)]) p6_1 p6_2 p6_3 v151 (IntKind.wrap .i64 (p6_5 + 1)) (!p6_6) (!p6_7) x122
 else
 isinglassref08_Both_l0 k (p6_0 ++ [(p6_8, x122)]) p6_1 p6_2 p6_3 v151 p6_5 (!p6_6) (!p6_7) x122
 else
 isinglassref08_Both_l0 k (p6_0 ++ [(p6_8, x122)]) p6_1 p6_2 p6_3 v151 p6_5 (!p6_6) p6_7 x122
 else
 bif (decide (y120 = x122)) then
 bif p6_7 then
 isinglassref08_Both_l0 k (p6_0 ++ [(p6_8, x122)]) p6_1 p6_2 p6_3 p6_4 (IntKind.wrap .i64 (p6_5 + 1)) (!p6_6) (!p6_7) x122
 else
 isinglassref08_Both_l0 k (p6_0 ++ [(p6_8, x122)]) p6_1 p6_2 p6_3 p6_4 p6_5 (!p6_6) (!p6_7) x122
 else
 isinglassref08_Both_l0 k (p6_0 ++ [(p6_8, x122)]) p6_1 p6_2 p6_3 p6_4 p6_5 (!p6_6) p6_7 x122
 else
 bif (decide (y120 = x122)) then
 bif p6_7 then
 isinglassref08_Both_l0 k (p6_0 ++ [(p6_8, x122)]) p6_1 p6_2 p6_3 p6_4 (IntKind.wrap .i64 (p6_5 + 1)) p6_6 (!p6_7) x122
 else
 isinglassref08_Both_l0 k (p6_0 ++ [(p6_8, x122)]) p6_1 p6_2 p6_3 p6_4 p6_5 p6_6 (!p6_7) x122
 else
 isinglassref08_Both_l0 k (p6_0 ++ [(p6_8, x122)]) p6_1 p6_2 p6_3 p6_4 p6_5 p6_6 p6_7 x122
 else none
 else none
 else
 bif (decide (y119 = x122)) then
 bif p6_6 then
 let v159 := IntKind.wrap .i64 (p6_4 + 1)
 bif (decide (y120 = x122)) then
 bif p6_7 then
 isinglassref08_Both_l0 k p6_0 p6_1 p6_2 p6_3 v159 (IntKind.wrap .i64 (p6_5 + 1)) (!p6_6) (!p6_7) x122
 else
 isinglassref08_Both_l0 k p6_0 p6_1 p6_2 p6_3 v159 p6_5 (!p6_6) (!p6_7) x122
 else
 isinglassref08_Both_l0 k p6_0 p6_1 p6_2 p6_3 v159 p6_5 (!p6_6) p6_7 x122
 else
 bif (decide (y120 = x122)) then
 bif p6_7 then
 isinglassref08_Both_l0 k p6_0 p6_1 p6_2 p6_3 p6_4 (IntKind.wrap .i64 (p6_5 + 1)) (!p6_6) (!p6_7) x122
 else
 isinglassref08_Both_l0 k p6_0 p6_1 p6_2 p6_3 p6_4 p6_5 (!p6_6) (!p6_7) x122
 else
 isinglassref08_Both_l0 k p6_0 p6_1 p6_2 p6_3 p6_4 p6_5 (!p6_6) p6_7 x122
 else
 bif (decide (y120 = x122)) then
 bif p6_7 then
 isinglassref08_Both_l0 k p6_0 p6_1 p6_2 p6_3 p6_4 (IntKind.wrap .i64 (p6_5 + 1)) p6_6 (!p6_7) x122
 else
 isinglassref08_Both_l0 k p6_0 p6_1 p6_2 p6_3 p6_4 p6_5 p6_6 (!p6_7) x122
 else
 isinglassref08_Both_l0 k p6_0 p6_1 p6_2 p6_3 p6_4 p6_5 p6_6 p6_7 x122
 else
 bif (decide (y119 = x122)) then
 bif p6_6 then
 let v167 := IntKind.wrap .i64 (p6_4 + 1)
 bif (decide (y120 = x122)) then
 bif p6_7 then
 isinglassref08_Both_l0 k p6_0 p6_1 p6_2 p6_3 v167 (IntKind.wrap .i64 (p6_5 + 1)) (!p6_6) (!p6_7) x122
 else
 isinglassref08_Both_l0 k p6_0 p6_1 p6_2 p6_3 v167 p6_5 (!p6_6) (!p6_7) x122
 else
 isinglassref08_Both_l0 k p6_0 p6_1 p6_2 p6_3 v167 p6_5 (!p6_6) p6_7 x122
 else
 bif (decide (y120 = x122)) then
 bif p6_7 then
 isinglassref08_Both_l0 k p6_0 p6_1 p6_2 p6_3 p6_4 (IntKind.wrap .i64 (p6_5 + 1)) (!p6_6) (!p6_7) x122
 else
 isinglassref08_Both_l0 k p6_0 p6_1 p6_2 p6_3 p6_4 p6_5 (!p6_6) (!p6_7) x122
 else
 isinglassref08_Both_l0 k p6_0 p6_1 p6_2 p6_3 p6_4 p6_5 (!p6_6) p6_7 x122
 else
 bif (decide (y120 = x122)) then
 bif p6_7 then
 isinglassref08_Both_l0 k p6_0 p6_1 p6_2 p6_3 p6_4 (IntKind.wrap .i64 (p6_5 + 1)) p6_6 (!p6_7) x122
 else
 isinglassref08_Both_l0 k p6_0 p6_1 p6_2 p6_3 p6_4 p6_5 p6_6 (!p6_7) x122
 else
 isinglassref08_Both_l0 k p6_0 p6_1 p6_2 p6_3 p6_4 p6_5 p6_6 p6_7 x122)
 bif (decide (y120 < y119)) then
 j121 y120
 else
 j121 y119
 else
 bif (decide (p6_5 < (p6_2.length : Int))) then
 (isinglassref08_Set_edge k p6_1 p6_4 p6_6).bind fun y177 =>
 (isinglassref08_Set_edge k p6_2 p6_5 p6_7).bind fun y178 =>
 let j179 := fun (x180 : Int) =>
 ((isinglassref08_in k p6_6 p6_7 p6_3).bind fun y181 =>
 bif y181 then
 bif (decide (p6_8 < x180)) then
 bif (decide ((0 : Int) < (p6_0.length : Int))) then
 let v185 := IntKind.wrap .i64 ((p6_0.length : Int) - 1)
 bif decide ((0 : Int) ≤ v185) then
 bif decide (v185 < (p6_0.length : Int)) then
 bif (decide ((p6_0.getD (Int.toNat v185) ((0 : Int), (0 : Int))).2 = p6_8)) then
 let v188 := IntKind.wrap .i64 ((p6_0.length : Int) - 1)
 bif decide ((0 : Int) ≤ v188) then
 bif decide (v188 < (p6_0.length : Int)) then
 let v189 := p6_0.set (Int.toNat v188) (((p6_0.getD (Int.toNat v188) ((0 : Int), (0 : Int)))).1, x180)
 bif (decide (y177 = x180)) then
 bif p6_6 then
 let v191 := IntKind.wrap .i64 (p6_4 + 1)
 bif (decide (y178 = x180)) then
 bif p6_7 then
 isinglassref08_Both_l0 k v189 p6_1 p6_2 p6_3 v191 (IntKind.wrap .i64 (p6_5 + 1)) (!p6_6) (!p6_7) x180
 else
 isinglassref08_Both_l0 k v189 p6_1 p6_2 p6_3 v191 p6_5 (!p6_6) (!p6_7) x180
 else
 isinglassref08_Both_l0 k v189 p6_1 p6_2 p6_3 v191 p6_5 (!p6_6) p6_7 x180
 else
 bif (decide (y178 = x180)) then
 bif p6_7 then
 isinglassref08_Both_l0 k v189 p6_1 p6_2 p6_3 p6_4 (IntKind.wrap .i64 (p6_5 + 1)) (!p6_6) (!p6_7) x180
 else
 isinglassref08_Both_l0 k v189 p6_1 p6_2 p6_3 p6_4 p6_5 (!p6_6) (!p6_7) x180
 else
 isinglassref08_Both_l0 k v189 p6_1 p6_2 p6_3 p6_4 p6_5 (!p6_6) p6_7 x180
 else
 bif (decide (y178 = x180)) then
 bif p6_7 then
 isinglassref08_Both_l0 k v189 p6_1 p6_2 p6_3 p6_4 (IntKind.wrap .i64 (p6_5 + 1)) p6_6 (!p6_7) x180
 else
 isinglassref08_Both_l0 k v189 p6_1 p6_2 p6_3 p6_4 p6_5 p6_6 (!p6_7) x180
 else
 isinglassref08_Both_l0 k v189 p6_1 p6_2 p6_3 p6_4 p6_5 p6_6 p6_7 x180
 else none
 else none
 else
 bif decide ((List.length p6_0 + List.length [(p6_8, x180)]) * 16 ≤ 140737488355328) then
 bif decide (List.length p6_0 + List.length [(p6_8, x180)] ≤ 140737488355328) then
 bif (decide (y177 = x180)) then
 bif p6_6 then
 let v200 := IntKind.wrap .i64 (p6_4 + 1)
 bif (decide (y178 = x180)) then
 bif p6_7 then
 isinglassref08_Both_l0 k (p6_0 ++ [(p6_8, x180)]) p6_1 p6_2 p6_3 v200 (IntKind.wrap .i64 (p6_5 + 1)) (!p6_6) (!p6_7) x180
 else
 isinglassref08_Both_l0 k (p6_0 ++ [(p6_8, x180)]) p6_1 p6_2 p6_3 v200 p6_5 (!p6_6) (!p6_7) x180
 else
 isinglassref08_Both_l0 k (p6_0 ++ [(p6_8, x180)]) p6_1 p6_2 p6_3 v200 p6_5 (!p6_6) p6_7 x180
 else
 bif (decide (y178 = x180)) then
 bif p6_7 then
 isinglassref08_Both_l0 k (p6_0 ++ [(p6_8, x180)]) p6_1 p6_2 p6_3 p6_4 (IntKind.wrap .i64 (p6_5 + 1)) (!p6_6) (!p6_7) x180
 else
 isinglassref08_Both_l0 k (p6_0 ++ [(p6_8, x180)]) p6_1 p6_2 p6_3 p6_4 p6_5 (!p6_6) (!p6_7) x180
 else
 isinglassref08_Both_l0 k (p6_0 ++ [(p6_8, x180)]) p6_1 p6_2 p6_3 p6_4 p6_5 (!p6_6) p6_7 x180
 else
 bif (decide (y178 = x180)) then
 bif p6_7 then
 isinglassref08_Both_l0 k (p6_0 ++ [(p6_8, x180)]) p6_1 p6_2 p6_3 p6_4 (IntKind.wrap .i64 (p6_5 + 1)) p6_6 (!p6_7) x180
 else
 isinglassref08_Both_l0 k (p6_0 ++ [(p6_8, x180)]) p6_1 p6_2 p6_3 p6_4 p6_5 p6_6 (!p6_7) x180
 else
 isinglassref08_Both_l0 k (p6_0 ++ [(p6_8, x180)]) p6_1 p6_2 p6_3 p6_4 p6_5 p6_6 p6_7 x180
 else none
 else none
 else none
 else none
 else
 bif decide ((List.length p6_0 + List.length [(p6_8, x180)]) * 16 ≤ 140737488355328) then
 bif decide (List.length p6_0 + List.length [(p6_8, x180)] ≤ 140737488355328) then
 bif (decide (y177 = x180)) then
 bif p6_6 then
 let v209 := IntKind.wrap .i64 (p6_4 + 1)
 bif (decide (y178 = x180)) then
 bif p6_7 then
 isinglassref08_Both_l0 k (p6_0 ++ [(p6_8, x180)]) p6_1 p6_2 p6_3 v209 (IntKind.wrap .i64 (p6_5 + 1)) (!p6_6) (!p6_7) x180
 else
 isinglassref08_Both_l0 k (p6_0 ++ [(p6_8, x180)]) p6_1 p6_2 p6_3 v209 p6_5 (!p6_6) (!p6_7) x180
 else
 isinglassref08_Both_l0 k (p6_0 ++ [(p6_8, x180)]) p6_1 p6_2 p6_3 v209 p6_5 (!p6_6) p6_7 x180
 else
 bif (decide (y178 = x180)) then
 bif p6_7 then
 isinglassref08_Both_l0 k (p6_0 ++ [(p6_8, x180)]) p6_1 p6_2 p6_3 p6_4 (IntKind.wrap .i64 (p6_5 + 1)) (!p6_6) (!p6_7) x180
 else
 isinglassref08_Both_l0 k (p6_0 ++ [(p6_8, x180)]) p6_1 p6_2 p6_3 p6_4 p6_5 (!p6_6) (!p6_7) x180
 else
 isinglassref08_Both_l0 k (p6_0 ++ [(p6_8, x180)]) p6_1 p6_2 p6_3 p6_4 p6_5 (!p6_6) p6_7 x180
 else
 bif (decide (y178 = x180)) then
 bif p6_7 then
 isinglassref08_Both_l0 k (p6_0 ++ [(p6_8, x180)]) p6_1 p6_2 p6_3 p6_4 (IntKind.wrap .i64 (p6_5 + 1)) p6_6 (!p6_7) x180
 else
 isinglassref08_Both_l0 k (p6_0 ++ [(p6_8, x180)]) p6_1 p6_2 p6_3 p6_4 p6_5 p6_6 (!p6_7) x180
 else
 isinglassref08_Both_l0 k (p6_0 ++ [(p6_8, x180)]) p6_1 p6_2 p6_3 p6_4 p6_5 p6_6 p6_7 x180
 else none
 else none
 else
 bif (decide (y177 = x180)) then
 bif p6_6 then
 let v217 := IntKind.wrap .i64 (p6_4 + 1)
 bif (decide (y178 = x180)) then
 bif p6_7 then
 isinglassref08_Both_l0 k p6_0 p6_1 p6_2 p6_3 v217 (IntKind.wrap .i64 (p6_5 + 1)) (!p6_6) (!p6_7) x180
 else
 isinglassref08_Both_l0 k p6_0 p6_1 p6_2 p6_3 v217 p6_5 (!p6_6) (!p6_7) x180
 else
 isinglassref08_Both_l0 k p6_0 p6_1 p6_2 p6_3 v217 p6_5 (!p6_6) p6_7 x180
 else
 bif (decide (y178 = x180)) then
 bif p6_7 then
 isinglassref08_Both_l0 k p6_0 p6_1 p6_2 p6_3 p6_4 (IntKind.wrap .i64 (p6_5 + 1)) (!p6_6) (!p6_7) x180
 else
 isinglassref08_Both_l0 k p6_0 p6_1 p6_2 p6_3 p6_4 p6_5 (!p6_6) (!p6_7) x180
 else
 isinglassref08_Both_l0 k p6_0 p6_1 p6_2 p6_3 p6_4 p6_5 (!p6_6) p6_7 x180
 else
 bif (decide (y178 = x180)) then
 bif p6_7 then
 isinglassref08_Both_l0 k p6_0 p6_1 p6_2 p6_3 p6_4 (IntKind.wrap .i64 (p6_5 + 1)) p6_6 (!p6_7) x180
 else
 isinglassref08_Both_l0 k p6_0 p6_1 p6_2 p6_3 p6_4 p6_5 p6_6 (!p6_7) x180
 else
 isinglassref08_Both_l0 k p6_0 p6_1 p6_2 p6_3 p6_4 p6_5 p6_6 p6_7 x180
 else
 bif (decide (y177 = x180)) then
 bif p6_6 then
 let v225 := IntKind.wrap .i64 (p6_4 + 1)
 bif (decide (y178 = x180)) then
 bif p6_7 then
 isinglassref08_Both_l0 k p6_0 p6_1 p6_2 p6_3 v225 (IntKind.wrap .i64 (p6_5 + 1)) (!p6_6) (!p6_7) x180
 else
 isinglassref08_Both_l0 k p6_0 p6_1 p6_2 p6_3 v225 p6_5 (!p6_6) (!p6_7) x180
 else
 isinglassref08_Both_l0 k p6_0 p6_1 p6_2 p6_3 v225 p6_5 (!p6_6) p6_7 x180
 else
 bif (decide (y178 = x180)) then
 bif p6_7 then
 isinglassref08_Both_l0 k p6_0 p6_1 p6_2 p6_3 p6_4 (IntKind.wrap .i64 (p6_5 + 1)) (!p6_6) (!p6_7) x180
 else
 isinglassref08_Both_l0 k p6_0 p6_1 p6_2 p6_3 p6_4 p6_5 (!p6_6) (!p6_7) x180
 else
 isinglassref08_Both_l0 k p6_0 p6_1 p6_2 p6_3 p6_4 p6_5 (!p6_6) p6_7 x180
 else
 bif (decide (y178 = x180)) then
 bif p6_7 then
 isinglassref08_Both_l0 k p6_0 p6_1 p6_2 p6_3 p6_4 (IntKind.wrap .i64 (p6_5 + 1)) p6_6 (!p6_7) x180
 else
 isinglassref08_Both_l0 k p6_0 p6_1 p6_2 p6_3 p6_4 p6_5 p6_6 (!p6_7) x180
 else
 isinglassref08_Both_l0 k p6_0 p6_1 p6_2 p6_3 p6_4 p6_5 p6_6 p6_7 x180)
 bif (decide (y178 < y177)) then
 j179 y178
 else
 j179 y177
 else
 some p6_0
noncomputable def isinglassref08_Both (k : Nat) (a0 : (List (Int × Int))) (a1 : (List (Int × Int))) (a2 : Int) : Option ((List (Int × Int))) :=
 (isinglassref08_Both_l0 k [] a0 a1 a2 0 0 false false 0).bind fun y233 =>
 some y233

noncomputable def isinglassref08_Set_Block_l1 : Nat → (List Bool) → Int → (List (Int × Int)) → Int → Int → Option ((List Bool) × Int × (List (Int × Int)) × Int)
 | 0, _, _, _, _, _ => none
 | k + 1, p9_0, p9_1, p9_2, p9_3, p9_4 =>
 bif decide ((0 : Int) ≤ p9_3) then
 bif decide (p9_3 < (p9_2.length : Int)) then
 bif (decide (p9_4 < (p9_2.getD (Int.toNat p9_3) ((0 : Int), (0 : Int))).2)) then
 let v16 := IntKind.wrap .u64 (p9_4 - p9_1)
 bif decide ((0 : Int) ≤ v16) then
 bif decide (v16 < 65536) then
 bif Nat.ble 65536 p9_0.length then
 isinglassref08_Set_Block_l1 k (p9_0.set (Int.toNat v16) true) p9_1 p9_2 p9_3 (IntKind.wrap .u64 (p9_4 + 1))
 else none
 else none
 else none
 else
 some (p9_0, p9_1, p9_2, p9_3)
 else none
 else none
noncomputable def isinglassref08_Set_Block_l0 : Nat → (List Bool) → Int → (List (Int × Int)) → Int → Option ((List Bool))
 | 0, _, _, _, _ => none
 | k + 1, p6_0, p6_1, p6_2, p6_3 =>
 bif (decide (p6_3 < (p6_2.length : Int))) then
 bif decide ((0 : Int) ≤ p6_3) then
 bif decide (p6_3 < (p6_2.length : Int)) then
 (isinglassref08_Set_Block_l1 k p6_0 p6_1 p6_2 p6_3 (p6_2.getD (Int.toNat p6_3) ((0 : Int), (0 : Int))).1).bind fun y24 =>
 isinglassref08_Set_Block_l0 k y24.1 y24.2.1 y24.2.2.1 (IntKind.wrap .i64 (y24.2.2.2 + 1))
 else none
 else none
 else
 some p6_0
noncomputable def isinglassref08_Set_Block (k : Nat) (a0 : (List (Int × Int))) (a1 : Int) : Option ((List Bool)) :=
 let v2 := IntKind.wrap .u64 ((IntKind.wrap .u64 a1) * 65536)
 (isinglassref08_Span k v2 (IntKind.wrap .u64 (v2 + 65536))).bind fun y4 =>
 (isinglassref08_Both k a0 y4 1).bind fun y5 =>
 (isinglassref08_Set_Block_l0 k (List.replicate 65536 false) v2 y5 0).bind fun y26 =>
 some y26

noncomputable def isinglassref04_Marks_List_l0 : Nat → (List Bool) → (List Int) → Int → Option ((List Bool) × (List Int))
 | 0, _, _, _ => none
 | k + 1, p4_0, p4_1, p4_2 =>
 bif (decide (p4_2 < 65536)) then
 bif decide ((0 : Int) ≤ p4_2) then
 bif decide (p4_2 < 65536) then
 bif Nat.ble 65536 p4_0.length then
 bif (p4_0.getD (Int.toNat p4_2) false) then
 bif decide ((List.length p4_1 + List.length [(IntKind.wrap .u16 p4_2)]) * 2 ≤ 140737488355328) then
 bif decide (List.length p4_1 + List.length [(IntKind.wrap .u16 p4_2)] ≤ 140737488355328) then
 isinglassref04_Marks_List_l0 k p4_0 (p4_1 ++ [(IntKind.wrap .u16 p4_2)]) (IntKind.wrap .i64 (p4_2 + 1))
 else none
 else none
 else
 isinglassref04_Marks_List_l0 k p4_0 p4_1 (IntKind.wrap .i64 (p4_2 + 1))
 else none
 else none
 else none
 else
 some (p4_0, p4_1)
noncomputable def isinglassref04_Marks_List (k : Nat) (a0 : (List Bool)) : Option ((List Bool) × (List Int)) :=
 (isinglassref04_Marks_List_l0 k a0 [] 0).bind fun y13 =>
 some (y13.1, y13.2)

noncomputable def isinglassref04_Marks_Runs_l0 : Nat → (List Bool) → Int → Int → Option ((List Bool) × Int)
 | 0, _, _, _ => none
 | k + 1, p4_0, p4_1, p4_2 =>
 bif (decide (p4_2 < 65536)) then
 bif decide ((0 : Int) ≤ p4_2) then
 bif decide (p4_2 < 65536) then
 bif Nat.ble 65536 p4_0.length then
 bif (p4_0.getD (Int.toNat p4_2) false) then
 bif (decide (p4_2 = 0)) then
 isinglassref04_Marks_Runs_l0 k p4_0 (IntKind.wrap .i64 (p4_1 + 1)) (IntKind.wrap .i64 (p4_2 + 1))
 else
 let v17 := IntKind.wrap .i64 (p4_2 - 1)
 bif decide ((0 : Int) ≤ v17) then
 bif decide (v17 < 65536) then
 bif Nat.ble 65536 p4_0.length then
 bif !(p4_0.getD (Int.toNat v17) false) then
 isinglassref04_Marks_Runs_l0 k p4_0 (IntKind.wrap .i64 (p4_1 + 1)) (IntKind.wrap .i64 (p4_2 + 1))
 else
 isinglassref04_Marks_Runs_l0 k p4_0 p4_1 (IntKind.wrap .i64 (p4_2 + 1))
 else none
 else none
 else none
 else
 isinglassref04_Marks_Runs_l0 k p4_0 p4_1 (IntKind.wrap .i64 (p4_2 + 1))
 else none
 else none
 else none
 else
 some (p4_0, p4_1)
noncomputable def isinglassref04_Marks_Runs (k : Nat) (a0 : (List Bool)) : Option ((List Bool) × Int) :=
 (isinglassref04_Marks_Runs_l0 k a0 0 0).bind fun y23 =>
 some (y23.1, y23.2)

noncomputable def isinglassref07_Kind (k : Nat) (a0 : (List Bool)) : Option ((List Bool) × Int) :=
 (isinglassref04_Marks_List k a0).bind fun y1 =>
 (isinglassref04_Marks_Runs k y1.1).bind fun y3 =>
 bif (decide ((y1.2.length : Int) ≤ 4096)) then
 bif (decide ((IntKind.wrap .i64 (2 + (IntKind.wrap .i64 (4 * y3.2)))) < (IntKind.wrap .i64 (2 * (y1.2.length : Int))))) then
 some (y3.1, 3)
 else
 bif (decide ((y1.2.length : Int) ≤ 4096)) then
 some (y3.1, 1)
 else
 some (y3.1, 2)
 else
 bif (decide ((IntKind.wrap .i64 (2 + (IntKind.wrap .i64 (4 * y3.2)))) < 8192)) then
 some (y3.1, 3)
 else
 bif (decide ((y1.2.length : Int) ≤ 4096)) then
 some (y3.1, 1)
 else
 some (y3.1, 2)

noncomputable def isinglasslaw08_is (k : Nat) (a0 : (Option ((List Int) × (List Cn)))) (a1 : (List (Int × Int))) (a2 : Int) (a3 : Int) (a4 : Int) : Option (Bool) :=
 (roaring_Set_Select_d k a0 a4).bind fun y1 =>
 (isinglassref08_Set_Select k a1 a4).bind fun y2 =>
 (roaring_Set_Keys_d k a0).bind fun y3 =>
 (isinglassref08_Set_Keys k a1).bind fun y4 =>
 (roaring_Set_Runs_d k a0).bind fun y5 =>
 (isinglassref08_Same k y5 a1).bind fun y6 =>
 bif !y6 then
 some false
 else
 (roaring_Set_Len_d k a0).bind fun y7 =>
 (isinglassref08_Set_Len k a1).bind fun y8 =>
 bif (!(decide (y7 = y8))) then
 some false
 else
 (roaring_Set_Has_d k a0 a2).bind fun y10 =>
 (isinglassref08_Set_Has k a1 (IntKind.wrap .u64 a2)).bind fun y12 =>
 bif (!(y10 == y12)) then
 some false
 else
 (roaring_Set_Rank_d k a0 a3).bind fun y14 =>
 (isinglassref08_Set_Rank k a1 a3).bind fun y15 =>
 bif (!(decide (y14 = y15))) then
 some false
 else
 bif (!(decide (y1.1 = y2.1))) then
 some false
 else
 bif (!(y1.2 == y2.2)) then
 some false
 else
 (isinglassref04_Same k y3 y4).bind fun y19 =>
 bif !y19 then
 some false
 else
 bif (decide ((0 : Int) < (y4.length : Int))) then
 bif !(decide ((IntKind.wrap .u64 (y4.length : Int)) = 0)) then
 (roaring_Set_At_d k a0 (IntKind.wrap .i64 ((IntKind.wrap .u64 a2).tmod (IntKind.wrap .u64 (y4.length : Int))))).bind fun y27 =>
 bif decide ((0 : Int) ≤ (IntKind.wrap .i64 ((IntKind.wrap .u64 a2).tmod (IntKind.wrap .u64 (y4.length : Int))))) then
 bif decide ((IntKind.wrap .i64 ((IntKind.wrap .u64 a2).tmod (IntKind.wrap .u64 (y4.length : Int)))) < (y4.length : Int)) then
 (isinglassref08_Set_Block k a1 (y4.getD (Int.toNat (IntKind.wrap .i64 ((IntKind.wrap .u64 a2).tmod (IntKind.wrap .u64 (y4.length : Int))))) (0 : Int))).bind fun y29 =>
 bif !y27.2 then
 some false
 else
 (container_Container_Kind k y27.1).bind fun y30 =>
 (isinglassref07_Kind k y29).bind fun y31 =>
 bif (!(decide (y30 = y31.2))) then
 some false
 else
 (container_Container_Array k y27.1).bind fun y33 =>
 (isinglassref04_Marks_List k y31.1).bind fun y34 =>
 (isinglassref04_Same k y33 y34.2).bind fun y35 =>
 bif !y35 then
 some false
 else
 (roaring_Set_At_d k a0 (y4.length : Int)).bind fun y37 =>
 (roaring_Set_At_d k a0 (-1)).bind fun y38 =>
 bif !y37.2 then
 some (!y38.2)
 else
 some false
 else none
 else none
 else none
 else
 (roaring_Set_At_d k a0 (y4.length : Int)).bind fun y40 =>
 (roaring_Set_At_d k a0 (-1)).bind fun y41 =>
 bif !y40.2 then
 some (!y41.2)
 else
 some false

noncomputable def slices_Equal_Span_l0 : Nat → (List (Int × Int)) → (List (Int × Int)) → Int → Int → Option ((Bool) ⊕ (Unit))
 | 0, _, _, _, _ => none
 | k + 1, p5_0, p5_1, p5_2, p5_3 =>
 bif (decide (p5_3 < p5_2)) then
 bif decide ((0 : Int) ≤ p5_3) then
 bif decide (p5_3 < (p5_0.length : Int)) then
 let v11 := p5_0.getD (Int.toNat p5_3) ((0 : Int), (0 : Int))
 bif decide ((0 : Int) ≤ p5_3) then
 bif decide (p5_3 < (p5_1.length : Int)) then
 let v12 := p5_1.getD (Int.toNat p5_3) ((0 : Int), (0 : Int))
 bif (!(decide (v11.1 = v12.1) && (decide (v11.2 = v12.2)))) then
 some (.inl false)
 else
 slices_Equal_Span_l0 k p5_0 p5_1 p5_2 (IntKind.wrap .i64 (p5_3 + 1))
 else none
 else none
 else none
 else none
 else
 some (.inr ())
noncomputable def slices_Equal_Span (k : Nat) (a0 : (List (Int × Int))) (a1 : (List (Int × Int))) : Option (Bool) :=
 bif (!(decide ((a0.length : Int) = (a1.length : Int)))) then
 some false
 else
 (slices_Equal_Span_l0 k a0 a1 (a0.length : Int) 0).bind fun y15 =>
 (match y15 with
 | .inl y16 =>
 some y16
 | .inr y17 =>
 some true)

noncomputable def roaring_Set_Same_d (k : Nat) (a0 : (Option ((List Int) × (List Cn)))) (a1 : (Option ((List Int) × (List Cn)))) : Option (Bool) :=
 (roaring_Set_Runs_d k a0).bind fun y1 =>
 (roaring_Set_Runs_d k a1).bind fun y2 =>
 (slices_Equal_Span k y1 y2).bind fun y3 =>
 some y3

noncomputable def isinglasslaw08_RoaringJoins_l1 : Nat → (List Cn) → (List (Int × Int)) → (List Int) → (List (List Int)) → (List Int) → Bool → Int → Int → Int → Int → Int → Option ((List Cn) × (List (Int × Int)) × (List Int) × (List (List Int)) × (List Int) × Bool × Int × Int)
 | 0, _, _, _, _, _, _, _, _, _, _, _ => none
 | k + 1, p22_0, p22_1, p22_2, p22_3, p22_4, p22_5, p22_6, p22_7, p22_8, p22_9, p22_10 =>
 bif (decide (p22_10 < p22_9)) then
 bif (decide (p22_6 < (p22_2.length : Int))) then
 bif decide ((0 : Int) ≤ p22_6) then
 bif decide (p22_6 < (p22_2.length : Int)) then
 bif decide ((0 : Int) ≤ p22_6) then
 bif decide (p22_6 < (p22_3.length : Int)) then
 let v72 := p22_3.getD (Int.toNat p22_6) []
 bif decide ((0 : Int) ≤ p22_10) then
 bif decide (p22_10 < (v72.length : Int)) then
 let v75 := IntKind.wrap .u64 ((IntKind.wrap .u64 ((IntKind.wrap .u64 (p22_2.getD (Int.toNat p22_6) (0 : Int))) * 65536)) + (IntKind.wrap .u64 (v72.getD (Int.toNat p22_10) (0 : Int))))
 bif (decide ((0 : Int) < (p22_1.length : Int))) then
 let v78 := IntKind.wrap .i64 ((p22_1.length : Int) - 1)
 bif decide ((0 : Int) ≤ v78) then
 bif decide (v78 < (p22_1.length : Int)) then
 bif (decide ((p22_1.getD (Int.toNat v78) ((0 : Int), (0 : Int))).2 = v75)) then
 let v81 := IntKind.wrap .i64 ((p22_1.length : Int) - 1)
 bif decide ((0 : Int) ≤ v81) then
 bif decide (v81 < (p22_1.length : Int)) then
 bif decide ((0 : Int) ≤ v81) then
 bif decide (v81 < (p22_1.length : Int)) then
 isinglasslaw08_RoaringJoins_l1 k p22_0 (p22_1.set (Int.toNat v81) (((p22_1.getD (Int.toNat v81) ((0 : Int), (0 : Int)))).1, (IntKind.wrap .u64 ((p22_1.getD (Int.toNat v81) ((0 : Int), (0 : Int))).2 + 1)))) p22_2 p22_3 p22_4 p22_5 p22_6 p22_7 p22_8 p22_9 (IntKind.wrap .i64 (p22_10 + 1))
 else none
 else none
 else none
 else none
 else
 let v86 := IntKind.wrap .u64 (v75 + 1)
 bif decide ((List.length p22_1 + List.length [(v75, v86)]) * 16 ≤ 140737488355328) then
 bif decide (List.length p22_1 + List.length [(v75, v86)] ≤ 140737488355328) then
 isinglasslaw08_RoaringJoins_l1 k p22_0 (p22_1 ++ [(v75, v86)]) p22_2 p22_3 p22_4 p22_5 p22_6 p22_7 p22_8 p22_9 (IntKind.wrap .i64 (p22_10 + 1))
 else none
 else none
 else none
 else none
 else
 let v89 := IntKind.wrap .u64 (v75 + 1)
 bif decide ((List.length p22_1 + List.length [(v75, v89)]) * 16 ≤ 140737488355328) then
 bif decide (List.length p22_1 + List.length [(v75, v89)] ≤ 140737488355328) then
 isinglasslaw08_RoaringJoins_l1 k p22_0 (p22_1 ++ [(v75, v89)]) p22_2 p22_3 p22_4 p22_5 p22_6 p22_7 p22_8 p22_9 (IntKind.wrap .i64 (p22_10 + 1))
 else none
 else none
 else none
 else none
 else none
 else none
 else none
 else none
 else
 isinglasslaw08_RoaringJoins_l1 k p22_0 p22_1 p22_2 p22_3 p22_4 p22_5 p22_6 p22_7 p22_8 p22_9 (IntKind.wrap .i64 (p22_10 + 1))
 else
 some (p22_0, p22_1, p22_2, p22_3, p22_4, p22_5, p22_7, p22_8)
noncomputable def isinglasslaw08_RoaringJoins_l0 : Nat → (List Cn) → (List (Int × Int)) → (List Int) → (List (List Int)) → (List Int) → Bool → Int → Int → Option ((Bool) ⊕ ((List Cn) × (List (Int × Int)) × (List Int) × Bool))
 | 0, _, _, _, _, _, _, _, _ => none
 | k + 1, p8_0, p8_1, p8_2, p8_3, p8_4, p8_5, p8_6, p8_7 =>
 bif (decide (p8_7 < p8_6)) then
 bif decide ((0 : Int) ≤ p8_7) then
 bif decide (p8_7 < (p8_3.length : Int)) then
 bif (decide ((2000 : Int) < ((p8_3.getD (Int.toNat p8_7) []).length : Int))) then
 (isinglasslaw08_known k).bind fun y213 =>
 some (.inl y213)
 else
 bif decide ((0 : Int) ≤ p8_7) then
 bif decide (p8_7 < (p8_3.length : Int)) then
 (container_OfArray k (p8_3.getD (Int.toNat p8_7) [])).bind fun y215 =>
 bif !y215.2 then
 (isinglasslaw08_known k).bind fun y216 =>
 some (.inl y216)
 else
 bif (decide (p8_7 < (p8_4.length : Int))) then
 bif decide ((0 : Int) ≤ p8_7) then
 bif decide (p8_7 < (p8_4.length : Int)) then
 bif (decide (((p8_4.getD (Int.toNat p8_7) (0 : Int)).tmod 3) = 1)) then
 (container_Container_Words k y215.1).bind fun y222 =>
 (container_OfWords k y222).bind fun y223 =>
 bif (decide (p8_7 < (p8_4.length : Int))) then
 bif decide ((0 : Int) ≤ p8_7) then
 bif decide (p8_7 < (p8_4.length : Int)) then
 bif (decide (((p8_4.getD (Int.toNat p8_7) (0 : Int)).tmod 3) = 2)) then
 (container_Container_Runs k y223.1).bind fun y229 =>
 (container_OfRuns k y229).bind fun y230 =>
 bif decide ((List.length p8_0 + List.length [y230.1]) * 80 ≤ 140737488355328) then
 bif decide (List.length p8_0 + List.length [y230.1] ≤ 140737488355328) then
 bif p8_5 then
 bif decide ((0 : Int) ≤ p8_7) then
 bif decide (p8_7 < (p8_3.length : Int)) then
 bif decide ((0 : Int) ≤ p8_7) then
 bif decide (p8_7 < (p8_3.length : Int)) then
 (isinglasslaw08_RoaringJoins_l1 k (p8_0 ++ [y230.1]) p8_1 p8_2 p8_3 p8_4 (decide ((0 : Int) < ((p8_3.getD (Int.toNat p8_7) []).length : Int))) p8_7 p8_6 p8_7 ((p8_3.getD (Int.toNat p8_7) []).length : Int) 0).bind fun y237 =>
 isinglasslaw08_RoaringJoins_l0 k y237.1 y237.2.1 y237.2.2.1 y237.2.2.2.1 y237.2.2.2.2.1 y237.2.2.2.2.2.1 y237.2.2.2.2.2.2.1 (IntKind.wrap .i64 (y237.2.2.2.2.2.2.2 + 1))
 else none
 else none
 else none
 else none
 else
 bif decide ((0 : Int) ≤ p8_7) then
 bif decide (p8_7 < (p8_3.length : Int)) then
 (isinglasslaw08_RoaringJoins_l1 k (p8_0 ++ [y230.1]) p8_1 p8_2 p8_3 p8_4 false p8_7 p8_6 p8_7 ((p8_3.getD (Int.toNat p8_7) []).length : Int) 0).bind fun y241 =>
 isinglasslaw08_RoaringJoins_l0 k y241.1 y241.2.1 y241.2.2.1 y241.2.2.2.1 y241.2.2.2.2.1 y241.2.2.2.2.2.1 y241.2.2.2.2.2.2.1 (IntKind.wrap .i64 (y241.2.2.2.2.2.2.2 + 1))
 else none
 else none
 else none
 else none
 else
 bif decide ((List.length p8_0 + List.length [y223.1]) * 80 ≤ 140737488355328) then
 bif decide (List.length p8_0 + List.length [y223.1] ≤ 140737488355328) then
 bif p8_5 then
 bif decide ((0 : Int) ≤ p8_7) then
 bif decide (p8_7 < (p8_3.length : Int)) then
 bif decide ((0 : Int) ≤ p8_7) then
 bif decide (p8_7 < (p8_3.length : Int)) then
 (isinglasslaw08_RoaringJoins_l1 k (p8_0 ++ [y223.1]) p8_1 p8_2 p8_3 p8_4 (decide ((0 : Int) < ((p8_3.getD (Int.toNat p8_7) []).length : Int))) p8_7 p8_6 p8_7 ((p8_3.getD (Int.toNat p8_7) []).length : Int) 0).bind fun y249 =>
 isinglasslaw08_RoaringJoins_l0 k y249.1 y249.2.1 y249.2.2.1 y249.2.2.2.1 y249.2.2.2.2.1 y249.2.2.2.2.2.1 y249.2.2.2.2.2.2.1 (IntKind.wrap .i64 (y249.2.2.2.2.2.2.2 + 1))
 else none
 else none
 else none
 else none
 else
 bif decide ((0 : Int) ≤ p8_7) then
 bif decide (p8_7 < (p8_3.length : Int)) then
 (isinglasslaw08_RoaringJoins_l1 k (p8_0 ++ [y223.1]) p8_1 p8_2 p8_3 p8_4 false p8_7 p8_6 p8_7 ((p8_3.getD (Int.toNat p8_7) []).length : Int) 0).bind fun y253 =>
 isinglasslaw08_RoaringJoins_l0 k y253.1 y253.2.1 y253.2.2.1 y253.2.2.2.1 y253.2.2.2.2.1 y253.2.2.2.2.2.1 y253.2.2.2.2.2.2.1 (IntKind.wrap .i64 (y253.2.2.2.2.2.2.2 + 1))
 else none
 else none
 else none
 else none
 else none
 else none
 else
 bif decide ((List.length p8_0 + List.length [y223.1]) * 80 ≤ 140737488355328) then
 bif decide (List.length p8_0 + List.length [y223.1] ≤ 140737488355328) then
 bif p8_5 then
 bif decide ((0 : Int) ≤ p8_7) then
 bif decide (p8_7 < (p8_3.length : Int)) then
 bif decide ((0 : Int) ≤ p8_7) then
 bif decide (p8_7 < (p8_3.length : Int)) then
 (isinglasslaw08_RoaringJoins_l1 k (p8_0 ++ [y223.1]) p8_1 p8_2 p8_3 p8_4 (decide ((0 : Int) < ((p8_3.getD (Int.toNat p8_7) []).length : Int))) p8_7 p8_6 p8_7 ((p8_3.getD (Int.toNat p8_7) []).length : Int) 0).bind fun y261 =>
 isinglasslaw08_RoaringJoins_l0 k y261.1 y261.2.1 y261.2.2.1 y261.2.2.2.1 y261.2.2.2.2.1 y261.2.2.2.2.2.1 y261.2.2.2.2.2.2.1 (IntKind.wrap .i64 (y261.2.2.2.2.2.2.2 + 1))
 else none
 else none
 else none
 else none
 else
 bif decide ((0 : Int) ≤ p8_7) then
 bif decide (p8_7 < (p8_3.length : Int)) then
 (isinglasslaw08_RoaringJoins_l1 k (p8_0 ++ [y223.1]) p8_1 p8_2 p8_3 p8_4 false p8_7 p8_6 p8_7 ((p8_3.getD (Int.toNat p8_7) []).length : Int) 0).bind fun y265 =>
 isinglasslaw08_RoaringJoins_l0 k y265.1 y265.2.1 y265.2.2.1 y265.2.2.2.1 y265.2.2.2.2.1 y265.2.2.2.2.2.1 y265.2.2.2.2.2.2.1 (IntKind.wrap .i64 (y265.2.2.2.2.2.2.2 + 1))
 else none
 else none
 else none
 else none
 else
 bif (decide (p8_7 < (p8_4.length : Int))) then
 bif decide ((0 : Int) ≤ p8_7) then
 bif decide (p8_7 < (p8_4.length : Int)) then
 bif (decide (((p8_4.getD (Int.toNat p8_7) (0 : Int)).tmod 3) = 2)) then
 (container_Container_Runs k y215.1).bind fun y272 =>
 (container_OfRuns k y272).bind fun y273 =>
 bif decide ((List.length p8_0 + List.length [y273.1]) * 80 ≤ 140737488355328) then
 bif decide (List.length p8_0 + List.length [y273.1] ≤ 140737488355328) then
 bif p8_5 then
 bif decide ((0 : Int) ≤ p8_7) then
 bif decide (p8_7 < (p8_3.length : Int)) then
 bif decide ((0 : Int) ≤ p8_7) then
 bif decide (p8_7 < (p8_3.length : Int)) then
 (isinglasslaw08_RoaringJoins_l1 k (p8_0 ++ [y273.1]) p8_1 p8_2 p8_3 p8_4 (decide ((0 : Int) < ((p8_3.getD (Int.toNat p8_7) []).length : Int))) p8_7 p8_6 p8_7 ((p8_3.getD (Int.toNat p8_7) []).length : Int) 0).bind fun y280 =>
 isinglasslaw08_RoaringJoins_l0 k y280.1 y280.2.1 y280.2.2.1 y280.2.2.2.1 y280.2.2.2.2.1 y280.2.2.2.2.2.1 y280.2.2.2.2.2.2.1 (IntKind.wrap .i64 (y280.2.2.2.2.2.2.2 + 1))
 else none
 else none
 else none
 else none
 else
 bif decide ((0 : Int) ≤ p8_7) then
 bif decide (p8_7 < (p8_3.length : Int)) then
 (isinglasslaw08_RoaringJoins_l1 k (p8_0 ++ [y273.1]) p8_1 p8_2 p8_3 p8_4 false p8_7 p8_6 p8_7 ((p8_3.getD (Int.toNat p8_7) []).length : Int) 0).bind fun y284 =>
 isinglasslaw08_RoaringJoins_l0 k y284.1 y284.2.1 y284.2.2.1 y284.2.2.2.1 y284.2.2.2.2.1 y284.2.2.2.2.2.1 y284.2.2.2.2.2.2.1 (IntKind.wrap .i64 (y284.2.2.2.2.2.2.2 + 1))
 else none
 else none
 else none
 else none
 else
 bif decide ((List.length p8_0 + List.length [y215.1]) * 80 ≤ 140737488355328) then
 bif decide (List.length p8_0 + List.length [y215.1] ≤ 140737488355328) then
 bif p8_5 then
 bif decide ((0 : Int) ≤ p8_7) then
 bif decide (p8_7 < (p8_3.length : Int)) then
 bif decide ((0 : Int) ≤ p8_7) then
 bif decide (p8_7 < (p8_3.length : Int)) then
 (isinglasslaw08_RoaringJoins_l1 k (p8_0 ++ [y215.1]) p8_1 p8_2 p8_3 p8_4 (decide ((0 : Int) < ((p8_3.getD (Int.toNat p8_7) []).length : Int))) p8_7 p8_6 p8_7 ((p8_3.getD (Int.toNat p8_7) []).length : Int) 0).bind fun y292 =>
 isinglasslaw08_RoaringJoins_l0 k y292.1 y292.2.1 y292.2.2.1 y292.2.2.2.1 y292.2.2.2.2.1 y292.2.2.2.2.2.1 y292.2.2.2.2.2.2.1 (IntKind.wrap .i64 (y292.2.2.2.2.2.2.2 + 1))
 else none
 else none
 else none
 else none
 else
 bif decide ((0 : Int) ≤ p8_7) then
 bif decide (p8_7 < (p8_3.length : Int)) then
 (isinglasslaw08_RoaringJoins_l1 k (p8_0 ++ [y215.1]) p8_1 p8_2 p8_3 p8_4 false p8_7 p8_6 p8_7 ((p8_3.getD (Int.toNat p8_7) []).length : Int) 0).bind fun y296 =>
 isinglasslaw08_RoaringJoins_l0 k y296.1 y296.2.1 y296.2.2.1 y296.2.2.2.1 y296.2.2.2.2.1 y296.2.2.2.2.2.1 y296.2.2.2.2.2.2.1 (IntKind.wrap .i64 (y296.2.2.2.2.2.2.2 + 1))
 else none
 else none
 else none
 else none
 else none
 else none
 else
 bif decide ((List.length p8_0 + List.length [y215.1]) * 80 ≤ 140737488355328) then
 bif decide (List.length p8_0 + List.length [y215.1] ≤ 140737488355328) then
 bif p8_5 then
 bif decide ((0 : Int) ≤ p8_7) then
 bif decide (p8_7 < (p8_3.length : Int)) then
 bif decide ((0 : Int) ≤ p8_7) then
 bif decide (p8_7 < (p8_3.length : Int)) then
 (isinglasslaw08_RoaringJoins_l1 k (p8_0 ++ [y215.1]) p8_1 p8_2 p8_3 p8_4 (decide ((0 : Int) < ((p8_3.getD (Int.toNat p8_7) []).length : Int))) p8_7 p8_6 p8_7 ((p8_3.getD (Int.toNat p8_7) []).length : Int) 0).bind fun y304 =>
 isinglasslaw08_RoaringJoins_l0 k y304.1 y304.2.1 y304.2.2.1 y304.2.2.2.1 y304.2.2.2.2.1 y304.2.2.2.2.2.1 y304.2.2.2.2.2.2.1 (IntKind.wrap .i64 (y304.2.2.2.2.2.2.2 + 1))
 else none
 else none
 else none
 else none
 else
 bif decide ((0 : Int) ≤ p8_7) then
 bif decide (p8_7 < (p8_3.length : Int)) then
 (isinglasslaw08_RoaringJoins_l1 k (p8_0 ++ [y215.1]) p8_1 p8_2 p8_3 p8_4 false p8_7 p8_6 p8_7 ((p8_3.getD (Int.toNat p8_7) []).length : Int) 0).bind fun y308 =>
 isinglasslaw08_RoaringJoins_l0 k y308.1 y308.2.1 y308.2.2.1 y308.2.2.2.1 y308.2.2.2.2.1 y308.2.2.2.2.2.1 y308.2.2.2.2.2.2.1 (IntKind.wrap .i64 (y308.2.2.2.2.2.2.2 + 1))
 else none
 else none
 else none
 else none
 else none
 else none
 else
 bif (decide (p8_7 < (p8_4.length : Int))) then
 bif decide ((0 : Int) ≤ p8_7) then
 bif decide (p8_7 < (p8_4.length : Int)) then
 bif (decide (((p8_4.getD (Int.toNat p8_7) (0 : Int)).tmod 3) = 2)) then
 (container_Container_Runs k y215.1).bind fun y315 =>
 (container_OfRuns k y315).bind fun y316 =>
 bif decide ((List.length p8_0 + List.length [y316.1]) * 80 ≤ 140737488355328) then
 bif decide (List.length p8_0 + List.length [y316.1] ≤ 140737488355328) then
 bif p8_5 then
 bif decide ((0 : Int) ≤ p8_7) then
 bif decide (p8_7 < (p8_3.length : Int)) then
 bif decide ((0 : Int) ≤ p8_7) then
 bif decide (p8_7 < (p8_3.length : Int)) then
 (isinglasslaw08_RoaringJoins_l1 k (p8_0 ++ [y316.1]) p8_1 p8_2 p8_3 p8_4 (decide ((0 : Int) < ((p8_3.getD (Int.toNat p8_7) []).length : Int))) p8_7 p8_6 p8_7 ((p8_3.getD (Int.toNat p8_7) []).length : Int) 0).bind fun y323 =>
 isinglasslaw08_RoaringJoins_l0 k y323.1 y323.2.1 y323.2.2.1 y323.2.2.2.1 y323.2.2.2.2.1 y323.2.2.2.2.2.1 y323.2.2.2.2.2.2.1 (IntKind.wrap .i64 (y323.2.2.2.2.2.2.2 + 1))
 else none
 else none
 else none
 else none
 else
 bif decide ((0 : Int) ≤ p8_7) then
 bif decide (p8_7 < (p8_3.length : Int)) then
 (isinglasslaw08_RoaringJoins_l1 k (p8_0 ++ [y316.1]) p8_1 p8_2 p8_3 p8_4 false p8_7 p8_6 p8_7 ((p8_3.getD (Int.toNat p8_7) []).length : Int) 0).bind fun y327 =>
 isinglasslaw08_RoaringJoins_l0 k y327.1 y327.2.1 y327.2.2.1 y327.2.2.2.1 y327.2.2.2.2.1 y327.2.2.2.2.2.1 y327.2.2.2.2.2.2.1 (IntKind.wrap .i64 (y327.2.2.2.2.2.2.2 + 1))
 else none
 else none
 else none
 else none
 else
 bif decide ((List.length p8_0 + List.length [y215.1]) * 80 ≤ 140737488355328) then
 bif decide (List.length p8_0 + List.length [y215.1] ≤ 140737488355328) then
 bif p8_5 then
 bif decide ((0 : Int) ≤ p8_7) then
 bif decide (p8_7 < (p8_3.length : Int)) then
 bif decide ((0 : Int) ≤ p8_7) then
 bif decide (p8_7 < (p8_3.length : Int)) then
 (isinglasslaw08_RoaringJoins_l1 k (p8_0 ++ [y215.1]) p8_1 p8_2 p8_3 p8_4 (decide ((0 : Int) < ((p8_3.getD (Int.toNat p8_7) []).length : Int))) p8_7 p8_6 p8_7 ((p8_3.getD (Int.toNat p8_7) []).length : Int) 0).bind fun y335 =>
 isinglasslaw08_RoaringJoins_l0 k y335.1 y335.2.1 y335.2.2.1 y335.2.2.2.1 y335.2.2.2.2.1 y335.2.2.2.2.2.1 y335.2.2.2.2.2.2.1 (IntKind.wrap .i64 (y335.2.2.2.2.2.2.2 + 1))
 else none
 else none
 else none
 else none
 else
 bif decide ((0 : Int) ≤ p8_7) then
 bif decide (p8_7 < (p8_3.length : Int)) then
 (isinglasslaw08_RoaringJoins_l1 k (p8_0 ++ [y215.1]) p8_1 p8_2 p8_3 p8_4 false p8_7 p8_6 p8_7 ((p8_3.getD (Int.toNat p8_7) []).length : Int) 0).bind fun y339 =>
 isinglasslaw08_RoaringJoins_l0 k y339.1 y339.2.1 y339.2.2.1 y339.2.2.2.1 y339.2.2.2.2.1 y339.2.2.2.2.2.1 y339.2.2.2.2.2.2.1 (IntKind.wrap .i64 (y339.2.2.2.2.2.2.2 + 1))
 else none
 else none
 else none
 else none
 else none
 else none
 else
 bif decide ((List.length p8_0 + List.length [y215.1]) * 80 ≤ 140737488355328) then
 bif decide (List.length p8_0 + List.length [y215.1] ≤ 140737488355328) then
 bif p8_5 then
 bif decide ((0 : Int) ≤ p8_7) then
 bif decide (p8_7 < (p8_3.length : Int)) then
 bif decide ((0 : Int) ≤ p8_7) then
 bif decide (p8_7 < (p8_3.length : Int)) then
 (isinglasslaw08_RoaringJoins_l1 k (p8_0 ++ [y215.1]) p8_1 p8_2 p8_3 p8_4 (decide ((0 : Int) < ((p8_3.getD (Int.toNat p8_7) []).length : Int))) p8_7 p8_6 p8_7 ((p8_3.getD (Int.toNat p8_7) []).length : Int) 0).bind fun y347 =>
 isinglasslaw08_RoaringJoins_l0 k y347.1 y347.2.1 y347.2.2.1 y347.2.2.2.1 y347.2.2.2.2.1 y347.2.2.2.2.2.1 y347.2.2.2.2.2.2.1 (IntKind.wrap .i64 (y347.2.2.2.2.2.2.2 + 1))
 else none
 else none
 else none
 else none
 else
 bif decide ((0 : Int) ≤ p8_7) then
 bif decide (p8_7 < (p8_3.length : Int)) then
 (isinglasslaw08_RoaringJoins_l1 k (p8_0 ++ [y215.1]) p8_1 p8_2 p8_3 p8_4 false p8_7 p8_6 p8_7 ((p8_3.getD (Int.toNat p8_7) []).length : Int) 0).bind fun y351 =>
 isinglasslaw08_RoaringJoins_l0 k y351.1 y351.2.1 y351.2.2.1 y351.2.2.2.1 y351.2.2.2.2.1 y351.2.2.2.2.2.1 y351.2.2.2.2.2.2.1 (IntKind.wrap .i64 (y351.2.2.2.2.2.2.2 + 1))
 else none
 else none
 else none
 else none
 else none
 else none
 else none
 else none
 else
 some (.inr (p8_0, p8_1, p8_2, p8_5))
noncomputable def isinglasslaw08_RoaringJoins_l2 : Nat → (List Cn) → (Option ((List Int) × (List Cn))) → Int → Int → Option ((List Cn) × (Option ((List Int) × (List Cn))))
 | 0, _, _, _, _ => none
 | k + 1, p39_0, p39_1, p39_2, p39_3 =>
 bif (decide (p39_3 < p39_2)) then
 (roaring_Set_At_d k p39_1 p39_3).bind fun y26 =>
 bif decide ((List.length p39_0 + List.length [y26.1]) * 80 ≤ 140737488355328) then
 bif decide (List.length p39_0 + List.length [y26.1] ≤ 140737488355328) then
 isinglasslaw08_RoaringJoins_l2 k (p39_0 ++ [y26.1]) p39_1 p39_2 (IntKind.wrap .i64 (p39_3 + 1))
 else none
 else none
 else
 some (p39_0, p39_1)
noncomputable def isinglasslaw08_RoaringJoins (k : Nat) (a0 : (List Int)) (a1 : (List (List Int))) (a2 : (List Int)) : Option (Bool) :=
 bif (decide ((10 : Int) < (a1.length : Int))) then
 (isinglasslaw08_known k).bind fun y3 =>
 some y3
 else
 bif (decide ((20 : Int) < (a0.length : Int))) then
 (isinglasslaw08_known k).bind fun y6 =>
 some y6
 else
 (isinglasslaw08_RoaringJoins_l0 k [] [] a0 a1 a2 (decide ((a0.length : Int) = (a1.length : Int))) (a1.length : Int) 0).bind fun y11 =>
 (match y11 with
 | .inl y12 =>
 some y12
 | .inr y13 =>
 (roaring_Join k y13.2.2.1 y13.1).bind fun y14 =>
 let j15 := fun (x16 : Bool) =>
 (bif x16 then
 bif (y14.1.isNone) then
 bif (decide (y14.2 = 2)) then
 (isinglasslaw08_known k).bind fun y19 =>
 some y19
 else
 some false
 else
 some false
 else
 bif (y14.1.isNone) then
 some false
 else
 bif (!(decide (y14.2 = 0))) then
 some false
 else
 (isinglasslaw08_is k y14.1 y13.2.1 0 70000 5).bind fun y22 =>
 bif !y22 then
 some false
 else
 (roaring_Set_Keys_d k y14.1).bind fun y23 =>
 (isinglasslaw08_RoaringJoins_l2 k [] y14.1 (y23.length : Int) 0).bind fun y25 =>
 (roaring_Set_Keys_d k y25.2).bind fun y26 =>
 (roaring_Join k y26 y25.1).bind fun y27 =>
 bif (decide (y27.2 = 0)) then
 (roaring_Set_Same_d k y27.1 y25.2).bind fun y29 =>
 bif y29 then
 (isinglasslaw08_known k).bind fun y30 =>
 some y30
 else
 some false
 else
 some false)
 bif !y13.2.2.2 then
 j15 true
 else
 (isinglassref04_May k y13.2.2.1).bind fun y31 =>
 j15 (!y31))
end Go.Rx.Tryz

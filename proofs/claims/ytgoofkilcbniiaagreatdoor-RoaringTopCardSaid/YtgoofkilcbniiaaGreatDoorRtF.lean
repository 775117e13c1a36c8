/- Printed by gen.py: the pure functions. -/
import Derived.Test.YtgoofkilcbniiaaGreatDoorRxA
namespace Go.Rx.Tryz
set_option linter.unusedVariables false
/- the table, hidden from the kernel -/
theorem deBruijn_is : ∃ l : List Int, l = [0, 1, 56, 2, 57, 49, 28, 3, 61, 58, 42, 50, 38, 29, 17, 4, 62, 47, 59, 36, 45, 43, 51, 22, 53, 39, 33, 30, 24, 18, 12, 5, 63, 55, 48, 27, 60, 41, 37, 16, 46, 35, 44, 21, 52, 32, 23, 11, 54, 26, 40, 15, 34, 20, 31, 10, 25, 14, 19, 9, 13, 8, 7, 6] := ⟨_, rfl⟩
noncomputable def deBruijn64 : List Int := Classical.choose deBruijn_is
theorem deBruijn_eq : deBruijn64 = [0, 1, 56, 2, 57, 49, 28, 3, 61, 58, 42, 50, 38, 29, 17, 4, 62, 47, 59, 36, 45, 43, 51, 22, 53, 39, 33, 30, 24, 18, 12, 5, 63, 55, 48, 27, 60, 41, 37, 16, 46, 35, 44, 21, 52, 32, 23, 11, 54, 26, 40, 15, 34, 20, 31, 10, 25, 14, 19, 9, 13, 8, 7, 6] := Classical.choose_spec deBruijn_is
def str0 : ByteArray := (ByteArray.mk (List.toArray (List.append (List.append [0, 1, 2, 2, 3, 3, 3, 3, 4, 4, 4, 4, 4, 4, 4, 4, 5, 5, 5, 5, 5, 5, 5, 5, 5, 5, 5, 5, 5, 5, 5, 5, 6, 6, 6, 6, 6, 6, 6, 6, 6, 6, 6, 6, 6, 6, 6, 6, 6, 6, 6, 6, 6, 6, 6, 6, 6, 6, 6, 6, 6, 6, 6, 6] [7, 7, 7, 7, 7, 7, 7, 7, 7, 7, 7, 7, 7, 7, 7, 7, 7, 7, 7, 7, 7, 7, 7, 7, 7, 7, 7, 7, 7, 7, 7, 7, 7, 7, 7, 7, 7, 7, 7, 7, 7, 7, 7, 7, 7, 7, 7, 7, 7, 7, 7, 7, 7, 7, 7, 7, 7, 7, 7, 7, 7, 7, 7, 7]) (List.append [8, 8, 8, 8, 8, 8, 8, 8, 8, 8, 8, 8, 8, 8, 8, 8, 8, 8, 8, 8, 8, 8, 8, 8, 8, 8, 8, 8, 8, 8, 8, 8, 8, 8, 8, 8, 8, 8, 8, 8, 8, 8, 8, 8, 8, 8, 8, 8, 8, 8, 8, 8, 8, 8, 8, 8, 8, 8, 8, 8, 8, 8, 8, 8] [8, 8, 8, 8, 8, 8, 8, 8, 8, 8, 8, 8, 8, 8, 8, 8, 8, 8, 8, 8, 8, 8, 8, 8, 8, 8, 8, 8, 8, 8, 8, 8, 8, 8, 8, 8, 8, 8, 8, 8, 8, 8, 8, 8, 8, 8, 8, 8, 8, 8, 8, 8, 8, 8, 8, 8, 8, 8, 8, 8, 8, 8, 8, 8]))))
noncomputable def roaring_New (k : Nat) : Option ((List Int) × (List (Int × ((List Int) × ((List Int) × (List (Int × Int))))))) :=
 some ([], [])

noncomputable def cmp_isNaN_uint16 (k : Nat) (a0 : Int) : Option (Bool) :=
 some (!(decide (a0 = a0)))

noncomputable def cmp_Less_uint16 (k : Nat) (a0 : Int) (a1 : Int) : Option (Bool) :=
 (cmp_isNaN_uint16 k a0).bind fun y1 =>
 bif y1 then
 (cmp_isNaN_uint16 k a1).bind fun y2 =>
 bif !y2 then
 some true
 else
 some (decide (a0 < a1))
 else
 some (decide (a0 < a1))

noncomputable def slices_isNaN_uint16 (k : Nat) (a0 : Int) : Option (Bool) :=
 some (!(decide (a0 = a0)))

noncomputable def slices_BinarySearch_uint16_w_l0 : Nat → (List Int) → Int → Int → Int → Int → Option ((List Int) × Int × Int × Int)
 | 0, _, _, _, _, _ => none
 | k + 1, p4_0, p4_1, p4_2, p4_3, p4_4 =>
 bif (decide (p4_3 < p4_4)) then
 let v11 := IntKind.wrap .i64 (p4_3 + p4_4)
 bif decide ((0 : Int) ≤ (IntKind.wrap .i64 (shrI .u64 (IntKind.wrap .u64 v11) 1))) then
 bif decide ((IntKind.wrap .i64 (shrI .u64 (IntKind.wrap .u64 v11) 1)) < (p4_0.length : Int)) then
 (cmp_Less_uint16 k (p4_0.getD (Int.toNat (IntKind.wrap .i64 (shrI .u64 (IntKind.wrap .u64 v11) 1))) (0 : Int)) p4_1).bind fun y16 =>
 bif y16 then
 slices_BinarySearch_uint16_w_l0 k p4_0 p4_1 p4_2 (IntKind.wrap .i64 ((IntKind.wrap .i64 (shrI .u64 (IntKind.wrap .u64 v11) 1)) + 1)) p4_4
 else
 slices_BinarySearch_uint16_w_l0 k p4_0 p4_1 p4_2 p4_3 (IntKind.wrap .i64 (shrI .u64 (IntKind.wrap .u64 v11) 1))
 else none
 else none
 else
 some (p4_0, p4_1, p4_2, p4_3)
noncomputable def slices_BinarySearch_uint16_w (k : Nat) (a0 : (List Int)) (a1 : Int) : Option ((List Int) × Int × Bool) :=
 (slices_BinarySearch_uint16_w_l0 k a0 a1 (a0.length : Int) 0 (a0.length : Int)).bind fun y18 =>
 bif (decide (y18.2.2.2 < y18.2.2.1)) then
 bif decide ((0 : Int) ≤ y18.2.2.2) then
 bif decide (y18.2.2.2 < (y18.1.length : Int)) then
 bif (decide ((y18.1.getD (Int.toNat y18.2.2.2) (0 : Int)) = y18.2.1)) then
 some (y18.1, y18.2.2.2, true)
 else
 bif decide ((0 : Int) ≤ y18.2.2.2) then
 bif decide (y18.2.2.2 < (y18.1.length : Int)) then
 (slices_isNaN_uint16 k (y18.1.getD (Int.toNat y18.2.2.2) (0 : Int))).bind fun y23 =>
 bif y23 then
 (slices_isNaN_uint16 k y18.2.1).bind fun y24 =>
 some (y18.1, y18.2.2.2, y24)
 else
 some (y18.1, y18.2.2.2, false)
 else none
 else none
 else none
 else none
 else
 some (y18.1, y18.2.2.2, false)

noncomputable def roaring_Set_find (k : Nat) (a0 : (List Int)) (a1 : (List (Int × ((List Int) × ((List Int) × (List (Int × Int))))))) (a2 : Int) : Option ((List Int) × (List (Int × ((List Int) × ((List Int) × (List (Int × Int)))))) × Int × Bool) :=
 (slices_BinarySearch_uint16_w k a0 a2).bind fun y1 =>
 some (y1.1, a1, y1.2.1, y1.2.2)

noncomputable def roaring_Set_get (k : Nat) (a0 : (List Int)) (a1 : (List (Int × ((List Int) × ((List Int) × (List (Int × Int))))))) (a2 : Int) : Option ((List Int) × (List (Int × ((List Int) × ((List Int) × (List (Int × Int)))))) × (Int × ((List Int) × ((List Int) × (List (Int × Int)))))) :=
 (roaring_Set_find k a0 a1 a2).bind fun y1 =>
 bif y1.2.2.2 then
 bif decide ((0 : Int) ≤ y1.2.2.1) then
 bif decide (y1.2.2.1 < (y1.2.1.length : Int)) then
 some (y1.1, y1.2.1, (y1.2.1.getD (Int.toNat y1.2.2.1) ((0 : Int), ([], ([], [])))))
 else none
 else none
 else
 some (y1.1, y1.2.1, (0, ([], ([], []))))

noncomputable def words_Flip_l0 : Nat → (List Int) → Int → Int → Int → Option ((List Int))
 | 0, _, _, _, _ => none
 | k + 1, p6_0, p6_1, p6_2, p6_3 =>
 bif (decide (p6_3 < 1024)) then
 let v23 := IntKind.wrap .i64 (64 * p6_3)
 let v26 := IntKind.wrap .i64 ((IntKind.wrap .i64 (64 * p6_3)) + 64)
 bif (decide ((max p6_1 v23) < (min p6_2 v26))) then
 bif decide ((0 : Int) ≤ p6_3) then
 bif decide (p6_3 < (p6_0.length : Int)) then
 let v31 := IntKind.wrap .i64 (64 - (IntKind.wrap .i64 ((min p6_2 v26) - (max p6_1 v23))))
 bif !(decide (v31 < 0)) then
 let v34 := IntKind.wrap .i64 ((max p6_1 v23) - (IntKind.wrap .i64 (64 * p6_3)))
 bif !(decide (v34 < 0)) then
 bif decide ((0 : Int) ≤ p6_3) then
 bif decide (p6_3 < (p6_0.length : Int)) then
 words_Flip_l0 k (p6_0.set (Int.toNat p6_3) (bitsI .xor .u64 (p6_0.getD (Int.toNat p6_3) (0 : Int)) (shlI .u64 (shrI .u64 18446744073709551615 v31) v34))) p6_1 p6_2 (IntKind.wrap .i64 (p6_3 + 1))
 else none
 else none
 else none
 else none
 else none
 else none
 else
 words_Flip_l0 k p6_0 p6_1 p6_2 (IntKind.wrap .i64 (p6_3 + 1))
 else
 some p6_0
noncomputable def words_Flip (k : Nat) (a0 : (List Int)) (a1 : Int) (a2 : Int) : Option ((List Int)) :=
 bif decide (1024 ≤ 1024) then
 bif decide (0 < List.length (List.replicate (Int.toNat 1024) (0 : Int))) then
 (words_Flip_l0 k (List.take (List.length (List.replicate (Int.toNat 1024) (0 : Int))) a0 ++ List.drop (List.length a0) (List.replicate (Int.toNat 1024) (0 : Int))) (max a1 0) (min a2 65536) 0).bind fun y40 =>
 some y40
 else none
 else none

noncomputable def container_Container_Kind (k : Nat) (a0 : (Int × ((List Int) × ((List Int) × (List (Int × Int)))))) : Option (Int) :=
 some (max a0.1 1)

noncomputable def container_Container_arrayLen (k : Nat) (a0 : (Int × ((List Int) × ((List Int) × (List (Int × Int)))))) : Option (Int) :=
 some (a0.2.1.length : Int)

noncomputable def math_bits_OnesCount64 (k : Nat) (a0 : Int) : Option (Int) :=
 let v4 := IntKind.wrap .u64 ((bitsI .and .u64 (shrI .u64 a0 1) 6148914691236517205) + (bitsI .and .u64 a0 6148914691236517205))
 let v8 := IntKind.wrap .u64 ((bitsI .and .u64 (shrI .u64 v4 2) 3689348814741910323) + (bitsI .and .u64 v4 3689348814741910323))
 let v11 := bitsI .and .u64 (IntKind.wrap .u64 ((shrI .u64 v8 4) + v8)) 1085102592571150095
 let v13 := IntKind.wrap .u64 (v11 + (shrI .u64 v11 8))
 let v15 := IntKind.wrap .u64 (v13 + (shrI .u64 v13 16))
 some (bitsI .and .i64 (IntKind.wrap .i64 (IntKind.wrap .u64 (v15 + (shrI .u64 v15 32)))) 127)

noncomputable def words_Len_l0 : Nat → Int → (List Int) → Int → Int → Option (Int)
 | 0, _, _, _, _ => none
 | k + 1, p4_0, p4_1, p4_2, p4_3 =>
 bif (decide (p4_3 < p4_2)) then
 bif decide ((0 : Int) ≤ p4_3) then
 bif decide (p4_3 < (p4_1.length : Int)) then
 (math_bits_OnesCount64 k (p4_1.getD (Int.toNat p4_3) (0 : Int))).bind fun y9 =>
 words_Len_l0 k (IntKind.wrap .i64 (p4_0 + y9)) p4_1 p4_2 (IntKind.wrap .i64 (p4_3 + 1))
 else none
 else none
 else
 some p4_0
noncomputable def words_Len (k : Nat) (a0 : (List Int)) : Option (Int) :=
 (words_Len_l0 k 0 a0 (a0.length : Int) 0).bind fun y12 =>
 some y12

noncomputable def container_Container_wordsLen (k : Nat) (a0 : (Int × ((List Int) × ((List Int) × (List (Int × Int)))))) : Option (Int) :=
 (words_Len k a0.2.2.1).bind fun y1 =>
 some y1

noncomputable def runs_Len_l0 : Nat → Int → (List (Int × Int)) → Int → Int → Option (Int)
 | 0, _, _, _, _ => none
 | k + 1, p4_0, p4_1, p4_2, p4_3 =>
 bif (decide (p4_3 < p4_2)) then
 bif decide ((0 : Int) ≤ p4_3) then
 bif decide (p4_3 < (p4_1.length : Int)) then
 runs_Len_l0 k (IntKind.wrap .i64 (p4_0 + (IntKind.wrap .i64 ((IntKind.wrap .i64 (p4_1.getD (Int.toNat p4_3) ((0 : Int), (0 : Int))).2) + 1)))) p4_1 p4_2 (IntKind.wrap .i64 (p4_3 + 1))
 else none
 else none
 else
 some p4_0
noncomputable def runs_Len (k : Nat) (a0 : (List (Int × Int))) : Option (Int) :=
 (runs_Len_l0 k 0 a0 (a0.length : Int) 0).bind fun y14 =>
 some y14

noncomputable def container_Container_runsLen (k : Nat) (a0 : (Int × ((List Int) × ((List Int) × (List (Int × Int)))))) : Option (Int) :=
 (runs_Len k a0.2.2.2).bind fun y1 =>
 some y1

noncomputable def container_Container_Len (k : Nat) (a0 : (Int × ((List Int) × ((List Int) × (List (Int × Int)))))) : Option (Int) :=
 (container_Container_Kind k a0).bind fun y1 =>
 bif decide (y1 = 0) then
 none
 else
 bif decide (y1 = 1) then
 (container_Container_arrayLen k a0).bind fun y2 =>
 some y2
 else
 bif decide (y1 = 2) then
 (container_Container_wordsLen k a0).bind fun y3 =>
 some y3
 else
 bif decide (y1 = 3) then
 (container_Container_runsLen k a0).bind fun y4 =>
 some y4
 else
 none

noncomputable def words_Runs_l0 : Nat → Int → Int → (List Int) → Int → Int → Option (Int)
 | 0, _, _, _, _, _ => none
 | k + 1, p4_0, p4_1, p4_2, p4_3, p4_4 =>
 bif (decide (p4_4 < p4_3)) then
 bif decide ((0 : Int) ≤ p4_4) then
 bif decide (p4_4 < (p4_2.length : Int)) then
 let v12 := p4_2.getD (Int.toNat p4_4) (0 : Int)
 (math_bits_OnesCount64 k (bitsI .andNot .u64 v12 (bitsI .or .u64 (shlI .u64 v12 1) p4_1))).bind fun y16 =>
 words_Runs_l0 k (IntKind.wrap .i64 (p4_0 + y16)) (shrI .u64 v12 63) p4_2 p4_3 (IntKind.wrap .i64 (p4_4 + 1))
 else none
 else none
 else
 some p4_0
noncomputable def words_Runs (k : Nat) (a0 : (List Int)) : Option (Int) :=
 (words_Runs_l0 k 0 0 a0 (a0.length : Int) 0).bind fun y20 =>
 some y20

noncomputable def arrays_Runs_l0 : Nat → (List Int) → Int → (List Int) → Int → Int → Option (Int)
 | 0, _, _, _, _, _ => none
 | k + 1, p4_0, p4_1, p4_2, p4_3, p4_4 =>
 bif (decide (p4_4 < p4_3)) then
 bif decide ((0 : Int) ≤ p4_4) then
 bif decide (p4_4 < (p4_2.length : Int)) then
 bif (decide (p4_4 = 0)) then
 arrays_Runs_l0 k p4_0 (IntKind.wrap .i64 (p4_1 + 1)) p4_2 p4_3 (IntKind.wrap .i64 (p4_4 + 1))
 else
 let v19 := IntKind.wrap .i64 (p4_4 - 1)
 bif decide ((0 : Int) ≤ v19) then
 bif decide (v19 < (p4_0.length : Int)) then
 bif (!(decide ((p4_2.getD (Int.toNat p4_4) (0 : Int)) = (IntKind.wrap .u16 ((p4_0.getD (Int.toNat v19) (0 : Int)) + 1))))) then
 arrays_Runs_l0 k p4_0 (IntKind.wrap .i64 (p4_1 + 1)) p4_2 p4_3 (IntKind.wrap .i64 (p4_4 + 1))
 else
 arrays_Runs_l0 k p4_0 p4_1 p4_2 p4_3 (IntKind.wrap .i64 (p4_4 + 1))
 else none
 else none
 else none
 else none
 else
 some p4_1
noncomputable def arrays_Runs (k : Nat) (a0 : (List Int)) : Option (Int) :=
 (arrays_Runs_l0 k a0 0 a0 (a0.length : Int) 0).bind fun y26 =>
 some y26

noncomputable def container_Container_many (k : Nat) (a0 : (Int × ((List Int) × ((List Int) × (List (Int × Int)))))) : Option (Int) :=
 bif (decide (a0.1 = 2)) then
 (words_Runs k a0.2.2.1).bind fun y2 =>
 some y2
 else
 bif (decide (a0.1 = 3)) then
 some (a0.2.2.2.length : Int)
 else
 (arrays_Runs k a0.2.1).bind fun y5 =>
 some y5

noncomputable def slices_Clone_Run (k : Nat) (a0 : (List (Int × Int))) : Option ((List (Int × Int))) :=
 match a0 with
 | [] => some []
 | x :: l =>
 bif decide ((List.length ([] : List (Int × Int)) + List.length (x :: l)) * 4 ≤ 140737488355328) then
 bif decide (List.length ([] : List (Int × Int)) + List.length (x :: l) ≤ 140737488355328) then
 some (([] : List (Int × Int)) ++ (x :: l))
 else none
 else none

noncomputable def math_bits_TrailingZeros64 (k : Nat) (a0 : Int) : Option (Int) :=
 bif (decide (a0 = 0)) then
 some 64
 else
 let v4 := IntKind.wrap .u64 ((bitsI .and .u64 a0 (IntKind.wrap .u64 (0 - a0))) * 285870213051353865)
 bif Nat.beq 64 (List.length deBruijn64) then
 bif decide ((0 : Int) ≤ (shrI .u64 v4 58)) then
 bif decide ((shrI .u64 v4 58) < 64) then
 some (IntKind.wrap .i64 (deBruijn64.getD (Int.toNat (shrI .u64 v4 58)) (0 : Int)))
 else none
 else none
 else none

noncomputable def words_List_l1 : Nat → (List Int) → (List Int) → Int → Int → Int → Int → Option ((List Int) × (List Int) × Int × Int)
 | 0, _, _, _, _, _, _ => none
 | k + 1, p7_0, p7_1, p7_2, p7_3, p7_4, p7_5 =>
 bif (!(decide (p7_3 = 0))) then
 (math_bits_TrailingZeros64 k p7_3).bind fun y15 =>
 let v16 := IntKind.wrap .i64 ((IntKind.wrap .i64 (64 * p7_2)) + y15)
 bif decide ((List.length p7_0 + List.length [(IntKind.wrap .u16 v16)]) * 2 ≤ 140737488355328) then
 bif decide (List.length p7_0 + List.length [(IntKind.wrap .u16 v16)] ≤ 140737488355328) then
 words_List_l1 k (p7_0 ++ [(IntKind.wrap .u16 v16)]) p7_1 p7_2 (bitsI .and .u64 p7_3 (IntKind.wrap .u64 (p7_3 - 1))) p7_4 p7_5
 else none
 else none
 else
 some (p7_0, p7_1, p7_4, p7_5)
noncomputable def words_List_l0 : Nat → (List Int) → (List Int) → Int → Int → Option ((List Int))
 | 0, _, _, _, _ => none
 | k + 1, p4_0, p4_1, p4_2, p4_3 =>
 bif (decide (p4_3 < p4_2)) then
 bif decide ((0 : Int) ≤ p4_3) then
 bif decide (p4_3 < (p4_1.length : Int)) then
 (words_List_l1 k p4_0 p4_1 p4_3 (p4_1.getD (Int.toNat p4_3) (0 : Int)) p4_2 p4_3).bind fun y25 =>
 words_List_l0 k y25.1 y25.2.1 y25.2.2.1 (IntKind.wrap .i64 (y25.2.2.2 + 1))
 else none
 else none
 else
 some p4_0
noncomputable def words_List (k : Nat) (a0 : (List Int)) : Option ((List Int)) :=
 (words_List_l0 k [] a0 (min (a0.length : Int) 1024) 0).bind fun y27 =>
 some y27

noncomputable def runs_end (k : Nat) (a0 : (Int × Int)) : Option (Int) :=
 some (IntKind.wrap .i64 ((IntKind.wrap .i64 ((IntKind.wrap .i64 a0.1) + (IntKind.wrap .i64 a0.2))) + 1))

noncomputable def runs_List_l1 : Nat → (List Int) → Int → Int → Int → (List (Int × Int)) → Int → Int → Option ((List Int) × (List (Int × Int)) × Int × Int)
 | 0, _, _, _, _, _, _, _ => none
 | k + 1, p7_0, p7_1, p7_2, p7_3, p7_4, p7_5, p7_6 =>
 (runs_end k (p7_1, p7_2)).bind fun y11 =>
 bif (decide (p7_3 < (min y11 65536))) then
 bif decide ((List.length p7_0 + List.length [(IntKind.wrap .u16 p7_3)]) * 2 ≤ 140737488355328) then
 bif decide (List.length p7_0 + List.length [(IntKind.wrap .u16 p7_3)] ≤ 140737488355328) then
 runs_List_l1 k (p7_0 ++ [(IntKind.wrap .u16 p7_3)]) p7_1 p7_2 (IntKind.wrap .i64 (p7_3 + 1)) p7_4 p7_5 p7_6
 else none
 else none
 else
 some (p7_0, p7_4, p7_5, p7_6)
noncomputable def runs_List_l0 : Nat → (List Int) → (List (Int × Int)) → Int → Int → Option ((List Int))
 | 0, _, _, _, _ => none
 | k + 1, p4_0, p4_1, p4_2, p4_3 =>
 bif (decide (p4_3 < p4_2)) then
 bif decide ((0 : Int) ≤ p4_3) then
 bif decide (p4_3 < (p4_1.length : Int)) then
 let v20 := p4_1.getD (Int.toNat p4_3) ((0 : Int), (0 : Int))
 (runs_List_l1 k p4_0 v20.1 v20.2 (IntKind.wrap .i64 v20.1) p4_1 p4_2 p4_3).bind fun y22 =>
 runs_List_l0 k y22.1 y22.2.1 y22.2.2.1 (IntKind.wrap .i64 (y22.2.2.2 + 1))
 else none
 else none
 else
 some p4_0
noncomputable def runs_List (k : Nat) (a0 : (List (Int × Int))) : Option ((List Int)) :=
 (runs_List_l0 k [] a0 (a0.length : Int) 0).bind fun y24 =>
 some y24

noncomputable def slices_Clone_uint16 (k : Nat) (a0 : (List Int)) : Option ((List Int)) :=
 match a0 with
 | [] => some []
 | x :: l =>
 bif decide ((List.length ([] : List Int) + List.length (x :: l)) * 2 ≤ 140737488355328) then
 bif decide (List.length ([] : List Int) + List.length (x :: l) ≤ 140737488355328) then
 some (([] : List Int) ++ (x :: l))
 else none
 else none

noncomputable def container_Container_Array (k : Nat) (a0 : (Int × ((List Int) × ((List Int) × (List (Int × Int)))))) : Option ((List Int)) :=
 bif (decide (a0.1 = 2)) then
 (words_List k a0.2.2.1).bind fun y2 =>
 some y2
 else
 bif (decide (a0.1 = 3)) then
 (runs_List k a0.2.2.2).bind fun y4 =>
 some y4
 else
 (slices_Clone_uint16 k a0.2.1).bind fun y5 =>
 some y5

noncomputable def runs_Of_l0 : Nat → (List (Int × Int)) → (List Int) → (List Int) → Int → Int → Option ((List (Int × Int)))
 | 0, _, _, _, _, _ => none
 | k + 1, p4_0, p4_1, p4_2, p4_3, p4_4 =>
 bif (decide (p4_4 < p4_3)) then
 bif decide ((0 : Int) ≤ p4_4) then
 bif decide (p4_4 < (p4_2.length : Int)) then
 let v20 := p4_2.getD (Int.toNat p4_4) (0 : Int)
 bif (decide ((0 : Int) < p4_4)) then
 let v22 := IntKind.wrap .i64 (p4_4 - 1)
 bif decide ((0 : Int) ≤ v22) then
 bif decide (v22 < (p4_1.length : Int)) then
 bif (decide (v20 = (IntKind.wrap .u16 ((p4_1.getD (Int.toNat v22) (0 : Int)) + 1)))) then
 let v27 := IntKind.wrap .i64 ((p4_0.length : Int) - 1)
 bif decide ((0 : Int) ≤ v27) then
 bif decide (v27 < (p4_0.length : Int)) then
 bif decide ((0 : Int) ≤ v27) then
 bif decide (v27 < (p4_0.length : Int)) then
 runs_Of_l0 k (p4_0.set (Int.toNat v27) (((p4_0.getD (Int.toNat v27) ((0 : Int), (0 : Int)))).1, (IntKind.wrap .u16 ((p4_0.getD (Int.toNat v27) ((0 : Int), (0 : Int))).2 + 1)))) p4_1 p4_2 p4_3 (IntKind.wrap .i64 (p4_4 + 1))
 else none
 else none
 else none
 else none
 else
 bif decide ((List.length p4_0 + List.length [(v20, 0)]) * 4 ≤ 140737488355328) then
 bif decide (List.length p4_0 + List.length [(v20, 0)] ≤ 140737488355328) then
 runs_Of_l0 k (p4_0 ++ [(v20, 0)]) p4_1 p4_2 p4_3 (IntKind.wrap .i64 (p4_4 + 1))
 else none
 else none
 else none
 else none
 else
 bif decide ((List.length p4_0 + List.length [(v20, 0)]) * 4 ≤ 140737488355328) then
 bif decide (List.length p4_0 + List.length [(v20, 0)] ≤ 140737488355328) then
 runs_Of_l0 k (p4_0 ++ [(v20, 0)]) p4_1 p4_2 p4_3 (IntKind.wrap .i64 (p4_4 + 1))
 else none
 else none
 else none
 else none
 else
 some p4_0
noncomputable def runs_Of (k : Nat) (a0 : (List Int)) : Option ((List (Int × Int))) :=
 (runs_Of_l0 k [] a0 a0 (a0.length : Int) 0).bind fun y36 =>
 some y36

noncomputable def container_Container_Runs (k : Nat) (a0 : (Int × ((List Int) × ((List Int) × (List (Int × Int)))))) : Option ((List (Int × Int))) :=
 bif (decide (a0.1 = 3)) then
 (slices_Clone_Run k a0.2.2.2).bind fun y2 =>
 some y2
 else
 (container_Container_Array k a0).bind fun y3 =>
 (runs_Of k y3).bind fun y4 =>
 some y4

noncomputable def slices_Clone_uint64 (k : Nat) (a0 : (List Int)) : Option ((List Int)) :=
 match a0 with
 | [] => some []
 | x :: l =>
 bif decide ((List.length ([] : List Int) + List.length (x :: l)) * 8 ≤ 140737488355328) then
 bif decide (List.length ([] : List Int) + List.length (x :: l) ≤ 140737488355328) then
 some (([] : List Int) ++ (x :: l))
 else none
 else none

noncomputable def words_Of_l0 : Nat → (List Int) → (List Int) → Int → Int → Option ((List Int))
 | 0, _, _, _, _ => none
 | k + 1, p4_0, p4_1, p4_2, p4_3 =>
 bif (decide (p4_3 < p4_2)) then
 bif decide ((0 : Int) ≤ p4_3) then
 bif decide (p4_3 < (p4_1.length : Int)) then
 let v12 := p4_1.getD (Int.toNat p4_3) (0 : Int)
 let v13 := IntKind.wrap .u16 (v12.tdiv 64)
 bif decide ((0 : Int) ≤ v13) then
 bif decide (v13 < (p4_0.length : Int)) then
 bif !(decide ((v12.tmod 64) < 0)) then
 bif decide ((0 : Int) ≤ v13) then
 bif decide (v13 < (p4_0.length : Int)) then
 words_Of_l0 k (p4_0.set (Int.toNat v13) (bitsI .or .u64 (p4_0.getD (Int.toNat v13) (0 : Int)) (shlI .u64 1 (v12.tmod 64)))) p4_1 p4_2 (IntKind.wrap .i64 (p4_3 + 1))
 else none
 else none
 else none
 else none
 else none
 else none
 else none
 else
 some p4_0
noncomputable def words_Of (k : Nat) (a0 : (List Int)) : Option ((List Int)) :=
 bif decide (1024 ≤ 1024) then
 (words_Of_l0 k (List.replicate (Int.toNat 1024) (0 : Int)) a0 (a0.length : Int) 0).bind fun y20 =>
 some y20
 else none

noncomputable def container_Container_Words_l1 : Nat → (List Int) → Int → Int → Int → (List (Int × Int)) → Int → Int → Option ((List Int) × (List (Int × Int)) × Int × Int)
 | 0, _, _, _, _, _, _, _ => none
 | k + 1, p11_0, p11_1, p11_2, p11_3, p11_4, p11_5, p11_6 =>
 bif (decide (p11_3 ≤ (IntKind.wrap .i64 ((IntKind.wrap .i64 p11_1) + (IntKind.wrap .i64 p11_2))))) then
 let v24 := IntKind.wrap .i64 (p11_3.tdiv 64)
 bif decide ((0 : Int) ≤ v24) then
 bif decide (v24 < (p11_0.length : Int)) then
 bif !(decide ((p11_3.tmod 64) < 0)) then
 bif decide ((0 : Int) ≤ v24) then
 bif decide (v24 < (p11_0.length : Int)) then
 container_Container_Words_l1 k (p11_0.set (Int.toNat v24) (bitsI .or .u64 (p11_0.getD (Int.toNat v24) (0 : Int)) (shlI .u64 1 (p11_3.tmod 64)))) p11_1 p11_2 (IntKind.wrap .i64 (p11_3 + 1)) p11_4 p11_5 p11_6
 else none
 else none
 else none
 else none
 else none
 else
 some (p11_0, p11_4, p11_5, p11_6)
noncomputable def container_Container_Words_l0 : Nat → (List Int) → (List (Int × Int)) → Int → Int → Option ((List Int))
 | 0, _, _, _, _ => none
 | k + 1, p8_0, p8_1, p8_2, p8_3 =>
 bif (decide (p8_3 < p8_2)) then
 bif decide ((0 : Int) ≤ p8_3) then
 bif decide (p8_3 < (p8_1.length : Int)) then
 let v34 := p8_1.getD (Int.toNat p8_3) ((0 : Int), (0 : Int))
 (container_Container_Words_l1 k p8_0 v34.1 v34.2 (IntKind.wrap .i64 v34.1) p8_1 p8_2 p8_3).bind fun y36 =>
 container_Container_Words_l0 k y36.1 y36.2.1 y36.2.2.1 (IntKind.wrap .i64 (y36.2.2.2 + 1))
 else none
 else none
 else
 some p8_0
noncomputable def container_Container_Words (k : Nat) (a0 : (Int × ((List Int) × ((List Int) × (List (Int × Int)))))) : Option ((List Int)) :=
 bif (decide (a0.1 = 2)) then
 (slices_Clone_uint64 k a0.2.2.1).bind fun y2 =>
 some y2
 else
 bif (decide (a0.1 = 3)) then
 (words_Of k []).bind fun y4 =>
 (container_Container_Words_l0 k y4 a0.2.2.2 (a0.2.2.2.length : Int) 0).bind fun y38 =>
 some y38
 else
 (words_Of k a0.2.1).bind fun y39 =>
 some y39

noncomputable def container_Container_Canonical (k : Nat) (a0 : (Int × ((List Int) × ((List Int) × (List (Int × Int)))))) : Option ((Int × ((List Int) × ((List Int) × (List (Int × Int)))))) :=
 (container_Container_Len k a0).bind fun y1 =>
 (container_Container_many k a0).bind fun y2 =>
 bif (decide (y1 ≤ 4096)) then
 bif (decide ((IntKind.wrap .i64 (2 + (IntKind.wrap .i64 (4 * y2)))) < (IntKind.wrap .i64 (2 * y1)))) then
 (container_Container_Kind k a0).bind fun y8 =>
 bif (decide ((3 : Int) = y8)) then
 some a0
 else
 (container_Container_Runs k a0).bind fun y10 =>
 some (3, ([], ([], y10)))
 else
 bif (decide (y1 ≤ 4096)) then
 (container_Container_Kind k a0).bind fun y12 =>
 bif (decide ((1 : Int) = y12)) then
 some a0
 else
 (container_Container_Array k a0).bind fun y14 =>
 some (1, (y14, ([], [])))
 else
 (container_Container_Kind k a0).bind fun y15 =>
 bif (decide ((2 : Int) = y15)) then
 some a0
 else
 (container_Container_Words k a0).bind fun y17 =>
 some (2, ([], (y17, [])))
 else
 bif (decide ((IntKind.wrap .i64 (2 + (IntKind.wrap .i64 (4 * y2)))) < 8192)) then
 (container_Container_Kind k a0).bind fun y21 =>
 bif (decide ((3 : Int) = y21)) then
 some a0
 else
 (container_Container_Runs k a0).bind fun y23 =>
 some (3, ([], ([], y23)))
 else
 bif (decide (y1 ≤ 4096)) then
 (container_Container_Kind k a0).bind fun y25 =>
 bif (decide ((1 : Int) = y25)) then
 some a0
 else
 (container_Container_Array k a0).bind fun y27 =>
 some (1, (y27, ([], [])))
 else
 (container_Container_Kind k a0).bind fun y28 =>
 bif (decide ((2 : Int) = y28)) then
 some a0
 else
 (container_Container_Words k a0).bind fun y30 =>
 some (2, ([], (y30, [])))

noncomputable def runs_row_l0 : Nat → (List Int) → (List (Int × Int)) → Int → Int → Option ((List Int))
 | 0, _, _, _, _ => none
 | k + 1, p4_0, p4_1, p4_2, p4_3 =>
 bif (decide (p4_3 < p4_2)) then
 bif decide ((0 : Int) ≤ p4_3) then
 bif decide (p4_3 < (p4_1.length : Int)) then
 let v9 := p4_1.getD (Int.toNat p4_3) ((0 : Int), (0 : Int))
 (runs_end k v9).bind fun y11 =>
 bif decide ((List.length p4_0 + List.length [(IntKind.wrap .i64 v9.1), y11]) * 8 ≤ 140737488355328) then
 bif decide (List.length p4_0 + List.length [(IntKind.wrap .i64 v9.1), y11] ≤ 140737488355328) then
 runs_row_l0 k (p4_0 ++ [(IntKind.wrap .i64 v9.1), y11]) p4_1 p4_2 (IntKind.wrap .i64 (p4_3 + 1))
 else none
 else none
 else none
 else none
 else
 some p4_0
noncomputable def runs_row (k : Nat) (a0 : (List (Int × Int))) : Option ((List Int)) :=
 (runs_row_l0 k [] a0 (a0.length : Int) 0).bind fun y14 =>
 some y14

noncomputable def runs_Flip_1 (k : Nat) (a0 : Bool) (a1 : Bool) : Option (Bool) :=
 some (!(a0 == a1))

noncomputable def runs_edges_Flip_1_l1 : Nat → (List (Int × Int)) → (List Int) → (List Int) → Bool → Int → Int → Int → Int → Option ((List (Int × Int)) × (List Int) × (List Int) × Bool × Int × Int × Int × Int)
 | 0, _, _, _, _, _, _, _, _ => none
 | k + 1, p11_0, p11_1, p11_2, p11_3, p11_4, p11_5, p11_6, p11_7 =>
 bif (decide (p11_5 < (p11_1.length : Int))) then
 bif decide ((0 : Int) ≤ p11_5) then
 bif decide (p11_5 < (p11_1.length : Int)) then
 bif (decide ((p11_1.getD (Int.toNat p11_5) (0 : Int)) ≤ p11_7)) then
 runs_edges_Flip_1_l1 k p11_0 p11_1 p11_2 p11_3 p11_4 (IntKind.wrap .i64 (p11_5 + 1)) p11_6 p11_7
 else
 some (p11_0, p11_1, p11_2, p11_3, p11_4, p11_5, p11_6, p11_7)
 else none
 else none
 else
 some (p11_0, p11_1, p11_2, p11_3, p11_4, p11_5, p11_6, p11_7)
noncomputable def runs_edges_Flip_1_l2 : Nat → (List (Int × Int)) → (List Int) → (List Int) → Bool → Int → Int → Int → Int → Option ((List (Int × Int)) × (List Int) × (List Int) × Bool × Int × Int × Int × Int)
 | 0, _, _, _, _, _, _, _, _ => none
 | k + 1, p13_0, p13_1, p13_2, p13_3, p13_4, p13_5, p13_6, p13_7 =>
 bif (decide (p13_6 < (p13_2.length : Int))) then
 bif decide ((0 : Int) ≤ p13_6) then
 bif decide (p13_6 < (p13_2.length : Int)) then
 bif (decide ((p13_2.getD (Int.toNat p13_6) (0 : Int)) ≤ p13_7)) then
 runs_edges_Flip_1_l2 k p13_0 p13_1 p13_2 p13_3 p13_4 p13_5 (IntKind.wrap .i64 (p13_6 + 1)) p13_7
 else
 some (p13_0, p13_1, p13_2, p13_3, p13_4, p13_5, p13_6, p13_7)
 else none
 else none
 else
 some (p13_0, p13_1, p13_2, p13_3, p13_4, p13_5, p13_6, p13_7)
noncomputable def runs_edges_Flip_1_l0 : Nat → (List (Int × Int)) → (List Int) → (List Int) → Bool → Int → Int → Int → Option ((List (Int × Int)))
 | 0, _, _, _, _, _, _, _ => none
 | k + 1, p5_0, p5_1, p5_2, p5_3, p5_4, p5_5, p5_6 =>
 bif (decide (p5_5 < (p5_1.length : Int))) then
 bif (decide (p5_5 < (p5_1.length : Int))) then
 bif decide ((0 : Int) ≤ p5_5) then
 bif decide (p5_5 < (p5_1.length : Int)) then
 let v155 := p5_1.getD (Int.toNat p5_5) (0 : Int)
 bif (decide (p5_6 < (p5_2.length : Int))) then
 bif decide ((0 : Int) ≤ p5_6) then
 bif decide (p5_6 < (p5_2.length : Int)) then
 (runs_edges_Flip_1_l1 k p5_0 p5_1 p5_2 p5_3 p5_4 p5_5 p5_6 (min v155 (p5_2.getD (Int.toNat p5_6) (0 : Int)))).bind fun y160 =>
 (runs_edges_Flip_1_l2 k y160.1 y160.2.1 y160.2.2.1 y160.2.2.2.1 y160.2.2.2.2.1 y160.2.2.2.2.2.1 y160.2.2.2.2.2.2.1 y160.2.2.2.2.2.2.2).bind fun y161 =>
 (runs_Flip_1 k (decide ((y161.2.2.2.2.2.1.tmod 2) = 1)) (decide ((y161.2.2.2.2.2.2.1.tmod 2) = 1))).bind fun y166 =>
 bif (y166 == y161.2.2.2.1) then
 runs_edges_Flip_1_l0 k y161.1 y161.2.1 y161.2.2.1 y161.2.2.2.1 y161.2.2.2.2.1 y161.2.2.2.2.2.1 y161.2.2.2.2.2.2.1
 else
 bif y161.2.2.2.1 then
 let v168 := IntKind.wrap .u16 y161.2.2.2.2.1
 let v170 := IntKind.wrap .i64 ((IntKind.wrap .i64 (y161.2.2.2.2.2.2.2 - y161.2.2.2.2.1)) - 1)
 bif decide ((List.length y161.1 + List.length [(v168, (IntKind.wrap .u16 v170))]) * 4 ≤ 140737488355328) then
 bif decide (List.length y161.1 + List.length [(v168, (IntKind.wrap .u16 v170))] ≤ 140737488355328) then
 runs_edges_Flip_1_l0 k (y161.1 ++ [(v168, (IntKind.wrap .u16 v170))]) y161.2.1 y161.2.2.1 y166 y161.2.2.2.2.2.2.2 y161.2.2.2.2.2.1 y161.2.2.2.2.2.2.1
 else none
 else none
 else
 runs_edges_Flip_1_l0 k y161.1 y161.2.1 y161.2.2.1 y166 y161.2.2.2.2.2.2.2 y161.2.2.2.2.2.1 y161.2.2.2.2.2.2.1
 else none
 else none
 else
 (runs_edges_Flip_1_l1 k p5_0 p5_1 p5_2 p5_3 p5_4 p5_5 p5_6 v155).bind fun y173 =>
 (runs_edges_Flip_1_l2 k y173.1 y173.2.1 y173.2.2.1 y173.2.2.2.1 y173.2.2.2.2.1 y173.2.2.2.2.2.1 y173.2.2.2.2.2.2.1 y173.2.2.2.2.2.2.2).bind fun y174 =>
 (runs_Flip_1 k (decide ((y174.2.2.2.2.2.1.tmod 2) = 1)) (decide ((y174.2.2.2.2.2.2.1.tmod 2) = 1))).bind fun y179 =>
 bif (y179 == y174.2.2.2.1) then
 runs_edges_Flip_1_l0 k y174.1 y174.2.1 y174.2.2.1 y174.2.2.2.1 y174.2.2.2.2.1 y174.2.2.2.2.2.1 y174.2.2.2.2.2.2.1
 else
 bif y174.2.2.2.1 then
 let v181 := IntKind.wrap .u16 y174.2.2.2.2.1
 let v183 := IntKind.wrap .i64 ((IntKind.wrap .i64 (y174.2.2.2.2.2.2.2 - y174.2.2.2.2.1)) - 1)
 bif decide ((List.length y174.1 + List.length [(v181, (IntKind.wrap .u16 v183))]) * 4 ≤ 140737488355328) then
 bif decide (List.length y174.1 + List.length [(v181, (IntKind.wrap .u16 v183))] ≤ 140737488355328) then
 runs_edges_Flip_1_l0 k (y174.1 ++ [(v181, (IntKind.wrap .u16 v183))]) y174.2.1 y174.2.2.1 y179 y174.2.2.2.2.2.2.2 y174.2.2.2.2.2.1 y174.2.2.2.2.2.2.1
 else none
 else none
 else
 runs_edges_Flip_1_l0 k y174.1 y174.2.1 y174.2.2.1 y179 y174.2.2.2.2.2.2.2 y174.2.2.2.2.2.1 y174.2.2.2.2.2.2.1
 else none
 else none
 else
 bif (decide (p5_6 < (p5_2.length : Int))) then
 bif decide ((0 : Int) ≤ p5_6) then
 bif decide (p5_6 < (p5_2.length : Int)) then
 (runs_edges_Flip_1_l1 k p5_0 p5_1 p5_2 p5_3 p5_4 p5_5 p5_6 (min 65537 (p5_2.getD (Int.toNat p5_6) (0 : Int)))).bind fun y190 =>
 (runs_edges_Flip_1_l2 k y190.1 y190.2.1 y190.2.2.1 y190.2.2.2.1 y190.2.2.2.2.1 y190.2.2.2.2.2.1 y190.2.2.2.2.2.2.1 y190.2.2.2.2.2.2.2).bind fun y191 =>
 (runs_Flip_1 k (decide ((y191.2.2.2.2.2.1.tmod 2) = 1)) (decide ((y191.2.2.2.2.2.2.1.tmod 2) = 1))).bind fun y196 =>
 bif (y196 == y191.2.2.2.1) then
 runs_edges_Flip_1_l0 k y191.1 y191.2.1 y191.2.2.1 y191.2.2.2.1 y191.2.2.2.2.1 y191.2.2.2.2.2.1 y191.2.2.2.2.2.2.1
 else
 bif y191.2.2.2.1 then
 let v198 := IntKind.wrap .u16 y191.2.2.2.2.1
 let v200 := IntKind.wrap .i64 ((IntKind.wrap .i64 (y191.2.2.2.2.2.2.2 - y191.2.2.2.2.1)) - 1)
 bif decide ((List.length y191.1 + List.length [(v198, (IntKind.wrap .u16 v200))]) * 4 ≤ 140737488355328) then
 bif decide (List.length y191.1 + List.length [(v198, (IntKind.wrap .u16 v200))] ≤ 140737488355328) then
 runs_edges_Flip_1_l0 k (y191.1 ++ [(v198, (IntKind.wrap .u16 v200))]) y191.2.1 y191.2.2.1 y196 y191.2.2.2.2.2.2.2 y191.2.2.2.2.2.1 y191.2.2.2.2.2.2.1
 else none
 else none
 else
 runs_edges_Flip_1_l0 k y191.1 y191.2.1 y191.2.2.1 y196 y191.2.2.2.2.2.2.2 y191.2.2.2.2.2.1 y191.2.2.2.2.2.2.1
 else none
 else none
 else
 (runs_edges_Flip_1_l1 k p5_0 p5_1 p5_2 p5_3 p5_4 p5_5 p5_6 65537).bind fun y203 =>
 (runs_edges_Flip_1_l2 k y203.1 y203.2.1 y203.2.2.1 y203.2.2.2.1 y203.2.2.2.2.1 y203.2.2.2.2.2.1 y203.2.2.2.2.2.2.1 y203.2.2.2.2.2.2.2).bind fun y204 =>
 (runs_Flip_1 k (decide ((y204.2.2.2.2.2.1.tmod 2) = 1)) (decide ((y204.2.2.2.2.2.2.1.tmod 2) = 1))).bind fun y209 =>
 bif (y209 == y204.2.2.2.1) then
 runs_edges_Flip_1_l0 k y204.1 y204.2.1 y204.2.2.1 y204.2.2.2.1 y204.2.2.2.2.1 y204.2.2.2.2.2.1 y204.2.2.2.2.2.2.1
 else
 bif y204.2.2.2.1 then
 let v211 := IntKind.wrap .u16 y204.2.2.2.2.1
 let v213 := IntKind.wrap .i64 ((IntKind.wrap .i64 (y204.2.2.2.2.2.2.2 - y204.2.2.2.2.1)) - 1)
 bif decide ((List.length y204.1 + List.length [(v211, (IntKind.wrap .u16 v213))]) * 4 ≤ 140737488355328) then
 bif decide (List.length y204.1 + List.length [(v211, (IntKind.wrap .u16 v213))] ≤ 140737488355328) then
 runs_edges_Flip_1_l0 k (y204.1 ++ [(v211, (IntKind.wrap .u16 v213))]) y204.2.1 y204.2.2.1 y209 y204.2.2.2.2.2.2.2 y204.2.2.2.2.2.1 y204.2.2.2.2.2.2.1
 else none
 else none
 else
 runs_edges_Flip_1_l0 k y204.1 y204.2.1 y204.2.2.1 y209 y204.2.2.2.2.2.2.2 y204.2.2.2.2.2.1 y204.2.2.2.2.2.2.1
 else
 bif (decide (p5_6 < (p5_2.length : Int))) then
 bif (decide (p5_5 < (p5_1.length : Int))) then
 bif decide ((0 : Int) ≤ p5_5) then
 bif decide (p5_5 < (p5_1.length : Int)) then
 let v220 := p5_1.getD (Int.toNat p5_5) (0 : Int)
 bif (decide (p5_6 < (p5_2.length : Int))) then
 bif decide ((0 : Int) ≤ p5_6) then
 bif decide (p5_6 < (p5_2.length : Int)) then
 (runs_edges_Flip_1_l1 k p5_0 p5_1 p5_2 p5_3 p5_4 p5_5 p5_6 (min v220 (p5_2.getD (Int.toNat p5_6) (0 : Int)))).bind fun y225 =>
 (runs_edges_Flip_1_l2 k y225.1 y225.2.1 y225.2.2.1 y225.2.2.2.1 y225.2.2.2.2.1 y225.2.2.2.2.2.1 y225.2.2.2.2.2.2.1 y225.2.2.2.2.2.2.2).bind fun y226 =>
 (runs_Flip_1 k (decide ((y226.2.2.2.2.2.1.tmod 2) = 1)) (decide ((y226.2.2.2.2.2.2.1.tmod 2) = 1))).bind fun y231 =>
 bif (y231 == y226.2.2.2.1) then
 runs_edges_Flip_1_l0 k y226.1 y226.2.1 y226.2.2.1 y226.2.2.2.1 y226.2.2.2.2.1 y226.2.2.2.2.2.1 y226.2.2.2.2.2.2.1
 else
 bif y226.2.2.2.1 then
 let v233 := IntKind.wrap .u16 y226.2.2.2.2.1
 let v235 := IntKind.wrap .i64 ((IntKind.wrap .i64 (y226.2.2.2.2.2.2.2 - y226.2.2.2.2.1)) - 1)
 bif decide ((List.length y226.1 + List.length [(v233, (IntKind.wrap .u16 v235))]) * 4 ≤ 140737488355328) then
 bif decide (List.length y226.1 + List.length [(v233, (IntKind.wrap .u16 v235))] ≤ 140737488355328) then
 runs_edges_Flip_1_l0 k (y226.1 ++ [(v233, (IntKind.wrap .u16 v235))]) y226.2.1 y226.2.2.1 y231 y226.2.2.2.2.2.2.2 y226.2.2.2.2.2.1 y226.2.2.2.2.2.2.1
 else none
 else none
 else
 runs_edges_Flip_1_l0 k y226.1 y226.2.1 y226.2.2.1 y231 y226.2.2.2.2.2.2.2 y226.2.2.2.2.2.1 y226.2.2.2.2.2.2.1
 else none
 else none
 else
 (runs_edges_Flip_1_l1 k p5_0 p5_1 p5_2 p5_3 p5_4 p5_5 p5_6 v220).bind fun y238 =>
 (runs_edges_Flip_1_l2 k y238.1 y238.2.1 y238.2.2.1 y238.2.2.2.1 y238.2.2.2.2.1 y238.2.2.2.2.2.1 y238.2.2.2.2.2.2.1 y238.2.2.2.2.2.2.2).bind fun y239 =>
 (runs_Flip_1 k (decide ((y239.2.2.2.2.2.1.tmod 2) = 1)) (decide ((y239.2.2.2.2.2.2.1.tmod 2) = 1))).bind fun y244 =>
 bif (y244 == y239.2.2.2.1) then
 runs_edges_Flip_1_l0 k y239.1 y239.2.1 y239.2.2.1 y239.2.2.2.1 y239.2.2.2.2.1 y239.2.2.2.2.2.1 y239.2.2.2.2.2.2.1
 else
 bif y239.2.2.2.1 then
 let v246 := IntKind.wrap .u16 y239.2.2.2.2.1
 let v248 := IntKind.wrap .i64 ((IntKind.wrap .i64 (y239.2.2.2.2.2.2.2 - y239.2.2.2.2.1)) - 1)
 bif decide ((List.length y239.1 + List.length [(v246, (IntKind.wrap .u16 v248))]) * 4 ≤ 140737488355328) then
 bif decide (List.length y239.1 + List.length [(v246, (IntKind.wrap .u16 v248))] ≤ 140737488355328) then
 runs_edges_Flip_1_l0 k (y239.1 ++ [(v246, (IntKind.wrap .u16 v248))]) y239.2.1 y239.2.2.1 y244 y239.2.2.2.2.2.2.2 y239.2.2.2.2.2.1 y239.2.2.2.2.2.2.1
 else none
 else none
 else
 runs_edges_Flip_1_l0 k y239.1 y239.2.1 y239.2.2.1 y244 y239.2.2.2.2.2.2.2 y239.2.2.2.2.2.1 y239.2.2.2.2.2.2.1
 else none
 else none
 else
 bif (decide (p5_6 < (p5_2.length : Int))) then
 bif decide ((0 : Int) ≤ p5_6) then
 bif decide (p5_6 < (p5_2.length : Int)) then
 (runs_edges_Flip_1_l1 k p5_0 p5_1 p5_2 p5_3 p5_4 p5_5 p5_6 (min 65537 (p5_2.getD (Int.toNat p5_6) (0 : Int)))).bind fun y255 =>
 (runs_edges_Flip_1_l2 k y255.1 y255.2.1 y255.2.2.1 y255.2.2.2.1 y255.2.2.2.2.1 y255.2.2.2.2.2.1 y255.2.2.2.2.2.2.1 y255.2.2.2.2.2.2.2).bind fun y256 =>
 (runs_Flip_1 k (decide ((y256.2.2.2.2.2.1.tmod 2) = 1)) (decide ((y256.2.2.2.2.2.2.1.tmod 2) = 1))).bind fun y261 =>
 bif (y261 == y256.2.2.2.1) then
 runs_edges_Flip_1_l0 k y256.1 y256.2.1 y256.2.2.1 y256.2.2.2.1 y256.2.2.2.2.1 y256.2.2.2.2.2.1 y256.2.2.2.2.2.2.1
 else
 bif y256.2.2.2.1 then
 let v263 := IntKind.wrap .u16 y256.2.2.2.2.1
 let v265 := IntKind.wrap .i64 ((IntKind.wrap .i64 (y256.2.2.2.2.2.2.2 - y256.2.2.2.2.1)) - 1)
 bif decide ((List.length y256.1 + List.length [(v263, (IntKind.wrap .u16 v265))]) * 4 ≤ 140737488355328) then
 bif decide (List.length y256.1 + List.length [(v263, (IntKind.wrap .u16 v265))] ≤ 140737488355328) then
 runs_edges_Flip_1_l0 k (y256.1 ++ [(v263, (IntKind.wrap .u16 v265))]) y256.2.1 y256.2.2.1 y261 y256.2.2.2.2.2.2.2 y256.2.2.2.2.2.1 y256.2.2.2.2.2.2.1
 else none
 else none
 else
 runs_edges_Flip_1_l0 k y256.1 y256.2.1 y256.2.2.1 y261 y256.2.2.2.2.2.2.2 y256.2.2.2.2.2.1 y256.2.2.2.2.2.2.1
 else none
 else none
 else
 (runs_edges_Flip_1_l1 k p5_0 p5_1 p5_2 p5_3 p5_4 p5_5 p5_6 65537).bind fun y268 =>
 (runs_edges_Flip_1_l2 k y268.1 y268.2.1 y268.2.2.1 y268.2.2.2.1 y268.2.2.2.2.1 y268.2.2.2.2.2.1 y268.2.2.2.2.2.2.1 y268.2.2.2.2.2.2.2).bind fun y269 =>
 (runs_Flip_1 k (decide ((y269.2.2.2.2.2.1.tmod 2) = 1)) (decide ((y269.2.2.2.2.2.2.1.tmod 2) = 1))).bind fun y274 =>
 bif (y274 == y269.2.2.2.1) then
 runs_edges_Flip_1_l0 k y269.1 y269.2.1 y269.2.2.1 y269.2.2.2.1 y269.2.2.2.2.1 y269.2.2.2.2.2.1 y269.2.2.2.2.2.2.1
 else
 bif y269.2.2.2.1 then
 let v276 := IntKind.wrap .u16 y269.2.2.2.2.1
 let v278 := IntKind.wrap .i64 ((IntKind.wrap .i64 (y269.2.2.2.2.2.2.2 - y269.2.2.2.2.1)) - 1)
 bif decide ((List.length y269.1 + List.length [(v276, (IntKind.wrap .u16 v278))]) * 4 ≤ 140737488355328) then
 bif decide (List.length y269.1 + List.length [(v276, (IntKind.wrap .u16 v278))] ≤ 140737488355328) then
 runs_edges_Flip_1_l0 k (y269.1 ++ [(v276, (IntKind.wrap .u16 v278))]) y269.2.1 y269.2.2.1 y274 y269.2.2.2.2.2.2.2 y269.2.2.2.2.2.1 y269.2.2.2.2.2.2.1
 else none
 else none
 else
 runs_edges_Flip_1_l0 k y269.1 y269.2.1 y269.2.2.1 y274 y269.2.2.2.2.2.2.2 y269.2.2.2.2.2.1 y269.2.2.2.2.2.2.1
 else
 some p5_0
noncomputable def runs_edges_Flip_1 (k : Nat) (a0 : (List Int)) (a1 : (List Int)) : Option ((List (Int × Int))) :=
 (runs_edges_Flip_1_l0 k [] a0 a1 false 0 0 0).bind fun y281 =>
 some y281

noncomputable def runs_Flip (k : Nat) (a0 : (List (Int × Int))) (a1 : Int) (a2 : Int) : Option ((List (Int × Int))) :=
 bif (decide ((min a2 65536) ≤ (max a1 0))) then
 (slices_Clone_Run k a0).bind fun y4 =>
 some y4
 else
 (runs_row k a0).bind fun y5 =>
 (runs_edges_Flip_1 k y5 [(max a1 0), (min a2 65536)]).bind fun y6 =>
 some y6

noncomputable def container_Container_Flip (k : Nat) (a0 : (Int × ((List Int) × ((List Int) × (List (Int × Int)))))) (a1 : Int) (a2 : Int) : Option ((Int × ((List Int) × ((List Int) × (List (Int × Int)))))) :=
 bif (decide (a0.1 = 2)) then
 (words_Flip k a0.2.2.1 a1 a2).bind fun y2 =>
 (container_Container_Canonical k (2, ([], (y2, [])))).bind fun y3 =>
 some y3
 else
 (container_Container_Runs k a0).bind fun y4 =>
 (runs_Flip k y4 a1 a2).bind fun y5 =>
 (container_Container_Canonical k (3, ([], ([], y5)))).bind fun y6 =>
 some y6

noncomputable def arrays_Or_1 (k : Nat) (a0 : Bool) (a1 : Bool) : Option (Bool) :=
 some true

noncomputable def arrays_merge_Or_1_l0 : Nat → (List Int) → (List Int) → (List Int) → Option ((List Int))
 | 0, _, _, _ => none
 | k + 1, p3_0, p3_1, p3_2 =>
 bif (decide ((0 : Int) < (p3_1.length : Int))) then
 bif (decide ((p3_2.length : Int) = 0)) then
 bif (decide ((p3_1.length : Int) = 0)) then
 bif decide ((0 : Int) < (p3_1.length : Int)) then
 bif decide ((1 : Int) ≤ (p3_1.length : Int)) then
 bif decide ((0 : Int) < (p3_2.length : Int)) then
 let v189 := p3_2.getD (Int.toNat 0) (0 : Int)
 bif decide ((1 : Int) ≤ (p3_2.length : Int)) then
 (arrays_Or_1 k true true).bind fun y191 =>
 bif y191 then
 bif decide ((List.length p3_0 + List.length [v189]) * 2 ≤ 140737488355328) then
 bif decide (List.length p3_0 + List.length [v189] ≤ 140737488355328) then
 arrays_merge_Or_1_l0 k (p3_0 ++ [v189]) (p3_1.drop (Int.toNat 1)) (p3_2.drop (Int.toNat 1))
 else none
 else none
 else
 arrays_merge_Or_1_l0 k p3_0 (p3_1.drop (Int.toNat 1)) (p3_2.drop (Int.toNat 1))
 else none
 else none
 else none
 else none
 else
 bif (decide ((0 : Int) < (p3_2.length : Int))) then
 bif decide ((0 : Int) < (p3_2.length : Int)) then
 let v195 := p3_2.getD (Int.toNat 0) (0 : Int)
 bif decide ((0 : Int) < (p3_1.length : Int)) then
 let v196 := p3_1.getD (Int.toNat 0) (0 : Int)
 bif decide ((0 : Int) < (p3_1.length : Int)) then
 let v198 := p3_1.getD (Int.toNat 0) (0 : Int)
 bif decide ((1 : Int) ≤ (p3_1.length : Int)) then
 bif (decide (v195 ≤ v196)) then
 bif decide ((0 : Int) < (p3_2.length : Int)) then
 let v200 := p3_2.getD (Int.toNat 0) (0 : Int)
 bif decide ((1 : Int) ≤ (p3_2.length : Int)) then
 (arrays_Or_1 k true (decide (v195 ≤ v196))).bind fun y202 =>
 bif y202 then
 bif decide ((List.length p3_0 + List.length [v200]) * 2 ≤ 140737488355328) then
 bif decide (List.length p3_0 + List.length [v200] ≤ 140737488355328) then
 arrays_merge_Or_1_l0 k (p3_0 ++ [v200]) (p3_1.drop (Int.toNat 1)) (p3_2.drop (Int.toNat 1))
 else none
 else none
 else
 arrays_merge_Or_1_l0 k p3_0 (p3_1.drop (Int.toNat 1)) (p3_2.drop (Int.toNat 1))
 else none
 else none
 else
 (arrays_Or_1 k true (decide (v195 ≤ v196))).bind fun y204 =>
 bif y204 then
 bif decide ((List.length p3_0 + List.length [v198]) * 2 ≤ 140737488355328) then
 bif decide (List.length p3_0 + List.length [v198] ≤ 140737488355328) then
 arrays_merge_Or_1_l0 k (p3_0 ++ [v198]) (p3_1.drop (Int.toNat 1)) p3_2
 else none
 else none
 else
 arrays_merge_Or_1_l0 k p3_0 (p3_1.drop (Int.toNat 1)) p3_2
 else none
 else none
 else none
 else none
 else
 bif decide ((0 : Int) < (p3_1.length : Int)) then
 let v206 := p3_1.getD (Int.toNat 0) (0 : Int)
 bif decide ((1 : Int) ≤ (p3_1.length : Int)) then
 (arrays_Or_1 k true false).bind fun y208 =>
 bif y208 then
 bif decide ((List.length p3_0 + List.length [v206]) * 2 ≤ 140737488355328) then
 bif decide (List.length p3_0 + List.length [v206] ≤ 140737488355328) then
 arrays_merge_Or_1_l0 k (p3_0 ++ [v206]) (p3_1.drop (Int.toNat 1)) p3_2
 else none
 else none
 else
 arrays_merge_Or_1_l0 k p3_0 (p3_1.drop (Int.toNat 1)) p3_2
 else none
 else none
 else
 bif (decide ((0 : Int) < (p3_1.length : Int))) then
 bif decide ((0 : Int) < (p3_1.length : Int)) then
 let v212 := p3_1.getD (Int.toNat 0) (0 : Int)
 bif decide ((0 : Int) < (p3_2.length : Int)) then
 let v213 := p3_2.getD (Int.toNat 0) (0 : Int)
 bif (decide ((p3_1.length : Int) = 0)) then
 bif (decide (v212 ≤ v213)) then
 bif decide ((0 : Int) < (p3_1.length : Int)) then
 bif decide ((1 : Int) ≤ (p3_1.length : Int)) then
 bif decide ((0 : Int) < (p3_2.length : Int)) then
 let v219 := p3_2.getD (Int.toNat 0) (0 : Int)
 bif decide ((1 : Int) ≤ (p3_2.length : Int)) then
 (arrays_Or_1 k (decide (v212 ≤ v213)) true).bind fun y221 =>
 bif y221 then
 bif decide ((List.length p3_0 + List.length [v219]) * 2 ≤ 140737488355328) then
 bif decide (List.length p3_0 + List.length [v219] ≤ 140737488355328) then
 arrays_merge_Or_1_l0 k (p3_0 ++ [v219]) (p3_1.drop (Int.toNat 1)) (p3_2.drop (Int.toNat 1))
 else none
 else none
 else
 arrays_merge_Or_1_l0 k p3_0 (p3_1.drop (Int.toNat 1)) (p3_2.drop (Int.toNat 1))
 else none
 else none
 else none
 else none
 else
 bif decide ((0 : Int) < (p3_2.length : Int)) then
 let v223 := p3_2.getD (Int.toNat 0) (0 : Int)
 bif decide ((1 : Int) ≤ (p3_2.length : Int)) then
 (arrays_Or_1 k (decide (v212 ≤ v213)) true).bind fun y225 =>
 bif y225 then
 bif decide ((List.length p3_0 + List.length [v223]) * 2 ≤ 140737488355328) then
 bif decide (List.length p3_0 + List.length [v223] ≤ 140737488355328) then
 arrays_merge_Or_1_l0 k (p3_0 ++ [v223]) p3_1 (p3_2.drop (Int.toNat 1))
 else none
 else none
 else
 arrays_merge_Or_1_l0 k p3_0 p3_1 (p3_2.drop (Int.toNat 1))
 else none
 else none
 else
 bif (decide ((0 : Int) < (p3_2.length : Int))) then
 bif decide ((0 : Int) < (p3_2.length : Int)) then
 let v229 := p3_2.getD (Int.toNat 0) (0 : Int)
 bif decide ((0 : Int) < (p3_1.length : Int)) then
 let v230 := p3_1.getD (Int.toNat 0) (0 : Int)
 bif (decide (v212 ≤ v213)) then
 bif decide ((0 : Int) < (p3_1.length : Int)) then
 let v232 := p3_1.getD (Int.toNat 0) (0 : Int)
 bif decide ((1 : Int) ≤ (p3_1.length : Int)) then
 bif (decide (v229 ≤ v230)) then
 bif decide ((0 : Int) < (p3_2.length : Int)) then
 let v234 := p3_2.getD (Int.toNat 0) (0 : Int)
 bif decide ((1 : Int) ≤ (p3_2.length : Int)) then
 (arrays_Or_1 k (decide (v212 ≤ v213)) (decide (v229 ≤ v230))).bind fun y236 =>
 bif y236 then
 bif decide ((List.length p3_0 + List.length [v234]) * 2 ≤ 140737488355328) then
 bif decide (List.length p3_0 + List.length [v234] ≤ 140737488355328) then
 arrays_merge_Or_1_l0 k (p3_0 ++ [v234]) (p3_1.drop (Int.toNat 1)) (p3_2.drop (Int.toNat 1))
 else none
 else none
 else
 arrays_merge_Or_1_l0 k p3_0 (p3_1.drop (Int.toNat 1)) (p3_2.drop (Int.toNat 1))
 else none
 else none
 else
 (arrays_Or_1 k (decide (v212 ≤ v213)) (decide (v229 ≤ v230))).bind fun y238 =>
 bif y238 then
 bif decide ((List.length p3_0 + List.length [v232]) * 2 ≤ 140737488355328) then
 bif decide (List.length p3_0 + List.length [v232] ≤ 140737488355328) then
 arrays_merge_Or_1_l0 k (p3_0 ++ [v232]) (p3_1.drop (Int.toNat 1)) p3_2
 else none
 else none
 else
 arrays_merge_Or_1_l0 k p3_0 (p3_1.drop (Int.toNat 1)) p3_2
 else none
 else none
 else
 bif (decide (v229 ≤ v230)) then
 bif decide ((0 : Int) < (p3_2.length : Int)) then
 let v240 := p3_2.getD (Int.toNat 0) (0 : Int)
 bif decide ((1 : Int) ≤ (p3_2.length : Int)) then
 (arrays_Or_1 k (decide (v212 ≤ v213)) (decide (v229 ≤ v230))).bind fun y242 =>
 bif y242 then
 bif decide ((List.length p3_0 + List.length [v240]) * 2 ≤ 140737488355328) then
 bif decide (List.length p3_0 + List.length [v240] ≤ 140737488355328) then
 arrays_merge_Or_1_l0 k (p3_0 ++ [v240]) p3_1 (p3_2.drop (Int.toNat 1))
 else none
 else none
 else
 arrays_merge_Or_1_l0 k p3_0 p3_1 (p3_2.drop (Int.toNat 1))
 else none
 else none
 else
 (arrays_Or_1 k (decide (v212 ≤ v213)) (decide (v229 ≤ v230))).bind fun y244 =>
 bif y244 then
 bif decide ((List.length p3_0 + List.length [0]) * 2 ≤ 140737488355328) then
 bif decide (List.length p3_0 + List.length [0] ≤ 140737488355328) then
 arrays_merge_Or_1_l0 k (p3_0 ++ [0]) p3_1 p3_2
 else none
 else none
 else
 arrays_merge_Or_1_l0 k p3_0 p3_1 p3_2
 else none
 else none
 else
 bif (decide (v212 ≤ v213)) then
 bif decide ((0 : Int) < (p3_1.length : Int)) then
 let v246 := p3_1.getD (Int.toNat 0) (0 : Int)
 bif decide ((1 : Int) ≤ (p3_1.length : Int)) then
 (arrays_Or_1 k (decide (v212 ≤ v213)) false).bind fun y248 =>
 bif y248 then
 bif decide ((List.length p3_0 + List.length [v246]) * 2 ≤ 140737488355328) then
 bif decide (List.length p3_0 + List.length [v246] ≤ 140737488355328) then
 arrays_merge_Or_1_l0 k (p3_0 ++ [v246]) (p3_1.drop (Int.toNat 1)) p3_2
 else none
 else none
 else
 arrays_merge_Or_1_l0 k p3_0 (p3_1.drop (Int.toNat 1)) p3_2
 else none
 else none
 else
 (arrays_Or_1 k (decide (v212 ≤ v213)) false).bind fun y250 =>
 bif y250 then
 bif decide ((List.length p3_0 + List.length [0]) * 2 ≤ 140737488355328) then
 bif decide (List.length p3_0 + List.length [0] ≤ 140737488355328) then
 arrays_merge_Or_1_l0 k (p3_0 ++ [0]) p3_1 p3_2
 else none
 else none
 else
 arrays_merge_Or_1_l0 k p3_0 p3_1 p3_2
 else none
 else none
 else
 bif (decide ((p3_1.length : Int) = 0)) then
 bif decide ((0 : Int) < (p3_2.length : Int)) then
 let v254 := p3_2.getD (Int.toNat 0) (0 : Int)
 bif decide ((1 : Int) ≤ (p3_2.length : Int)) then
 (arrays_Or_1 k false true).bind fun y256 =>
 bif y256 then
 bif decide ((List.length p3_0 + List.length [v254]) * 2 ≤ 140737488355328) then
 bif decide (List.length p3_0 + List.length [v254] ≤ 140737488355328) then
 arrays_merge_Or_1_l0 k (p3_0 ++ [v254]) p3_1 (p3_2.drop (Int.toNat 1))
 else none
 else none
 else
 arrays_merge_Or_1_l0 k p3_0 p3_1 (p3_2.drop (Int.toNat 1))
 else none
 else none
 else
 bif (decide ((0 : Int) < (p3_2.length : Int))) then
 bif decide ((0 : Int) < (p3_2.length : Int)) then
 let v260 := p3_2.getD (Int.toNat 0) (0 : Int)
 bif decide ((0 : Int) < (p3_1.length : Int)) then
 let v261 := p3_1.getD (Int.toNat 0) (0 : Int)
 bif (decide (v260 ≤ v261)) then
 bif decide ((0 : Int) < (p3_2.length : Int)) then
 let v263 := p3_2.getD (Int.toNat 0) (0 : Int)
 bif decide ((1 : Int) ≤ (p3_2.length : Int)) then
 (arrays_Or_1 k false (decide (v260 ≤ v261))).bind fun y265 =>
 bif y265 then
 bif decide ((List.length p3_0 + List.length [v263]) * 2 ≤ 140737488355328) then
 bif decide (List.length p3_0 + List.length [v263] ≤ 140737488355328) then
 arrays_merge_Or_1_l0 k (p3_0 ++ [v263]) p3_1 (p3_2.drop (Int.toNat 1))
 else none
 else none
 else
 arrays_merge_Or_1_l0 k p3_0 p3_1 (p3_2.drop (Int.toNat 1))
 else none
 else none
 else
 (arrays_Or_1 k false (decide (v260 ≤ v261))).bind fun y267 =>
 bif y267 then
 bif decide ((List.length p3_0 + List.length [0]) * 2 ≤ 140737488355328) then
 bif decide (List.length p3_0 + List.length [0] ≤ 140737488355328) then
 arrays_merge_Or_1_l0 k (p3_0 ++ [0]) p3_1 p3_2
 else none
 else none
 else
 arrays_merge_Or_1_l0 k p3_0 p3_1 p3_2
 else none
 else none
 else
 (arrays_Or_1 k false false).bind fun y269 =>
 bif y269 then
 bif decide ((List.length p3_0 + List.length [0]) * 2 ≤ 140737488355328) then
 bif decide (List.length p3_0 + List.length [0] ≤ 140737488355328) then
 arrays_merge_Or_1_l0 k (p3_0 ++ [0]) p3_1 p3_2
 else none
 else none
 else
 arrays_merge_Or_1_l0 k p3_0 p3_1 p3_2
 else
 bif (decide ((0 : Int) < (p3_2.length : Int))) then
 bif (decide ((p3_2.length : Int) = 0)) then
 bif (decide ((p3_1.length : Int) = 0)) then
 bif decide ((0 : Int) < (p3_1.length : Int)) then
 bif decide ((1 : Int) ≤ (p3_1.length : Int)) then
 bif decide ((0 : Int) < (p3_2.length : Int)) then
 let v279 := p3_2.getD (Int.toNat 0) (0 : Int)
 bif decide ((1 : Int) ≤ (p3_2.length : Int)) then
 (arrays_Or_1 k true true).bind fun y281 =>
 bif y281 then
 bif decide ((List.length p3_0 + List.length [v279]) * 2 ≤ 140737488355328) then
 bif decide (List.length p3_0 + List.length [v279] ≤ 140737488355328) then
 arrays_merge_Or_1_l0 k (p3_0 ++ [v279]) (p3_1.drop (Int.toNat 1)) (p3_2.drop (Int.toNat 1))
 else none
 else none
 else
 arrays_merge_Or_1_l0 k p3_0 (p3_1.drop (Int.toNat 1)) (p3_2.drop (Int.toNat 1))
 else none
 else none
 else none
 else none
 else
 bif (decide ((0 : Int) < (p3_2.length : Int))) then
 bif decide ((0 : Int) < (p3_2.length : Int)) then
 let v285 := p3_2.getD (Int.toNat 0) (0 : Int)
 bif decide ((0 : Int) < (p3_1.length : Int)) then
 let v286 := p3_1.getD (Int.toNat 0) (0 : Int)
 bif decide ((0 : Int) < (p3_1.length : Int)) then
 let v288 := p3_1.getD (Int.toNat 0) (0 : Int)
 bif decide ((1 : Int) ≤ (p3_1.length : Int)) then
 bif (decide (v285 ≤ v286)) then
 bif decide ((0 : Int) < (p3_2.length : Int)) then
 let v290 := p3_2.getD (Int.toNat 0) (0 : Int)
 bif decide ((1 : Int) ≤ (p3_2.length : Int)) then
 (arrays_Or_1 k true (decide (v285 ≤ v286))).bind fun y292 =>
 bif y292 then
 bif decide ((List.length p3_0 + List.length [v290]) * 2 ≤ 140737488355328) then
 bif decide (List.length p3_0 + List.length [v290] ≤ 140737488355328) then
 arrays_merge_Or_1_l0 k (p3_0 ++ [v290]) (p3_1.drop (Int.toNat 1)) (p3_2.drop (Int.toNat 1))
 else none
 else none
 else
 arrays_merge_Or_1_l0 k p3_0 (p3_1.drop (Int.toNat 1)) (p3_2.drop (Int.toNat 1))
 else none
 else none
 else
 (arrays_Or_1 k true (decide (v285 ≤ v286))).bind fun y294 =>
 bif y294 then
 bif decide ((List.length p3_0 + List.length [v288]) * 2 ≤ 140737488355328) then
 bif decide (List.length p3_0 + List.length [v288] ≤ 140737488355328) then
 arrays_merge_Or_1_l0 k (p3_0 ++ [v288]) (p3_1.drop (Int.toNat 1)) p3_2
 else none
 else none
 else
 arrays_merge_Or_1_l0 k p3_0 (p3_1.drop (Int.toNat 1)) p3_2
 else none
 else none
 else none
 else none
 else
 bif decide ((0 : Int) < (p3_1.length : Int)) then
 let v296 := p3_1.getD (Int.toNat 0) (0 : Int)
 bif decide ((1 : Int) ≤ (p3_1.length : Int)) then
 (arrays_Or_1 k true false).bind fun y298 =>
 bif y298 then
 bif decide ((List.length p3_0 + List.length [v296]) * 2 ≤ 140737488355328) then
 bif decide (List.length p3_0 + List.length [v296] ≤ 140737488355328) then
 arrays_merge_Or_1_l0 k (p3_0 ++ [v296]) (p3_1.drop (Int.toNat 1)) p3_2
 else none
 else none
 else
 arrays_merge_Or_1_l0 k p3_0 (p3_1.drop (Int.toNat 1)) p3_2
 else none
 else none
 else
 bif (decide ((0 : Int) < (p3_1.length : Int))) then
 bif decide ((0 : Int) < (p3_1.length : Int)) then
 let v302 := p3_1.getD (Int.toNat 0) (0 : Int)
 bif decide ((0 : Int) < (p3_2.length : Int)) then
 let v303 := p3_2.getD (Int.toNat 0) (0 : Int)
 bif (decide ((p3_1.length : Int) = 0)) then
 bif (decide (v302 ≤ v303)) then
 bif decide ((0 : Int) < (p3_1.length : Int)) then
 bif decide ((1 : Int) ≤ (p3_1.length : Int)) then
 bif decide ((0 : Int) < (p3_2.length : Int)) then
 let v309 := p3_2.getD (Int.toNat 0) (0 : Int)
 bif decide ((1 : Int) ≤ (p3_2.length : Int)) then
 (arrays_Or_1 k (decide (v302 ≤ v303)) true).bind fun y311 =>
 bif y311 then
 bif decide ((List.length p3_0 + List.length [v309]) * 2 ≤ 140737488355328) then
 bif decide (List.length p3_0 + List.length [v309] ≤ 140737488355328) then
 arrays_merge_Or_1_l0 k (p3_0 ++ [v309]) (p3_1.drop (Int.toNat 1)) (p3_2.drop (Int.toNat 1))
 else none
 else none
 else
 arrays_merge_Or_1_l0 k p3_0 (p3_1.drop (Int.toNat 1)) (p3_2.drop (Int.toNat 1))
 else none
 else none
 else none
 else none
 else
 bif decide ((0 : Int) < (p3_2.length : Int)) then
 let v313 := p3_2.getD (Int.toNat 0) (0 : Int)
 bif decide ((1 : Int) ≤ (p3_2.length : Int)) then
 (arrays_Or_1 k (decide (v302 ≤ v303)) true).bind fun y315 =>
 bif y315 then
 bif decide ((List.length p3_0 + List.length [v313]) * 2 ≤ 140737488355328) then
 bif decide (List.length p3_0 + List.length [v313] ≤ 140737488355328) then
 arrays_merge_Or_1_l0 k (p3_0 ++ [v313]) p3_1 (p3_2.drop (Int.toNat 1))
 else none
 else none
 else
 arrays_merge_Or_1_l0 k p3_0 p3_1 (p3_2.drop (Int.toNat 1))
 else none
 else none
 else
 bif (decide ((0 : Int) < (p3_2.length : Int))) then
 bif decide ((0 : Int) < (p3_2.length : Int)) then
 let v319 := p3_2.getD (Int.toNat 0) (0 : Int)
 bif decide ((0 : Int) < (p3_1.length : Int)) then
 let v320 := p3_1.getD (Int.toNat 0) (0 : Int)
 bif (decide (v302 ≤ v303)) then
 bif decide ((0 : Int) < (p3_1.length : Int)) then
 let v322 := p3_1.getD (Int.toNat 0) (0 : Int)
 bif decide ((1 : Int) ≤ (p3_1.length : Int)) then
 bif (decide (v319 ≤ v320)) then
 bif decide ((0 : Int) < (p3_2.length : Int)) then
 let v324 := p3_2.getD (Int.toNat 0) (0 : Int)
 bif decide ((1 : Int) ≤ (p3_2.length : Int)) then
 (arrays_Or_1 k (decide (v302 ≤ v303)) (decide (v319 ≤ v320))).bind fun y326 =>
 bif y326 then
 bif decide ((List.length p3_0 + List.length [v324]) * 2 ≤ 140737488355328) then
 bif decide (List.length p3_0 + List.length [v324] ≤ 140737488355328) then
 arrays_merge_Or_1_l0 k (p3_0 ++ [v324]) (p3_1.drop (Int.toNat 1)) (p3_2.drop (Int.toNat 1))
 else none
 else none
 else
 arrays_merge_Or_1_l0 k p3_0 (p3_1.drop (Int.toNat 1)) (p3_2.drop (Int.toNat 1))
 else none
 else none
 else
 (arrays_Or_1 k (decide (v302 ≤ v303)) (decide (v319 ≤ v320))).bind fun y328 =>
 bif y328 then
 bif decide ((List.length p3_0 + List.length [v322]) * 2 ≤ 140737488355328) then
 bif decide (List.length p3_0 + List.length [v322] ≤ 140737488355328) then
 arrays_merge_Or_1_l0 k (p3_0 ++ [v322]) (p3_1.drop (Int.toNat 1)) p3_2
 else none
 else none
 else
 arrays_merge_Or_1_l0 k p3_0 (p3_1.drop (Int.toNat 1)) p3_2
 else none
 else none
 else
 bif (decide (v319 ≤ v320)) then
 bif decide ((0 : Int) < (p3_2.length : Int)) then
 let v330 := p3_2.getD (Int.toNat 0) (0 : Int)
 bif decide ((1 : Int) ≤ (p3_2.length : Int)) then
 (arrays_Or_1 k (decide (v302 ≤ v303)) (decide (v319 ≤ v320))).bind fun y332 =>
 bif y332 then
 bif decide ((List.length p3_0 + List.length [v330]) * 2 ≤ 140737488355328) then
 bif decide (List.length p3_0 + List.length [v330] ≤ 140737488355328) then
 arrays_merge_Or_1_l0 k (p3_0 ++ [v330]) p3_1 (p3_2.drop (Int.toNat 1))
 else none
 else none
 else
 arrays_merge_Or_1_l0 k p3_0 p3_1 (p3_2.drop (Int.toNat 1))
 else none
 else none
 else
 (arrays_Or_1 k (decide (v302 ≤ v303)) (decide (v319 ≤ v320))).bind fun y334 =>
 bif y334 then
 bif decide ((List.length p3_0 + List.length [0]) * 2 ≤ 140737488355328) then
 bif decide (List.length p3_0 + List.length [0] ≤ 140737488355328) then
 arrays_merge_Or_1_l0 k (p3_0 ++ [0]) p3_1 p3_2
 else none
 else none
 else
 arrays_merge_Or_1_l0 k p3_0 p3_1 p3_2
 else none
 else none
 else
 bif (decide (v302 ≤ v303)) then
 bif decide ((0 : Int) < (p3_1.length : Int)) then
 let v336 := p3_1.getD (Int.toNat 0) (0 : Int)
 bif decide ((1 : Int) ≤ (p3_1.length : Int)) then
 (arrays_Or_1 k (decide (v302 ≤ v303)) false).bind fun y338 =>
 bif y338 then
 bif decide ((List.length p3_0 + List.length [v336]) * 2 ≤ 140737488355328) then
 bif decide (List.length p3_0 + List.length [v336] ≤ 140737488355328) then
 arrays_merge_Or_1_l0 k (p3_0 ++ [v336]) (p3_1.drop (Int.toNat 1)) p3_2
 else none
 else none
 else
 arrays_merge_Or_1_l0 k p3_0 (p3_1.drop (Int.toNat 1)) p3_2
 else none
 else none
 else
 (arrays_Or_1 k (decide (v302 ≤ v303)) false).bind fun y340 =>
 bif y340 then
 bif decide ((List.length p3_0 + List.length [0]) * 2 ≤ 140737488355328) then
 bif decide (List.length p3_0 + List.length [0] ≤ 140737488355328) then
 arrays_merge_Or_1_l0 k (p3_0 ++ [0]) p3_1 p3_2
 else none
 else none
 else
 arrays_merge_Or_1_l0 k p3_0 p3_1 p3_2
 else none
 else none
 else
 bif (decide ((p3_1.length : Int) = 0)) then
 bif decide ((0 : Int) < (p3_2.length : Int)) then
 let v344 := p3_2.getD (Int.toNat 0) (0 : Int)
 bif decide ((1 : Int) ≤ (p3_2.length : Int)) then
 (arrays_Or_1 k false true).bind fun y346 =>
 bif y346 then
 bif decide ((List.length p3_0 + List.length [v344]) * 2 ≤ 140737488355328) then
 bif decide (List.length p3_0 + List.length [v344] ≤ 140737488355328) then
 arrays_merge_Or_1_l0 k (p3_0 ++ [v344]) p3_1 (p3_2.drop (Int.toNat 1))
 else none
 else none
 else
 arrays_merge_Or_1_l0 k p3_0 p3_1 (p3_2.drop (Int.toNat 1))
 else none
 else none
 else
 bif (decide ((0 : Int) < (p3_2.length : Int))) then
 bif decide ((0 : Int) < (p3_2.length : Int)) then
 let v350 := p3_2.getD (Int.toNat 0) (0 : Int)
 bif decide ((0 : Int) < (p3_1.length : Int)) then
 let v351 := p3_1.getD (Int.toNat 0) (0 : Int)
 bif (decide (v350 ≤ v351)) then
 bif decide ((0 : Int) < (p3_2.length : Int)) then
 let v353 := p3_2.getD (Int.toNat 0) (0 : Int)
 bif decide ((1 : Int) ≤ (p3_2.length : Int)) then
 (arrays_Or_1 k false (decide (v350 ≤ v351))).bind fun y355 =>
 bif y355 then
 bif decide ((List.length p3_0 + List.length [v353]) * 2 ≤ 140737488355328) then
 bif decide (List.length p3_0 + List.length [v353] ≤ 140737488355328) then
 arrays_merge_Or_1_l0 k (p3_0 ++ [v353]) p3_1 (p3_2.drop (Int.toNat 1))
 else none
 else none
 else
 arrays_merge_Or_1_l0 k p3_0 p3_1 (p3_2.drop (Int.toNat 1))
 else none
 else none
 else
 (arrays_Or_1 k false (decide (v350 ≤ v351))).bind fun y357 =>
 bif y357 then
 bif decide ((List.length p3_0 + List.length [0]) * 2 ≤ 140737488355328) then
 bif decide (List.length p3_0 + List.length [0] ≤ 140737488355328) then
 arrays_merge_Or_1_l0 k (p3_0 ++ [0]) p3_1 p3_2
 else none
 else none
 else
 arrays_merge_Or_1_l0 k p3_0 p3_1 p3_2
 else none
 else none
 else
 (arrays_Or_1 k false false).bind fun y359 =>
 bif y359 then
 bif decide ((List.length p3_0 + List.length [0]) * 2 ≤ 140737488355328) then
 bif decide (List.length p3_0 + List.length [0] ≤ 140737488355328) then
 arrays_merge_Or_1_l0 k (p3_0 ++ [0]) p3_1 p3_2
 else none
 else none
 else
 arrays_merge_Or_1_l0 k p3_0 p3_1 p3_2
 else
 some p3_0
noncomputable def arrays_merge_Or_1 (k : Nat) (a0 : (List Int)) (a1 : (List Int)) : Option ((List Int)) :=
 (arrays_merge_Or_1_l0 k [] a0 a1).bind fun y361 =>
 some y361

noncomputable def arrays_Or (k : Nat) (a0 : (List Int)) (a1 : (List Int)) : Option ((List Int)) :=
 (arrays_merge_Or_1 k a0 a1).bind fun y1 =>
 some y1

noncomputable def runs_Or_1 (k : Nat) (a0 : Bool) (a1 : Bool) : Option (Bool) :=
 bif a0 then
 some true
 else
 some a1

noncomputable def runs_edges_Or_1_l1 : Nat → (List (Int × Int)) → (List Int) → (List Int) → Bool → Int → Int → Int → Int → Option ((List (Int × Int)) × (List Int) × (List Int) × Bool × Int × Int × Int × Int)
 | 0, _, _, _, _, _, _, _, _ => none
 | k + 1, p11_0, p11_1, p11_2, p11_3, p11_4, p11_5, p11_6, p11_7 =>
 bif (decide (p11_5 < (p11_1.length : Int))) then
 bif decide ((0 : Int) ≤ p11_5) then
 bif decide (p11_5 < (p11_1.length : Int)) then
 bif (decide ((p11_1.getD (Int.toNat p11_5) (0 : Int)) ≤ p11_7)) then
 runs_edges_Or_1_l1 k p11_0 p11_1 p11_2 p11_3 p11_4 (IntKind.wrap .i64 (p11_5 + 1)) p11_6 p11_7
 else
 some (p11_0, p11_1, p11_2, p11_3, p11_4, p11_5, p11_6, p11_7)
 else none
 else none
 else
 some (p11_0, p11_1, p11_2, p11_3, p11_4, p11_5, p11_6, p11_7)
noncomputable def runs_edges_Or_1_l2 : Nat → (List (Int × Int)) → (List Int) → (List Int) → Bool → Int → Int → Int → Int → Option ((List (Int × Int)) × (List Int) × (List Int) × Bool × Int × Int × Int × Int)
 | 0, _, _, _, _, _, _, _, _ => none
 | k + 1, p13_0, p13_1, p13_2, p13_3, p13_4, p13_5, p13_6, p13_7 =>
 bif (decide (p13_6 < (p13_2.length : Int))) then
 bif decide ((0 : Int) ≤ p13_6) then
 bif decide (p13_6 < (p13_2.length : Int)) then
 bif (decide ((p13_2.getD (Int.toNat p13_6) (0 : Int)) ≤ p13_7)) then
 runs_edges_Or_1_l2 k p13_0 p13_1 p13_2 p13_3 p13_4 p13_5 (IntKind.wrap .i64 (p13_6 + 1)) p13_7
 else
 some (p13_0, p13_1, p13_2, p13_3, p13_4, p13_5, p13_6, p13_7)
 else none
 else none
 else
 some (p13_0, p13_1, p13_2, p13_3, p13_4, p13_5, p13_6, p13_7)
noncomputable def runs_edges_Or_1_l0 : Nat → (List (Int × Int)) → (List Int) → (List Int) → Bool → Int → Int → Int → Option ((List (Int × Int)))
 | 0, _, _, _, _, _, _, _ => none
 | k + 1, p5_0, p5_1, p5_2, p5_3, p5_4, p5_5, p5_6 =>
 bif (decide (p5_5 < (p5_1.length : Int))) then
 bif (decide (p5_5 < (p5_1.length : Int))) then
 bif decide ((0 : Int) ≤ p5_5) then
 bif decide (p5_5 < (p5_1.length : Int)) then
 let v155 := p5_1.getD (Int.toNat p5_5) (0 : Int)
 bif (decide (p5_6 < (p5_2.length : Int))) then
 bif decide ((0 : Int) ≤ p5_6) then
 bif decide (p5_6 < (p5_2.length : Int)) then
 (runs_edges_Or_1_l1 k p5_0 p5_1 p5_2 p5_3 p5_4 p5_5 p5_6 (min v155 (p5_2.getD (Int.toNat p5_6) (0 : Int)))).bind fun y160 =>
 (runs_edges_Or_1_l2 k y160.1 y160.2.1 y160.2.2.1 y160.2.2.2.1 y160.2.2.2.2.1 y160.2.2.2.2.2.1 y160.2.2.2.2.2.2.1 y160.2.2.2.2.2.2.2).bind fun y161 =>
 (runs_Or_1 k (decide ((y161.2.2.2.2.2.1.tmod 2) = 1)) (decide ((y161.2.2.2.2.2.2.1.tmod 2) = 1))).bind fun y166 =>
 bif (y166 == y161.2.2.2.1) then
 runs_edges_Or_1_l0 k y161.1 y161.2.1 y161.2.2.1 y161.2.2.2.1 y161.2.2.2.2.1 y161.2.2.2.2.2.1 y161.2.2.2.2.2.2.1
 else
 bif y161.2.2.2.1 then
 let v168 := IntKind.wrap .u16 y161.2.2.2.2.1
 let v170 := IntKind.wrap .i64 ((IntKind.wrap .i64 (y161.2.2.2.2.2.2.2 - y161.2.2.2.2.1)) - 1)
 bif decide ((List.length y161.1 + List.length [(v168, (IntKind.wrap .u16 v170))]) * 4 ≤ 140737488355328) then
 bif decide (List.length y161.1 + List.length [(v168, (IntKind.wrap .u16 v170))] ≤ 140737488355328) then
 runs_edges_Or_1_l0 k (y161.1 ++ [(v168, (IntKind.wrap .u16 v170))]) y161.2.1 y161.2.2.1 y166 y161.2.2.2.2.2.2.2 y161.2.2.2.2.2.1 y161.2.2.2.2.2.2.1
 else none
 else none
 else
 runs_edges_Or_1_l0 k y161.1 y161.2.1 y161.2.2.1 y166 y161.2.2.2.2.2.2.2 y161.2.2.2.2.2.1 y161.2.2.2.2.2.2.1
 else none
 else none
 else
 (runs_edges_Or_1_l1 k p5_0 p5_1 p5_2 p5_3 p5_4 p5_5 p5_6 v155).bind fun y173 =>
 (runs_edges_Or_1_l2 k y173.1 y173.2.1 y173.2.2.1 y173.2.2.2.1 y173.2.2.2.2.1 y173.2.2.2.2.2.1 y173.2.2.2.2.2.2.1 y173.2.2.2.2.2.2.2).bind fun y174 =>
 (runs_Or_1 k (decide ((y174.2.2.2.2.2.1.tmod 2) = 1)) (decide ((y174.2.2.2.2.2.2.1.tmod 2) = 1))).bind fun y179 =>
 bif (y179 == y174.2.2.2.1) then
 runs_edges_Or_1_l0 k y174.1 y174.2.1 y174.2.2.1 y174.2.2.2.1 y174.2.2.2.2.1 y174.2.2.2.2.2.1 y174.2.2.2.2.2.2.1
 else
 bif y174.2.2.2.1 then
 let v181 := IntKind.wrap .u16 y174.2.2.2.2.1
 let v183 := IntKind.wrap .i64 ((IntKind.wrap .i64 (y174.2.2.2.2.2.2.2 - y174.2.2.2.2.1)) - 1)
 bif decide ((List.length y174.1 + List.length [(v181, (IntKind.wrap .u16 v183))]) * 4 ≤ 140737488355328) then
 bif decide (List.length y174.1 + List.length [(v181, (IntKind.wrap .u16 v183))] ≤ 140737488355328) then
 runs_edges_Or_1_l0 k (y174.1 ++ [(v181, (IntKind.wrap .u16 v183))]) y174.2.1 y174.2.2.1 y179 y174.2.2.2.2.2.2.2 y174.2.2.2.2.2.1 y174.2.2.2.2.2.2.1
 else none
 else none
 else
 runs_edges_Or_1_l0 k y174.1 y174.2.1 y174.2.2.1 y179 y174.2.2.2.2.2.2.2 y174.2.2.2.2.2.1 y174.2.2.2.2.2.2.1
 else none
 else none
 else
 bif (decide (p5_6 < (p5_2.length : Int))) then
 bif decide ((0 : Int) ≤ p5_6) then
 bif decide (p5_6 < (p5_2.length : Int)) then
 (runs_edges_Or_1_l1 k p5_0 p5_1 p5_2 p5_3 p5_4 p5_5 p5_6 (min 65537 (p5_2.getD (Int.toNat p5_6) (0 : Int)))).bind fun y190 =>
 (runs_edges_Or_1_l2 k y190.1 y190.2.1 y190.2.2.1 y190.2.2.2.1 y190.2.2.2.2.1 y190.2.2.2.2.2.1 y190.2.2.2.2.2.2.1 y190.2.2.2.2.2.2.2).bind fun y191 =>
 (runs_Or_1 k (decide ((y191.2.2.2.2.2.1.tmod 2) = 1)) (decide ((y191.2.2.2.2.2.2.1.tmod 2) = 1))).bind fun y196 =>
 bif (y196 == y191.2.2.2.1) then
 runs_edges_Or_1_l0 k y191.1 y191.2.1 y191.2.2.1 y191.2.2.2.1 y191.2.2.2.2.1 y191.2.2.2.2.2.1 y191.2.2.2.2.2.2.1
 else
 bif y191.2.2.2.1 then
 let v198 := IntKind.wrap .u16 y191.2.2.2.2.1
 let v200 := IntKind.wrap .i64 ((IntKind.wrap .i64 (y191.2.2.2.2.2.2.2 - y191.2.2.2.2.1)) - 1)
 bif decide ((List.length y191.1 + List.length [(v198, (IntKind.wrap .u16 v200))]) * 4 ≤ 140737488355328) then
 bif decide (List.length y191.1 + List.length [(v198, (IntKind.wrap .u16 v200))] ≤ 140737488355328) then
 runs_edges_Or_1_l0 k (y191.1 ++ [(v198, (IntKind.wrap .u16 v200))]) y191.2.1 y191.2.2.1 y196 y191.2.2.2.2.2.2.2 y191.2.2.2.2.2.1 y191.2.2.2.2.2.2.1
 else none
 else none
 else
 runs_edges_Or_1_l0 k y191.1 y191.2.1 y191.2.2.1 y196 y191.2.2.2.2.2.2.2 y191.2.2.2.2.2.1 y191.2.2.2.2.2.2.1
 else none
 else none
 else
 (runs_edges_Or_1_l1 k p5_0 p5_1 p5_2 p5_3 p5_4 p5_5 p5_6 65537).bind fun y203 =>
 (runs_edges_Or_1_l2 k y203.1 y203.2.1 y203.2.2.1 y203.2.2.2.1 y203.2.2.2.2.1 y203.2.2.2.2.2.1 y203.2.2.2.2.2.2.1 y203.2.2.2.2.2.2.2).bind fun y204 =>
 (runs_Or_1 k (decide ((y204.2.2.2.2.2.1.tmod 2) = 1)) (decide ((y204.2.2.2.2.2.2.1.tmod 2) = 1))).bind fun y209 =>
 bif (y209 == y204.2.2.2.1) then
 runs_edges_Or_1_l0 k y204.1 y204.2.1 y204.2.2.1 y204.2.2.2.1 y204.2.2.2.2.1 y204.2.2.2.2.2.1 y204.2.2.2.2.2.2.1
 else
 bif y204.2.2.2.1 then
 let v211 := IntKind.wrap .u16 y204.2.2.2.2.1
 let v213 := IntKind.wrap .i64 ((IntKind.wrap .i64 (y204.2.2.2.2.2.2.2 - y204.2.2.2.2.1)) - 1)
 bif decide ((List.length y204.1 + List.length [(v211, (IntKind.wrap .u16 v213))]) * 4 ≤ 140737488355328) then
 bif decide (List.length y204.1 + List.length [(v211, (IntKind.wrap .u16 v213))] ≤ 140737488355328) then
 runs_edges_Or_1_l0 k (y204.1 ++ [(v211, (IntKind.wrap .u16 v213))]) y204.2.1 y204.2.2.1 y209 y204.2.2.2.2.2.2.2 y204.2.2.2.2.2.1 y204.2.2.2.2.2.2.1
 else none
 else none
 else
 runs_edges_Or_1_l0 k y204.1 y204.2.1 y204.2.2.1 y209 y204.2.2.2.2.2.2.2 y204.2.2.2.2.2.1 y204.2.2.2.2.2.2.1
 else
 bif (decide (p5_6 < (p5_2.length : Int))) then
 bif (decide (p5_5 < (p5_1.length : Int))) then
 bif decide ((0 : Int) ≤ p5_5) then
 bif decide (p5_5 < (p5_1.length : Int)) then
 let v220 := p5_1.getD (Int.toNat p5_5) (0 : Int)
 bif (decide (p5_6 < (p5_2.length : Int))) then
 bif decide ((0 : Int) ≤ p5_6) then
 bif decide (p5_6 < (p5_2.length : Int)) then
 (runs_edges_Or_1_l1 k p5_0 p5_1 p5_2 p5_3 p5_4 p5_5 p5_6 (min v220 (p5_2.getD (Int.toNat p5_6) (0 : Int)))).bind fun y225 =>
 (runs_edges_Or_1_l2 k y225.1 y225.2.1 y225.2.2.1 y225.2.2.2.1 y225.2.2.2.2.1 y225.2.2.2.2.2.1 y225.2.2.2.2.2.2.1 y225.2.2.2.2.2.2.2).bind fun y226 =>
 (runs_Or_1 k (decide ((y226.2.2.2.2.2.1.tmod 2) = 1)) (decide ((y226.2.2.2.2.2.2.1.tmod 2) = 1))).bind fun y231 =>
 bif (y231 == y226.2.2.2.1) then
 runs_edges_Or_1_l0 k y226.1 y226.2.1 y226.2.2.1 y226.2.2.2.1 y226.2.2.2.2.1 y226.2.2.2.2.2.1 y226.2.2.2.2.2.2.1
 else
 bif y226.2.2.2.1 then
 let v233 := IntKind.wrap .u16 y226.2.2.2.2.1
 let v235 := IntKind.wrap .i64 ((IntKind.wrap .i64 (y226.2.2.2.2.2.2.2 - y226.2.2.2.2.1)) - 1)
 bif decide ((List.length y226.1 + List.length [(v233, (IntKind.wrap .u16 v235))]) * 4 ≤ 140737488355328) then
 bif decide (List.length y226.1 + List.length [(v233, (IntKind.wrap .u16 v235))] ≤ 140737488355328) then
 runs_edges_Or_1_l0 k (y226.1 ++ [(v233, (IntKind.wrap .u16 v235))]) y226.2.1 y226.2.2.1 y231 y226.2.2.2.2.2.2.2 y226.2.2.2.2.2.1 y226.2.2.2.2.2.2.1
 else none
 else none
 else
 runs_edges_Or_1_l0 k y226.1 y226.2.1 y226.2.2.1 y231 y226.2.2.2.2.2.2.2 y226.2.2.2.2.2.1 y226.2.2.2.2.2.2.1
 else none
 else none
 else
 (runs_edges_Or_1_l1 k p5_0 p5_1 p5_2 p5_3 p5_4 p5_5 p5_6 v220).bind fun y238 =>
 (runs_edges_Or_1_l2 k y238.1 y238.2.1 y238.2.2.1 y238.2.2.2.1 y238.2.2.2.2.1 y238.2.2.2.2.2.1 y238.2.2.2.2.2.2.1 y238.2.2.2.2.2.2.2).bind fun y239 =>
 (runs_Or_1 k (decide ((y239.2.2.2.2.2.1.tmod 2) = 1)) (decide ((y239.2.2.2.2.2.2.1.tmod 2) = 1))).bind fun y244 =>
 bif (y244 == y239.2.2.2.1) then
 runs_edges_Or_1_l0 k y239.1 y239.2.1 y239.2.2.1 y239.2.2.2.1 y239.2.2.2.2.1 y239.2.2.2.2.2.1 y239.2.2.2.2.2.2.1
 else
 bif y239.2.2.2.1 then
 let v246 := IntKind.wrap .u16 y239.2.2.2.2.1
 let v248 := IntKind.wrap .i64 ((IntKind.wrap .i64 (y239.2.2.2.2.2.2.2 - y239.2.2.2.2.1)) - 1)
 bif decide ((List.length y239.1 + List.length [(v246, (IntKind.wrap .u16 v248))]) * 4 ≤ 140737488355328) then
 bif decide (List.length y239.1 + List.length [(v246, (IntKind.wrap .u16 v248))] ≤ 140737488355328) then
 runs_edges_Or_1_l0 k (y239.1 ++ [(v246, (IntKind.wrap .u16 v248))]) y239.2.1 y239.2.2.1 y244 y239.2.2.2.2.2.2.2 y239.2.2.2.2.2.1 y239.2.2.2.2.2.2.1
 else none
 else none
 else
 runs_edges_Or_1_l0 k y239.1 y239.2.1 y239.2.2.1 y244 y239.2.2.2.2.2.2.2 y239.2.2.2.2.2.1 y239.2.2.2.2.2.2.1
 else none
 else none
 else
 bif (decide (p5_6 < (p5_2.length : Int))) then
 bif decide ((0 : Int) ≤ p5_6) then
 bif decide (p5_6 < (p5_2.length : Int)) then
 (runs_edges_Or_1_l1 k p5_0 p5_1 p5_2 p5_3 p5_4 p5_5 p5_6 (min 65537 (p5_2.getD (Int.toNat p5_6) (0 : Int)))).bind fun y255 =>
 (runs_edges_Or_1_l2 k y255.1 y255.2.1 y255.2.2.1 y255.2.2.2.1 y255.2.2.2.2.1 y255.2.2.2.2.2.1 y255.2.2.2.2.2.2.1 y255.2.2.2.2.2.2.2).bind fun y256 =>
 (runs_Or_1 k (decide ((y256.2.2.2.2.2.1.tmod 2) = 1)) (decide ((y256.2.2.2.2.2.2.1.tmod 2) = 1))).bind fun y261 =>
 bif (y261 == y256.2.2.2.1) then
 runs_edges_Or_1_l0 k y256.1 y256.2.1 y256.2.2.1 y256.2.2.2.1 y256.2.2.2.2.1 y256.2.2.2.2.2.1 y256.2.2.2.2.2.2.1
 else
 bif y256.2.2.2.1 then
 let v263 := IntKind.wrap .u16 y256.2.2.2.2.1
 let v265 := IntKind.wrap .i64 ((IntKind.wrap .i64 (y256.2.2.2.2.2.2.2 - y256.2.2.2.2.1)) - 1)
 bif decide ((List.length y256.1 + List.length [(v263, (IntKind.wrap .u16 v265))]) * 4 ≤ 140737488355328) then
 bif decide (List.length y256.1 + List.length [(v263, (IntKind.wrap .u16 v265))] ≤ 140737488355328) then
 runs_edges_Or_1_l0 k (y256.1 ++ [(v263, (IntKind.wrap .u16 v265))]) y256.2.1 y256.2.2.1 y261 y256.2.2.2.2.2.2.2 y256.2.2.2.2.2.1 y256.2.2.2.2.2.2.1
 else none
 else none
 else
 runs_edges_Or_1_l0 k y256.1 y256.2.1 y256.2.2.1 y261 y256.2.2.2.2.2.2.2 y256.2.2.2.2.2.1 y256.2.2.2.2.2.2.1
 else none
 else none
 else
 (runs_edges_Or_1_l1 k p5_0 p5_1 p5_2 p5_3 p5_4 p5_5 p5_6 65537).bind fun y268 =>
 (runs_edges_Or_1_l2 k y268.1 y268.2.1 y268.2.2.1 y268.2.2.2.1 y268.2.2.2.2.1 y268.2.2.2.2.2.1 y268.2.2.2.2.2.2.1 y268.2.2.2.2.2.2.2).bind fun y269 =>
 (runs_Or_1 k (decide ((y269.2.2.2.2.2.1.tmod 2) = 1)) (decide ((y269.2.2.2.2.2.2.1.tmod 2) = 1))).bind fun y274 =>
 bif (y274 == y269.2.2.2.1) then
 runs_edges_Or_1_l0 k y269.1 y269.2.1 y269.2.2.1 y269.2.2.2.1 y269.2.2.2.2.1 y269.2.2.2.2.2.1 y269.2.2.2.2.2.2.1
 else
 bif y269.2.2.2.1 then
 let v276 := IntKind.wrap .u16 y269.2.2.2.2.1
 let v278 := IntKind.wrap .i64 ((IntKind.wrap .i64 (y269.2.2.2.2.2.2.2 - y269.2.2.2.2.1)) - 1)
 bif decide ((List.length y269.1 + List.length [(v276, (IntKind.wrap .u16 v278))]) * 4 ≤ 140737488355328) then
 bif decide (List.length y269.1 + List.length [(v276, (IntKind.wrap .u16 v278))] ≤ 140737488355328) then
 runs_edges_Or_1_l0 k (y269.1 ++ [(v276, (IntKind.wrap .u16 v278))]) y269.2.1 y269.2.2.1 y274 y269.2.2.2.2.2.2.2 y269.2.2.2.2.2.1 y269.2.2.2.2.2.2.1
 else none
 else none
 else
 runs_edges_Or_1_l0 k y269.1 y269.2.1 y269.2.2.1 y274 y269.2.2.2.2.2.2.2 y269.2.2.2.2.2.1 y269.2.2.2.2.2.2.1
 else
 some p5_0
noncomputable def runs_edges_Or_1 (k : Nat) (a0 : (List Int)) (a1 : (List Int)) : Option ((List (Int × Int))) :=
 (runs_edges_Or_1_l0 k [] a0 a1 false 0 0 0).bind fun y281 =>
 some y281

noncomputable def runs_Or (k : Nat) (a0 : (List (Int × Int))) (a1 : (List (Int × Int))) : Option ((List (Int × Int))) :=
 (runs_row k a0).bind fun y1 =>
 (runs_row k a1).bind fun y2 =>
 (runs_edges_Or_1 k y1 y2).bind fun y3 =>
 some y3

noncomputable def words_Or_1 (k : Nat) (a0 : Int) (a1 : Int) : Option (Int) :=
 some (bitsI .or .u64 a0 a1)

noncomputable def words_each_Or_1_l0 : Nat → (List Int) → (List Int) → (List Int) → Int → Int → Option ((List Int))
 | 0, _, _, _, _, _ => none
 | k + 1, p4_0, p4_1, p4_2, p4_3, p4_4 =>
 bif (decide (p4_4 < p4_3)) then
 bif decide ((0 : Int) ≤ p4_4) then
 bif decide (p4_4 < (p4_1.length : Int)) then
 bif decide ((0 : Int) ≤ p4_4) then
 bif decide (p4_4 < (p4_2.length : Int)) then
 (words_Or_1 k (p4_1.getD (Int.toNat p4_4) (0 : Int)) (p4_2.getD (Int.toNat p4_4) (0 : Int))).bind fun y13 =>
 bif decide ((0 : Int) ≤ p4_4) then
 bif decide (p4_4 < (p4_0.length : Int)) then
 words_each_Or_1_l0 k (p4_0.set (Int.toNat p4_4) y13) p4_1 p4_2 p4_3 (IntKind.wrap .i64 (p4_4 + 1))
 else none
 else none
 else none
 else none
 else none
 else none
 else
 some p4_0
noncomputable def words_each_Or_1 (k : Nat) (a0 : (List Int)) (a1 : (List Int)) : Option ((List Int)) :=
 bif decide (1024 ≤ 1024) then
 (words_each_Or_1_l0 k (List.replicate (Int.toNat 1024) (0 : Int)) a0 a1 (min (min (a0.length : Int) (a1.length : Int)) 1024) 0).bind fun y16 =>
 some y16
 else none

noncomputable def words_Or (k : Nat) (a0 : (List Int)) (a1 : (List Int)) : Option ((List Int)) :=
 (words_each_Or_1 k a0 a1).bind fun y1 =>
 some y1

noncomputable def container_pair_do (k : Nat) (a0 : (Int × ((List Int) × ((List Int) × (List (Int × Int)))))) (a1 : (Int × ((List Int) × ((List Int) × (List (Int × Int)))))) : Option ((Int × ((List Int) × ((List Int) × (List (Int × Int)))))) :=
 (container_Container_Kind k a0).bind fun y1 =>
 bif (decide (y1 = 1)) then
 (container_Container_Kind k a1).bind fun y3 =>
 bif (decide (y3 = 1)) then
 (arrays_Or k a0.2.1 a1.2.1).bind fun y5 =>
 (container_Container_Canonical k (1, (y5, ([], [])))).bind fun y6 =>
 some y6
 else
 bif (decide (a0.1 = 3)) then
 bif (decide (a1.1 = 3)) then
 (runs_Or k a0.2.2.2 a1.2.2.2).bind fun y9 =>
 (container_Container_Canonical k (3, ([], ([], y9)))).bind fun y10 =>
 some y10
 else
 (container_Container_Words k a0).bind fun y11 =>
 (container_Container_Words k a1).bind fun y12 =>
 (words_Or k y11 y12).bind fun y13 =>
 (container_Container_Canonical k (2, ([], (y13, [])))).bind fun y14 =>
 some y14
 else
 (container_Container_Words k a0).bind fun y15 =>
 (container_Container_Words k a1).bind fun y16 =>
 (words_Or k y15 y16).bind fun y17 =>
 (container_Container_Canonical k (2, ([], (y17, [])))).bind fun y18 =>
 some y18
 else
 bif (decide (a0.1 = 3)) then
 bif (decide (a1.1 = 3)) then
 (runs_Or k a0.2.2.2 a1.2.2.2).bind fun y21 =>
 (container_Container_Canonical k (3, ([], ([], y21)))).bind fun y22 =>
 some y22
 else
 (container_Container_Words k a0).bind fun y23 =>
 (container_Container_Words k a1).bind fun y24 =>
 (words_Or k y23 y24).bind fun y25 =>
 (container_Container_Canonical k (2, ([], (y25, [])))).bind fun y26 =>
 some y26
 else
 (container_Container_Words k a0).bind fun y27 =>
 (container_Container_Words k a1).bind fun y28 =>
 (words_Or k y27 y28).bind fun y29 =>
 (container_Container_Canonical k (2, ([], (y29, [])))).bind fun y30 =>
 some y30

noncomputable def container_Container_Or (k : Nat) (a0 : (Int × ((List Int) × ((List Int) × (List (Int × Int)))))) (a1 : (Int × ((List Int) × ((List Int) × (List (Int × Int)))))) : Option ((Int × ((List Int) × ((List Int) × (List (Int × Int)))))) :=
 (container_pair_do k a0 a1).bind fun y1 =>
 some y1

noncomputable def slices_Insert_uint16 (k : Nat) (a0 : (List Int)) (a1 : Int) (a2 : (List Int)) : Option ((List Int)) :=
 bif decide ((0 : Int) ≤ a1) then
 bif decide (a1 ≤ (List.length a0 : Int)) then
 bif (decide ((a2.length : Int) = 0)) then
 some a0
 else
 bif (decide (a1 = (a0.length : Int))) then
 bif decide ((List.length a0 + List.length a2) * 2 ≤ 140737488355328) then
 bif decide (List.length a0 + List.length a2 ≤ 140737488355328) then
 some (a0 ++ a2)
 else none
 else none
 else
 none
 else none
 else none

noncomputable def slices_Insert_Container (k : Nat) (a0 : (List (Int × ((List Int) × ((List Int) × (List (Int × Int))))))) (a1 : Int) (a2 : (List (Int × ((List Int) × ((List Int) × (List (Int × Int))))))) : Option ((List (Int × ((List Int) × ((List Int) × (List (Int × Int))))))) :=
 bif decide ((0 : Int) ≤ a1) then
 bif decide (a1 ≤ (List.length a0 : Int)) then
 bif (decide ((a2.length : Int) = 0)) then
 some a0
 else
 bif (decide (a1 = (a0.length : Int))) then
 bif decide ((List.length a0 + List.length a2) * 80 ≤ 140737488355328) then
 bif decide (List.length a0 + List.length a2 ≤ 140737488355328) then
 some (a0 ++ a2)
 else none
 else none
 else
 none
 else none
 else none

noncomputable def roaring_Set_put (k : Nat) (a0 : (List Int)) (a1 : (List (Int × ((List Int) × ((List Int) × (List (Int × Int))))))) (a2 : Int) (a3 : (Int × ((List Int) × ((List Int) × (List (Int × Int)))))) : Option ((List Int) × (List (Int × ((List Int) × ((List Int) × (List (Int × Int))))))) :=
 (roaring_Set_find k a0 a1 a2).bind fun y1 =>
 bif y1.2.2.2 then
 bif decide ((0 : Int) ≤ y1.2.2.1) then
 bif decide (y1.2.2.1 < (y1.2.1.length : Int)) then
 some (y1.1, (y1.2.1.set (Int.toNat y1.2.2.1) a3))
 else none
 else none
 else
 (slices_Insert_uint16 k y1.1 y1.2.2.1 [a2]).bind fun y3 =>
 (slices_Insert_Container k y1.2.1 y1.2.2.1 [a3]).bind fun y4 =>
 some (y3, y4)

noncomputable def roaring_Set_AddRange_l0 : Nat → (List Int) → (List (Int × ((List Int) × ((List Int) × (List (Int × Int)))))) → Int → Int → Option ((List Int) × (List (Int × ((List Int) × ((List Int) × (List (Int × Int)))))))
 | 0, _, _, _, _ => none
 | k + 1, p2_0, p2_1, p2_2, p2_3 =>
 bif (decide (p2_2 < p2_3)) then
 let v21 := IntKind.wrap .u64 ((shrI .u64 p2_2 16) + 1)
 (roaring_Set_get k p2_0 p2_1 (IntKind.wrap .u16 (shrI .u64 p2_2 16))).bind fun y28 =>
 (container_Container_Flip k (0, ([], ([], []))) (IntKind.wrap .i64 (IntKind.wrap .u64 (p2_2 - (shlI .u64 (shrI .u64 p2_2 16) 16)))) (IntKind.wrap .i64 (IntKind.wrap .u64 ((min p2_3 (shlI .u64 v21 16)) - (shlI .u64 (shrI .u64 p2_2 16) 16))))).bind fun y33 =>
 (container_Container_Or k y28.2.2 y33).bind fun y34 =>
 (roaring_Set_put k y28.1 y28.2.1 (IntKind.wrap .u16 (shrI .u64 p2_2 16)) y34).bind fun y35 =>
 roaring_Set_AddRange_l0 k y35.1 y35.2 (min p2_3 (shlI .u64 v21 16)) p2_3
 else
 some (p2_0, p2_1)
noncomputable def roaring_Set_AddRange (k : Nat) (a0 : (List Int)) (a1 : (List (Int × ((List Int) × ((List Int) × (List (Int × Int))))))) (a2 : Int) (a3 : Int) : Option ((List Int) × (List (Int × ((List Int) × ((List Int) × (List (Int × Int))))))) :=
 (roaring_Set_AddRange_l0 k a0 a1 a2 (min a3 4294967296)).bind fun y36 =>
 some (y36.1, y36.2)

noncomputable def slices_Clone_uint16_w (k : Nat) (a0 : (List Int)) : Option ((List Int) × (List Int)) :=
 bif a0.isEmpty then
 (bothEq
 (some (a0, []))
 (bif decide ((List.length ([] : List Int) + List.length a0) * 2 ≤ 140737488355328) then
 bif decide (List.length ([] : List Int) + List.length a0 ≤ 140737488355328) then
 some (a0, (([] : List Int) ++ a0))
 else none
 else none))
 else
 bif decide ((List.length ([] : List Int) + List.length a0) * 2 ≤ 140737488355328) then
 bif decide (List.length ([] : List Int) + List.length a0 ≤ 140737488355328) then
 some (a0, (([] : List Int) ++ a0))
 else none
 else none

noncomputable def roaring_Set_Keys (k : Nat) (a0 : (List Int)) (a1 : (List (Int × ((List Int) × ((List Int) × (List (Int × Int))))))) : Option ((List Int) × (List (Int × ((List Int) × ((List Int) × (List (Int × Int)))))) × (List Int)) :=
 (slices_Clone_uint16_w k a0).bind fun y1 =>
 some (y1.1, a1, y1.2)

noncomputable def slices_Clone_uint32 (k : Nat) (a0 : (List Int)) : Option ((List Int)) :=
 match a0 with
 | [] => some []
 | x :: l =>
 bif decide ((List.length ([] : List Int) + List.length (x :: l)) * 4 ≤ 140737488355328) then
 bif decide (List.length ([] : List Int) + List.length (x :: l) ≤ 140737488355328) then
 some (([] : List Int) ++ (x :: l))
 else none
 else none

noncomputable def math_bits_Len64 (k : Nat) (a0 : Int) : Option (Int) :=
 bif (decide ((4294967296 : Int) ≤ a0)) then
 bif (decide ((65536 : Int) ≤ (shrI .u64 a0 32))) then
 let v5 := IntKind.wrap .i64 (32 + 16)
 bif (decide ((256 : Int) ≤ (shrI .u64 (shrI .u64 a0 32) 16))) then
 bif decide ((0 : Int) ≤ (IntKind.wrap .u8 (shrI .u64 (shrI .u64 (shrI .u64 a0 32) 16) 8))) then
 bif Nat.blt (Int.toNat (IntKind.wrap .u8 (shrI .u64 (shrI .u64 (shrI .u64 a0 32) 16) 8))) (ByteArray.size str0) then
 some (IntKind.wrap .i64 ((IntKind.wrap .i64 (v5 + 8)) + (IntKind.wrap .i64 (strAt str0 (Int.toNat (IntKind.wrap .u8 (shrI .u64 (shrI .u64 (shrI .u64 a0 32) 16) 8)))))))
 else none
 else none
 else
 bif decide ((0 : Int) ≤ (IntKind.wrap .u8 (shrI .u64 (shrI .u64 a0 32) 16))) then
 bif Nat.blt (Int.toNat (IntKind.wrap .u8 (shrI .u64 (shrI .u64 a0 32) 16))) (ByteArray.size str0) then
 some (IntKind.wrap .i64 (v5 + (IntKind.wrap .i64 (strAt str0 (Int.toNat (IntKind.wrap .u8 (shrI .u64 (shrI .u64 a0 32) 16)))))))
 else none
 else none
 else
 bif (decide ((256 : Int) ≤ (shrI .u64 a0 32))) then
 bif decide ((0 : Int) ≤ (IntKind.wrap .u8 (shrI .u64 (shrI .u64 a0 32) 8))) then
 bif Nat.blt (Int.toNat (IntKind.wrap .u8 (shrI .u64 (shrI .u64 a0 32) 8))) (ByteArray.size str0) then
 some (IntKind.wrap .i64 ((IntKind.wrap .i64 (32 + 8)) + (IntKind.wrap .i64 (strAt str0 (Int.toNat (IntKind.wrap .u8 (shrI .u64 (shrI .u64 a0 32) 8)))))))
 else none
 else none
 else
 bif decide ((0 : Int) ≤ (IntKind.wrap .u8 (shrI .u64 a0 32))) then
 bif Nat.blt (Int.toNat (IntKind.wrap .u8 (shrI .u64 a0 32))) (ByteArray.size str0) then
 some (IntKind.wrap .i64 (32 + (IntKind.wrap .i64 (strAt str0 (Int.toNat (IntKind.wrap .u8 (shrI .u64 a0 32)))))))
 else none
 else none
 else
 bif (decide ((65536 : Int) ≤ a0)) then
 let v30 := IntKind.wrap .i64 (0 + 16)
 bif (decide ((256 : Int) ≤ (shrI .u64 a0 16))) then
 bif decide ((0 : Int) ≤ (IntKind.wrap .u8 (shrI .u64 (shrI .u64 a0 16) 8))) then
 bif Nat.blt (Int.toNat (IntKind.wrap .u8 (shrI .u64 (shrI .u64 a0 16) 8))) (ByteArray.size str0) then
 some (IntKind.wrap .i64 ((IntKind.wrap .i64 (v30 + 8)) + (IntKind.wrap .i64 (strAt str0 (Int.toNat (IntKind.wrap .u8 (shrI .u64 (shrI .u64 a0 16) 8)))))))
 else none
 else none
 else
 bif decide ((0 : Int) ≤ (IntKind.wrap .u8 (shrI .u64 a0 16))) then
 bif Nat.blt (Int.toNat (IntKind.wrap .u8 (shrI .u64 a0 16))) (ByteArray.size str0) then
 some (IntKind.wrap .i64 (v30 + (IntKind.wrap .i64 (strAt str0 (Int.toNat (IntKind.wrap .u8 (shrI .u64 a0 16)))))))
 else none
 else none
 else
 bif (decide ((256 : Int) ≤ a0)) then
 bif decide ((0 : Int) ≤ (IntKind.wrap .u8 (shrI .u64 a0 8))) then
 bif Nat.blt (Int.toNat (IntKind.wrap .u8 (shrI .u64 a0 8))) (ByteArray.size str0) then
 some (IntKind.wrap .i64 ((IntKind.wrap .i64 (0 + 8)) + (IntKind.wrap .i64 (strAt str0 (Int.toNat (IntKind.wrap .u8 (shrI .u64 a0 8)))))))
 else none
 else none
 else
 bif decide ((0 : Int) ≤ (IntKind.wrap .u8 a0)) then
 bif Nat.blt (Int.toNat (IntKind.wrap .u8 a0)) (ByteArray.size str0) then
 some (IntKind.wrap .i64 (0 + (IntKind.wrap .i64 (strAt str0 (Int.toNat (IntKind.wrap .u8 a0))))))
 else none
 else none

noncomputable def math_bits_Len (k : Nat) (a0 : Int) : Option (Int) :=
 (math_bits_Len64 k a0).bind fun y1 =>
 some y1

noncomputable def cmp_isNaN_uint32 (k : Nat) (a0 : Int) : Option (Bool) :=
 some (!(decide (a0 = a0)))

noncomputable def cmp_Less_uint32 (k : Nat) (a0 : Int) (a1 : Int) : Option (Bool) :=
 (cmp_isNaN_uint32 k a0).bind fun y1 =>
 bif y1 then
 (cmp_isNaN_uint32 k a1).bind fun y2 =>
 bif !y2 then
 some true
 else
 some (decide (a0 < a1))
 else
 some (decide (a0 < a1))

noncomputable def slices_insertionSortOrdered_uint32_l1 : Nat → (List Int) → Int → Int → Int → Int → Option ((List Int) × Int × Int × Int)
 | 0, _, _, _, _, _ => none
 | k + 1, p5_0, p5_1, p5_2, p5_3, p5_4 =>
 bif (decide (p5_1 < p5_4)) then
 bif decide ((0 : Int) ≤ p5_4) then
 bif decide (p5_4 < (p5_0.length : Int)) then
 let v17 := IntKind.wrap .i64 (p5_4 - 1)
 bif decide ((0 : Int) ≤ v17) then
 bif decide (v17 < (p5_0.length : Int)) then
 (cmp_Less_uint32 k (p5_0.getD (Int.toNat p5_4) (0 : Int)) (p5_0.getD (Int.toNat v17) (0 : Int))).bind fun y19 =>
 bif y19 then
 let v20 := IntKind.wrap .i64 (p5_4 - 1)
 let v21 := IntKind.wrap .i64 (p5_4 - 1)
 bif decide ((0 : Int) ≤ v21) then
 bif decide (v21 < (p5_0.length : Int)) then
 bif decide ((0 : Int) ≤ p5_4) then
 bif decide (p5_4 < (p5_0.length : Int)) then
 bif decide ((0 : Int) ≤ p5_4) then
 bif decide (p5_4 < (p5_0.length : Int)) then
 let v24 := p5_0.set (Int.toNat p5_4) (p5_0.getD (Int.toNat v21) (0 : Int))
 bif decide ((0 : Int) ≤ v20) then
 bif decide (v20 < (v24.length : Int)) then
 slices_insertionSortOrdered_uint32_l1 k (v24.set (Int.toNat v20) (p5_0.getD (Int.toNat p5_4) (0 : Int))) p5_1 p5_2 p5_3 (IntKind.wrap .i64 (p5_4 - 1))
 else none
 else none
 else none
 else none
 else none
 else none
 else none
 else none
 else
 some (p5_0, p5_1, p5_2, p5_3)
 else none
 else none
 else none
 else none
 else
 some (p5_0, p5_1, p5_2, p5_3)
noncomputable def slices_insertionSortOrdered_uint32_l0 : Nat → (List Int) → Int → Int → Int → Option ((List Int))
 | 0, _, _, _, _ => none
 | k + 1, p2_0, p2_1, p2_2, p2_3 =>
 bif (decide (p2_3 < p2_2)) then
 (slices_insertionSortOrdered_uint32_l1 k p2_0 p2_1 p2_2 p2_3 p2_3).bind fun y30 =>
 slices_insertionSortOrdered_uint32_l0 k y30.1 y30.2.1 y30.2.2.1 (IntKind.wrap .i64 (y30.2.2.2 + 1))
 else
 some p2_0
noncomputable def slices_insertionSortOrdered_uint32 (k : Nat) (a0 : (List Int)) (a1 : Int) (a2 : Int) : Option ((List Int)) :=
 (slices_insertionSortOrdered_uint32_l0 k a0 a1 a2 (IntKind.wrap .i64 (a1 + 1))).bind fun y32 =>
 some y32

noncomputable def slices_pdqsortOrdered_uint32_l0 : Nat → (List Int) → Int → Int → Int → Bool → Bool → Option ((List Int))
 | 0, _, _, _, _, _, _ => none
 | k + 1, p3_0, p3_1, p3_2, p3_3, p3_4, p3_5 =>
 bif (decide ((IntKind.wrap .i64 (p3_2 - p3_1)) ≤ 12)) then
 (slices_insertionSortOrdered_uint32 k p3_0 p3_1 p3_2).bind fun y7 =>
 some y7
 else
 bif (decide (p3_3 = 0)) then
 none
 else
 bif !p3_4 then
 none
 else
 none
noncomputable def slices_pdqsortOrdered_uint32 (k : Nat) (a0 : (List Int)) (a1 : Int) (a2 : Int) (a3 : Int) : Option ((List Int)) :=
 (slices_pdqsortOrdered_uint32_l0 k a0 a1 a2 a3 true true).bind fun y9 =>
 some y9

noncomputable def slices_Sort_uint32 (k : Nat) (a0 : (List Int)) : Option ((List Int)) :=
 (math_bits_Len k (IntKind.wrap .u64 (a0.length : Int))).bind fun y3 =>
 (slices_pdqsortOrdered_uint32 k a0 0 (a0.length : Int) y3).bind fun y4 =>
 some y4

noncomputable def arrays_May_l0 : Nat → (List Int) → Int → Option ((Bool) ⊕ (Unit))
 | 0, _, _ => none
 | k + 1, p3_0, p3_1 =>
 bif (decide (p3_1 < (p3_0.length : Int))) then
 let v10 := IntKind.wrap .i64 (p3_1 - 1)
 bif decide ((0 : Int) ≤ v10) then
 bif decide (v10 < (p3_0.length : Int)) then
 bif decide ((0 : Int) ≤ p3_1) then
 bif decide (p3_1 < (p3_0.length : Int)) then
 bif (decide ((p3_0.getD (Int.toNat p3_1) (0 : Int)) ≤ (p3_0.getD (Int.toNat v10) (0 : Int)))) then
 some (.inl false)
 else
 arrays_May_l0 k p3_0 (IntKind.wrap .i64 (p3_1 + 1))
 else none
 else none
 else none
 else none
 else
 some (.inr ())
noncomputable def arrays_May (k : Nat) (a0 : (List Int)) : Option (Bool) :=
 (arrays_May_l0 k a0 1).bind fun y15 =>
 (match y15 with
 | .inl y16 =>
 some y16
 | .inr y17 =>
 some true)

noncomputable def container_OfArray (k : Nat) (a0 : (List Int)) : Option ((Int × ((List Int) × ((List Int) × (List (Int × Int))))) × Bool) :=
 (arrays_May k a0).bind fun y1 =>
 bif !y1 then
 some ((0, ([], ([], []))), false)
 else
 (slices_Clone_uint16 k a0).bind fun y2 =>
 some ((1, (y2, ([], []))), true)

noncomputable def roaring_Set_push (k : Nat) (a0 : (List Int)) (a1 : (List (Int × ((List Int) × ((List Int) × (List (Int × Int))))))) (a2 : Int) (a3 : (List Int)) : Option ((List Int) × (List (Int × ((List Int) × ((List Int) × (List (Int × Int))))))) :=
 (container_OfArray k a3).bind fun y1 =>
 bif decide ((List.length a0 + List.length [a2]) * 2 ≤ 140737488355328) then
 bif decide (List.length a0 + List.length [a2] ≤ 140737488355328) then
 (container_Container_Canonical k y1.1).bind fun y3 =>
 bif decide ((List.length a1 + List.length [y3]) * 80 ≤ 140737488355328) then
 bif decide (List.length a1 + List.length [y3] ≤ 140737488355328) then
 some ((a0 ++ [a2]), (a1 ++ [y3]))
 else none
 else none
 else none
 else none

noncomputable def roaring_Of_l0 : Nat → (List Int) → (List Int) → (List (Int × ((List Int) × ((List Int) × (List (Int × Int)))))) → (List Int) → Int → Int → Option ((List Int) × (List Int) × (List (Int × ((List Int) × ((List Int) × (List (Int × Int)))))) × (List Int))
 | 0, _, _, _, _, _, _ => none
 | k + 1, p7_0, p7_1, p7_2, p7_3, p7_4, p7_5 =>
 bif (decide (p7_5 < p7_4)) then
 bif decide ((0 : Int) ≤ p7_5) then
 bif decide (p7_5 < (p7_0.length : Int)) then
 let v55 := p7_0.getD (Int.toNat p7_5) (0 : Int)
 bif (decide ((0 : Int) < p7_5)) then
 let v57 := IntKind.wrap .i64 (p7_5 - 1)
 bif decide ((0 : Int) ≤ v57) then
 bif decide (v57 < (p7_0.length : Int)) then
 bif (decide ((p7_0.getD (Int.toNat v57) (0 : Int)) = v55)) then
 roaring_Of_l0 k p7_0 p7_1 p7_2 p7_3 p7_4 (IntKind.wrap .i64 (p7_5 + 1))
 else
 bif (decide ((0 : Int) < (p7_3.length : Int))) then
 let v63 := IntKind.wrap .i64 (p7_5 - 1)
 bif decide ((0 : Int) ≤ v63) then
 bif decide (v63 < (p7_0.length : Int)) then
 bif (!(decide ((shrI .u32 (p7_0.getD (Int.toNat v63) (0 : Int)) 16) = (shrI .u32 v55 16)))) then
 let v68 := IntKind.wrap .i64 (p7_5 - 1)
 bif decide ((0 : Int) ≤ v68) then
 bif decide (v68 < (p7_0.length : Int)) then
 (roaring_Set_push k p7_1 p7_2 (IntKind.wrap .u16 (shrI .u32 (p7_0.getD (Int.toNat v68) (0 : Int)) 16)) p7_3).bind fun y72 =>
 bif decide ((List.length ([] : List Int) + List.length [(IntKind.wrap .u16 v55)]) * 2 ≤ 140737488355328) then
 bif decide (List.length ([] : List Int) + List.length [(IntKind.wrap .u16 v55)] ≤ 140737488355328) then
 roaring_Of_l0 k p7_0 y72.1 y72.2 (([] : List Int) ++ [(IntKind.wrap .u16 v55)]) p7_4 (IntKind.wrap .i64 (p7_5 + 1))
 else none
 else none
 else none
 else none
 else
 bif decide ((List.length p7_3 + List.length [(IntKind.wrap .u16 v55)]) * 2 ≤ 140737488355328) then
 bif decide (List.length p7_3 + List.length [(IntKind.wrap .u16 v55)] ≤ 140737488355328) then
 roaring_Of_l0 k p7_0 p7_1 p7_2 (p7_3 ++ [(IntKind.wrap .u16 v55)]) p7_4 (IntKind.wrap .i64 (p7_5 + 1))
 else none
 else none
 else none
 else none
 else
 bif decide ((List.length p7_3 + List.length [(IntKind.wrap .u16 v55)]) * 2 ≤ 140737488355328) then
 bif decide (List.length p7_3 + List.length [(IntKind.wrap .u16 v55)] ≤ 140737488355328) then
 roaring_Of_l0 k p7_0 p7_1 p7_2 (p7_3 ++ [(IntKind.wrap .u16 v55)]) p7_4 (IntKind.wrap .i64 (p7_5 + 1))
 else none
 else none
 else none
 else none
 else
 bif (decide ((0 : Int) < (p7_3.length : Int))) then
 let v84 := IntKind.wrap .i64 (p7_5 - 1)
 bif decide ((0 : Int) ≤ v84) then
 bif decide (v84 < (p7_0.length : Int)) then
 bif (!(decide ((shrI .u32 (p7_0.getD (Int.toNat v84) (0 : Int)) 16) = (shrI .u32 v55 16)))) then
 let v89 := IntKind.wrap .i64 (p7_5 - 1)
 bif decide ((0 : Int) ≤ v89) then
 bif decide (v89 < (p7_0.length : Int)) then
 (roaring_Set_push k p7_1 p7_2 (IntKind.wrap .u16 (shrI .u32 (p7_0.getD (Int.toNat v89) (0 : Int)) 16)) p7_3).bind fun y93 =>
 bif decide ((List.length ([] : List Int) + List.length [(IntKind.wrap .u16 v55)]) * 2 ≤ 140737488355328) then
 bif decide (List.length ([] : List Int) + List.length [(IntKind.wrap .u16 v55)] ≤ 140737488355328) then
 roaring_Of_l0 k p7_0 y93.1 y93.2 (([] : List Int) ++ [(IntKind.wrap .u16 v55)]) p7_4 (IntKind.wrap .i64 (p7_5 + 1))
 else none
 else none
 else none
 else none
 else
 bif decide ((List.length p7_3 + List.length [(IntKind.wrap .u16 v55)]) * 2 ≤ 140737488355328) then
 bif decide (List.length p7_3 + List.length [(IntKind.wrap .u16 v55)] ≤ 140737488355328) then
 roaring_Of_l0 k p7_0 p7_1 p7_2 (p7_3 ++ [(IntKind.wrap .u16 v55)]) p7_4 (IntKind.wrap .i64 (p7_5 + 1))
 else none
 else none
 else none
 else none
 else
 bif decide ((List.length p7_3 + List.length [(IntKind.wrap .u16 v55)]) * 2 ≤ 140737488355328) then
 bif decide (List.length p7_3 + List.length [(IntKind.wrap .u16 v55)] ≤ 140737488355328) then
 roaring_Of_l0 k p7_0 p7_1 p7_2 (p7_3 ++ [(IntKind.wrap .u16 v55)]) p7_4 (IntKind.wrap .i64 (p7_5 + 1))
 else none
 else none
 else none
 else none
 else
 some (p7_0, p7_1, p7_2, p7_3)
noncomputable def roaring_Of (k : Nat) (a0 : (List Int)) : Option ((List Int) × (List (Int × ((List Int) × ((List Int) × (List (Int × Int))))))) :=
 (slices_Clone_uint32 k a0).bind fun y1 =>
 (slices_Sort_uint32 k y1).bind fun y2 =>
 (roaring_New k).bind fun y3 =>
 (roaring_Of_l0 k y2 y3.1 y3.2 [] (y2.length : Int) 0).bind fun y103 =>
 bif (decide ((0 : Int) < (y103.2.2.2.length : Int))) then
 let v107 := IntKind.wrap .i64 ((y103.1.length : Int) - 1)
 bif decide ((0 : Int) ≤ v107) then
 bif decide (v107 < (y103.1.length : Int)) then
 (roaring_Set_push k y103.2.1 y103.2.2.1 (IntKind.wrap .u16 (shrI .u32 (y103.1.getD (Int.toNat v107) (0 : Int)) 16)) y103.2.2.2).bind fun y111 =>
 some (y111.1, y111.2)
 else none
 else none
 else
 some (y103.2.1, y103.2.2.1)

noncomputable def roaring_Spans_l0 : Nat → (List Int) → (List (Int × ((List Int) × ((List Int) × (List (Int × Int)))))) → (List (Int × Int)) → Int → Int → Option ((List Int) × (List (Int × ((List Int) × ((List Int) × (List (Int × Int)))))))
 | 0, _, _, _, _, _ => none
 | k + 1, p4_0, p4_1, p4_2, p4_3, p4_4 =>
 bif (decide (p4_4 < p4_3)) then
 bif decide ((0 : Int) ≤ p4_4) then
 bif decide (p4_4 < (p4_2.length : Int)) then
 let v8 := p4_2.getD (Int.toNat p4_4) ((0 : Int), (0 : Int))
 (roaring_Set_AddRange k p4_0 p4_1 v8.1 v8.2).bind fun y9 =>
 roaring_Spans_l0 k y9.1 y9.2 p4_2 p4_3 (IntKind.wrap .i64 (p4_4 + 1))
 else none
 else none
 else
 some (p4_0, p4_1)
noncomputable def roaring_Spans (k : Nat) (a0 : (List (Int × Int))) : Option ((List Int) × (List (Int × ((List Int) × ((List Int) × (List (Int × Int))))))) :=
 (roaring_New k).bind fun y1 =>
 (roaring_Spans_l0 k y1.1 y1.2 a0 (a0.length : Int) 0).bind fun y11 =>
 some (y11.1, y11.2)

noncomputable def slices_Grow_uint16 (k : Nat) (a0 : Int) : Option ((List Int)) :=
 bif (decide (a0 < 0)) then
 none
 else
 let v3 := IntKind.wrap .i64 (a0 - (IntKind.wrap .i64 (0 - 0)))
 bif (decide ((0 : Int) < v3)) then
 bif decide ((0 : Int) < v3) then
 bif decide ((v3 : Int) * 2 ≤ 140737488355328) then
 bif decide (v3 ≤ 140737488355328) then
 bif decide ((0 : Int) ≤ (List.length (List.replicate (Int.toNat v3) (0 : Int)) : Int)) then
 bif decide (0 < List.length (List.replicate (Int.toNat v3) (0 : Int))) then
 some ((List.replicate (Int.toNat v3) (0 : Int)).take (Int.toNat 0))
 else none
 else none
 else none
 else none
 else none
 else
 some []

noncomputable def slices_Concat_uint16_l0 : Nat → (List (List Int)) → Int → (List (List Int)) → Int → Int → Option ((List (List Int)) × Int)
 | 0, _, _, _, _, _ => none
 | k + 1, p4_0, p4_1, p4_2, p4_3, p4_4 =>
 bif (decide (p4_4 < p4_3)) then
 bif decide ((0 : Int) ≤ p4_4) then
 bif decide (p4_4 < (p4_2.length : Int)) then
 let v11 := IntKind.wrap .i64 (p4_1 + ((p4_2.getD (Int.toNat p4_4) []).length : Int))
 bif (decide (v11 < 0)) then
 none
 else
 slices_Concat_uint16_l0 k p4_0 v11 p4_2 p4_3 (IntKind.wrap .i64 (p4_4 + 1))
 else none
 else none
 else
 some (p4_0, p4_1)
noncomputable def slices_Concat_uint16_l1 : Nat → (List Int) → (List (List Int)) → Int → Int → Option ((List Int))
 | 0, _, _, _, _ => none
 | k + 1, p12_0, p12_1, p12_2, p12_3 =>
 bif (decide (p12_3 < p12_2)) then
 bif decide ((0 : Int) ≤ p12_3) then
 bif decide (p12_3 < (p12_1.length : Int)) then
 let v22 := p12_1.getD (Int.toNat p12_3) []
 bif decide ((List.length p12_0 + List.length v22) * 2 ≤ 140737488355328) then
 bif decide (List.length p12_0 + List.length v22 ≤ 140737488355328) then
 slices_Concat_uint16_l1 k (p12_0 ++ v22) p12_1 p12_2 (IntKind.wrap .i64 (p12_3 + 1))
 else none
 else none
 else none
 else none
 else
 some p12_0
noncomputable def slices_Concat_uint16 (k : Nat) (a0 : (List (List Int))) : Option ((List Int)) :=
 (slices_Concat_uint16_l0 k a0 0 a0 (a0.length : Int) 0).bind fun y14 =>
 (slices_Grow_uint16 k y14.2).bind fun y15 =>
 (slices_Concat_uint16_l1 k y15 y14.1 (y14.1.length : Int) 0).bind fun y25 =>
 some y25

noncomputable def slices_insertionSortOrdered_uint16_l1 : Nat → (List Int) → Int → Int → Int → Int → Option ((List Int) × Int × Int × Int)
 | 0, _, _, _, _, _ => none
 | k + 1, p5_0, p5_1, p5_2, p5_3, p5_4 =>
 bif (decide (p5_1 < p5_4)) then
 bif decide ((0 : Int) ≤ p5_4) then
 bif decide (p5_4 < (p5_0.length : Int)) then
 let v17 := IntKind.wrap .i64 (p5_4 - 1)
 bif decide ((0 : Int) ≤ v17) then
 bif decide (v17 < (p5_0.length : Int)) then
 (cmp_Less_uint16 k (p5_0.getD (Int.toNat p5_4) (0 : Int)) (p5_0.getD (Int.toNat v17) (0 : Int))).bind fun y19 =>
 bif y19 then
 let v20 := IntKind.wrap .i64 (p5_4 - 1)
 let v21 := IntKind.wrap .i64 (p5_4 - 1)
 bif decide ((0 : Int) ≤ v21) then
 bif decide (v21 < (p5_0.length : Int)) then
 bif decide ((0 : Int) ≤ p5_4) then
 bif decide (p5_4 < (p5_0.length : Int)) then
 bif decide ((0 : Int) ≤ p5_4) then
 bif decide (p5_4 < (p5_0.length : Int)) then
 let v24 := p5_0.set (Int.toNat p5_4) (p5_0.getD (Int.toNat v21) (0 : Int))
 bif decide ((0 : Int) ≤ v20) then
 bif decide (v20 < (v24.length : Int)) then
 slices_insertionSortOrdered_uint16_l1 k (v24.set (Int.toNat v20) (p5_0.getD (Int.toNat p5_4) (0 : Int))) p5_1 p5_2 p5_3 (IntKind.wrap .i64 (p5_4 - 1))
 else none
 else none
 else none
 else none
 else none
 else none
 else none
 else none
 else
 some (p5_0, p5_1, p5_2, p5_3)
 else none
 else none
 else none
 else none
 else
 some (p5_0, p5_1, p5_2, p5_3)
noncomputable def slices_insertionSortOrdered_uint16_l0 : Nat → (List Int) → Int → Int → Int → Option ((List Int))
 | 0, _, _, _, _ => none
 | k + 1, p2_0, p2_1, p2_2, p2_3 =>
 bif (decide (p2_3 < p2_2)) then
 (slices_insertionSortOrdered_uint16_l1 k p2_0 p2_1 p2_2 p2_3 p2_3).bind fun y30 =>
 slices_insertionSortOrdered_uint16_l0 k y30.1 y30.2.1 y30.2.2.1 (IntKind.wrap .i64 (y30.2.2.2 + 1))
 else
 some p2_0
noncomputable def slices_insertionSortOrdered_uint16 (k : Nat) (a0 : (List Int)) (a1 : Int) (a2 : Int) : Option ((List Int)) :=
 (slices_insertionSortOrdered_uint16_l0 k a0 a1 a2 (IntKind.wrap .i64 (a1 + 1))).bind fun y32 =>
 some y32

noncomputable def slices_pdqsortOrdered_uint16_l0 : Nat → (List Int) → Int → Int → Int → Bool → Bool → Option ((List Int))
 | 0, _, _, _, _, _, _ => none
 | k + 1, p3_0, p3_1, p3_2, p3_3, p3_4, p3_5 =>
 bif (decide ((IntKind.wrap .i64 (p3_2 - p3_1)) ≤ 12)) then
 (slices_insertionSortOrdered_uint16 k p3_0 p3_1 p3_2).bind fun y7 =>
 some y7
 else
 bif (decide (p3_3 = 0)) then
 none
 else
 bif !p3_4 then
 none
 else
 none
noncomputable def slices_pdqsortOrdered_uint16 (k : Nat) (a0 : (List Int)) (a1 : Int) (a2 : Int) (a3 : Int) : Option ((List Int)) :=
 (slices_pdqsortOrdered_uint16_l0 k a0 a1 a2 a3 true true).bind fun y9 =>
 some y9

noncomputable def slices_Sort_uint16 (k : Nat) (a0 : (List Int)) : Option ((List Int)) :=
 (math_bits_Len k (IntKind.wrap .u64 (a0.length : Int))).bind fun y3 =>
 (slices_pdqsortOrdered_uint16 k a0 0 (a0.length : Int) y3).bind fun y4 =>
 some y4

noncomputable def slices_Compact_uint16_l1 : Nat → (List Int) → Int → Int → Int → Option ((List Int) × Int)
 | 0, _, _, _, _ => none
 | k + 1, p10_0, p10_1, p10_2, p10_3 =>
 bif (decide (p10_3 < ((List.length p10_0 - (Int.toNat p10_2) : Nat) : Int))) then
 bif decide ((0 : Int) ≤ p10_3) then
 bif Nat.blt ((Int.toNat p10_2) + (Int.toNat p10_3)) (List.length p10_0) then
 let v23 := IntKind.wrap .i64 (p10_3 - 1)
 bif decide ((0 : Int) ≤ v23) then
 bif Nat.blt ((Int.toNat p10_2) + (Int.toNat v23)) (List.length p10_0) then
 bif (!(decide ((p10_0.getD ((Int.toNat p10_2) + (Int.toNat p10_3)) (0 : Int)) = (p10_0.getD ((Int.toNat p10_2) + (Int.toNat v23)) (0 : Int))))) then
 bif decide ((0 : Int) ≤ p10_3) then
 bif Nat.blt ((Int.toNat p10_2) + (Int.toNat p10_3)) (List.length p10_0) then
 bif decide ((0 : Int) ≤ p10_1) then
 bif decide (p10_1 < (p10_0.length : Int)) then
 slices_Compact_uint16_l1 k (p10_0.set (Int.toNat p10_1) (p10_0.getD ((Int.toNat p10_2) + (Int.toNat p10_3)) (0 : Int))) (IntKind.wrap .i64 (p10_1 + 1)) ((Int.toNat p10_2 : Nat) : Int) (IntKind.wrap .i64 (p10_3 + 1))
 else none
 else none
 else none
 else none
 else
 slices_Compact_uint16_l1 k p10_0 p10_1 ((Int.toNat p10_2 : Nat) : Int) (IntKind.wrap .i64 (p10_3 + 1))
 else none
 else none
 else none
 else none
 else
 some (p10_0, p10_1)
noncomputable def slices_Compact_uint16_l0 : Nat → (List Int) → Int → Option (((List Int)) ⊕ ((List Int)))
 | 0, _, _ => none
 | k + 1, p5_0, p5_1 =>
 bif (decide (p5_1 < (p5_0.length : Int))) then
 bif decide ((0 : Int) ≤ p5_1) then
 bif decide (p5_1 < (p5_0.length : Int)) then
 let v38 := IntKind.wrap .i64 (p5_1 - 1)
 bif decide ((0 : Int) ≤ v38) then
 bif decide (v38 < (p5_0.length : Int)) then
 bif (decide ((p5_0.getD (Int.toNat p5_1) (0 : Int)) = (p5_0.getD (Int.toNat v38) (0 : Int)))) then
 bif decide ((0 : Int) ≤ p5_1) then
 bif decide (p5_1 ≤ (List.length p5_0 : Int)) then
 (slices_Compact_uint16_l1 k p5_0 p5_1 ((Int.toNat p5_1 : Nat) : Int) 1).bind fun y41 =>
 bif decide ((0 : Int) ≤ y41.2) then
 bif decide (y41.2 ≤ (List.length y41.1 : Int)) then
 bif Nat.blt (Int.toNat y41.2) (List.length y41.1) then
 let v42 := List.take (Int.toNat y41.2) y41.1 ++ List.replicate (List.length y41.1 - (Int.toNat y41.2)) (0 : Int)
 bif decide ((0 : Int) ≤ y41.2) then
 bif decide (y41.2 ≤ (List.length v42 : Int)) then
 bif decide (0 < List.length v42) then
 some (.inl (v42.take (Int.toNat y41.2)))
 else none
 else none
 else none
 else none
 else none
 else none
 else none
 else none
 else
 slices_Compact_uint16_l0 k p5_0 (IntKind.wrap .i64 (p5_1 + 1))
 else none
 else none
 else none
 else none
 else
 some (.inr p5_0)
noncomputable def slices_Compact_uint16 (k : Nat) (a0 : (List Int)) : Option ((List Int)) :=
 bif (decide ((a0.length : Int) < 2)) then
 some a0
 else
 (slices_Compact_uint16_l0 k a0 1).bind fun y45 =>
 (match y45 with
 | .inl y46 =>
 some y46
 | .inr y47 =>
 some y47)

noncomputable def slices_BinarySearch_uint16_l0 : Nat → (List Int) → Int → Int → Int → Int → Option ((List Int) × Int × Int × Int)
 | 0, _, _, _, _, _ => none
 | k + 1, p4_0, p4_1, p4_2, p4_3, p4_4 =>
 bif (decide (p4_3 < p4_4)) then
 let v11 := IntKind.wrap .i64 (p4_3 + p4_4)
 bif decide ((0 : Int) ≤ (IntKind.wrap .i64 (shrI .u64 (IntKind.wrap .u64 v11) 1))) then
 bif decide ((IntKind.wrap .i64 (shrI .u64 (IntKind.wrap .u64 v11) 1)) < (p4_0.length : Int)) then
 (cmp_Less_uint16 k (p4_0.getD (Int.toNat (IntKind.wrap .i64 (shrI .u64 (IntKind.wrap .u64 v11) 1))) (0 : Int)) p4_1).bind fun y16 =>
 bif y16 then
 slices_BinarySearch_uint16_l0 k p4_0 p4_1 p4_2 (IntKind.wrap .i64 ((IntKind.wrap .i64 (shrI .u64 (IntKind.wrap .u64 v11) 1)) + 1)) p4_4
 else
 slices_BinarySearch_uint16_l0 k p4_0 p4_1 p4_2 p4_3 (IntKind.wrap .i64 (shrI .u64 (IntKind.wrap .u64 v11) 1))
 else none
 else none
 else
 some (p4_0, p4_1, p4_2, p4_3)
noncomputable def slices_BinarySearch_uint16 (k : Nat) (a0 : (List Int)) (a1 : Int) : Option (Int × Bool) :=
 (slices_BinarySearch_uint16_l0 k a0 a1 (a0.length : Int) 0 (a0.length : Int)).bind fun y18 =>
 bif (decide (y18.2.2.2 < y18.2.2.1)) then
 bif decide ((0 : Int) ≤ y18.2.2.2) then
 bif decide (y18.2.2.2 < (y18.1.length : Int)) then
 bif (decide ((y18.1.getD (Int.toNat y18.2.2.2) (0 : Int)) = y18.2.1)) then
 some (y18.2.2.2, true)
 else
 bif decide ((0 : Int) ≤ y18.2.2.2) then
 bif decide (y18.2.2.2 < (y18.1.length : Int)) then
 (slices_isNaN_uint16 k (y18.1.getD (Int.toNat y18.2.2.2) (0 : Int))).bind fun y23 =>
 bif y23 then
 (slices_isNaN_uint16 k y18.2.1).bind fun y24 =>
 some (y18.2.2.2, y24)
 else
 some (y18.2.2.2, false)
 else none
 else none
 else none
 else none
 else
 some (y18.2.2.2, false)

noncomputable def arrays_Find (k : Nat) (a0 : (List Int)) (a1 : Int) : Option (Int × Bool) :=
 (slices_BinarySearch_uint16 k a0 a1).bind fun y1 =>
 some (y1.1, y1.2)

noncomputable def container_Container_arrayHas (k : Nat) (a0 : (Int × ((List Int) × ((List Int) × (List (Int × Int)))))) (a1 : Int) : Option (Bool) :=
 (arrays_Find k a0.2.1 a1).bind fun y1 =>
 some y1.2

noncomputable def words_Has (k : Nat) (a0 : (List Int)) (a1 : Int) : Option (Bool) :=
 bif (decide ((IntKind.wrap .i64 (IntKind.wrap .u16 (a1.tdiv 64))) < (a0.length : Int))) then
 let v5 := IntKind.wrap .u16 (a1.tdiv 64)
 bif decide ((0 : Int) ≤ v5) then
 bif decide (v5 < (a0.length : Int)) then
 bif !(decide ((a1.tmod 64) < 0)) then
 some (decide ((bitsI .and .u64 (shrI .u64 (a0.getD (Int.toNat v5) (0 : Int)) (a1.tmod 64)) 1) = 1))
 else none
 else none
 else none
 else
 some false

noncomputable def container_Container_wordsHas (k : Nat) (a0 : (Int × ((List Int) × ((List Int) × (List (Int × Int)))))) (a1 : Int) : Option (Bool) :=
 (words_Has k a0.2.2.1 a1).bind fun y1 =>
 some y1

noncomputable def runs_Has_1 (k : Nat) (a0 : (Int × Int)) (a1 : Int) : Option (Int) :=
 some (IntKind.wrap .i64 ((IntKind.wrap .i64 a0.1) - (IntKind.wrap .i64 a1)))

noncomputable def slices_BinarySearchFunc_uint16_Has_1_l0 : Nat → (List (Int × Int)) → Int → Int → Int → Int → Option ((List (Int × Int)) × Int × Int × Int)
 | 0, _, _, _, _, _ => none
 | k + 1, p4_0, p4_1, p4_2, p4_3, p4_4 =>
 bif (decide (p4_3 < p4_4)) then
 let v12 := IntKind.wrap .i64 (p4_3 + p4_4)
 bif decide ((0 : Int) ≤ (IntKind.wrap .i64 (shrI .u64 (IntKind.wrap .u64 v12) 1))) then
 bif decide ((IntKind.wrap .i64 (shrI .u64 (IntKind.wrap .u64 v12) 1)) < (p4_0.length : Int)) then
 (runs_Has_1 k (p4_0.getD (Int.toNat (IntKind.wrap .i64 (shrI .u64 (IntKind.wrap .u64 v12) 1))) ((0 : Int), (0 : Int))) p4_1).bind fun y17 =>
 bif (decide (y17 < 0)) then
 slices_BinarySearchFunc_uint16_Has_1_l0 k p4_0 p4_1 p4_2 (IntKind.wrap .i64 ((IntKind.wrap .i64 (shrI .u64 (IntKind.wrap .u64 v12) 1)) + 1)) p4_4
 else
 slices_BinarySearchFunc_uint16_Has_1_l0 k p4_0 p4_1 p4_2 p4_3 (IntKind.wrap .i64 (shrI .u64 (IntKind.wrap .u64 v12) 1))
 else none
 else none
 else
 some (p4_0, p4_1, p4_2, p4_3)
noncomputable def slices_BinarySearchFunc_uint16_Has_1 (k : Nat) (a0 : (List (Int × Int))) (a1 : Int) : Option (Int × Bool) :=
 (slices_BinarySearchFunc_uint16_Has_1_l0 k a0 a1 (a0.length : Int) 0 (a0.length : Int)).bind fun y20 =>
 bif (decide (y20.2.2.2 < y20.2.2.1)) then
 bif decide ((0 : Int) ≤ y20.2.2.2) then
 bif decide (y20.2.2.2 < (y20.1.length : Int)) then
 (runs_Has_1 k (y20.1.getD (Int.toNat y20.2.2.2) ((0 : Int), (0 : Int))) y20.2.1).bind fun y23 =>
 some (y20.2.2.2, (decide (y23 = 0)))
 else none
 else none
 else
 some (y20.2.2.2, false)

noncomputable def runs_Has (k : Nat) (a0 : (List (Int × Int))) (a1 : Int) : Option (Bool) :=
 (slices_BinarySearchFunc_uint16_Has_1 k a0 a1).bind fun y1 =>
 bif y1.2 then
 some true
 else
 bif (decide ((0 : Int) < y1.1)) then
 let v4 := IntKind.wrap .i64 (y1.1 - 1)
 bif decide ((0 : Int) ≤ v4) then
 bif decide (v4 < (a0.length : Int)) then
 (runs_end k (a0.getD (Int.toNat v4) ((0 : Int), (0 : Int)))).bind fun y6 =>
 some (decide ((IntKind.wrap .i64 a1) < y6))
 else none
 else none
 else
 some false

noncomputable def container_Container_runsHas (k : Nat) (a0 : (Int × ((List Int) × ((List Int) × (List (Int × Int)))))) (a1 : Int) : Option (Bool) :=
 (runs_Has k a0.2.2.2 a1).bind fun y1 =>
 some y1

noncomputable def container_Container_Has (k : Nat) (a0 : (Int × ((List Int) × ((List Int) × (List (Int × Int)))))) (a1 : Int) : Option (Bool) :=
 (container_Container_Kind k a0).bind fun y1 =>
 bif decide (y1 = 0) then
 none
 else
 bif decide (y1 = 1) then
 (container_Container_arrayHas k a0 a1).bind fun y2 =>
 some y2
 else
 bif decide (y1 = 2) then
 (container_Container_wordsHas k a0 a1).bind fun y3 =>
 some y3
 else
 bif decide (y1 = 3) then
 (container_Container_runsHas k a0 a1).bind fun y4 =>
 some y4
 else
 none

noncomputable def container_Container_AndNot_1 (k : Nat) (a0 : Int) (a1 : (List Int)) (a2 : (List Int)) (a3 : (List (Int × Int))) (a4 : Int) : Option (Int × (List Int) × (List Int) × (List (Int × Int)) × Bool) :=
 (container_Container_Has k (a0, (a1, (a2, a3))) a4).bind fun y1 =>
 some (a0, a1, a2, a3, !y1)

noncomputable def container_sift_1 (k : Nat) (a0 : Int) (a1 : (List Int)) (a2 : (List Int)) (a3 : (List (Int × Int))) (a4 : Int) : Option (Int × (List Int) × (List Int) × (List (Int × Int)) × Bool) :=
 (container_Container_AndNot_1 k a0 a1 a2 a3 a4).bind fun y1 =>
 some (y1.1, y1.2.1, y1.2.2.1, y1.2.2.2.1, !y1.2.2.2.2)

noncomputable def slices_IndexFunc_uint16_sift_1_l0 : Nat → (List Int) → Int → (List Int) → (List Int) → (List (Int × Int)) → Int → Int → Option (((List Int) × Int × (List Int) × (List Int) × (List (Int × Int)) × Int) ⊕ ((List Int) × Int × (List Int) × (List Int) × (List (Int × Int))))
 | 0, _, _, _, _, _, _, _ => none
 | k + 1, p3_0, p3_1, p3_2, p3_3, p3_4, p3_5, p3_6 =>
 bif (decide (p3_6 < p3_5)) then
 bif decide ((0 : Int) ≤ p3_6) then
 bif decide (p3_6 < (p3_0.length : Int)) then
 (container_sift_1 k p3_1 p3_2 p3_3 p3_4 (p3_0.getD (Int.toNat p3_6) (0 : Int))).bind fun y8 =>
 bif y8.2.2.2.2 then
 some (.inl (p3_0, y8.1, y8.2.1, y8.2.2.1, y8.2.2.2.1, p3_6))
 else
 slices_IndexFunc_uint16_sift_1_l0 k p3_0 y8.1 y8.2.1 y8.2.2.1 y8.2.2.2.1 p3_5 (IntKind.wrap .i64 (p3_6 + 1))
 else none
 else none
 else
 some (.inr (p3_0, p3_1, p3_2, p3_3, p3_4))
noncomputable def slices_IndexFunc_uint16_sift_1 (k : Nat) (a0 : (List Int)) (a1 : Int) (a2 : (List Int)) (a3 : (List Int)) (a4 : (List (Int × Int))) : Option ((List Int) × Int × (List Int) × (List Int) × (List (Int × Int)) × Int) :=
 (slices_IndexFunc_uint16_sift_1_l0 k a0 a1 a2 a3 a4 (a0.length : Int) 0).bind fun y10 =>
 (match y10 with
 | .inl y11 =>
 some (y11.1, y11.2.1, y11.2.2.1, y11.2.2.2.1, y11.2.2.2.2.1, y11.2.2.2.2.2)
 | .inr y12 =>
 some (y12.1, y12.2.1, y12.2.2.1, y12.2.2.2.1, y12.2.2.2.2, (-1)))

noncomputable def slices_DeleteFunc_uint16_sift_1_l0 : Nat → (List Int) → Int → (List Int) → (List Int) → (List (Int × Int)) → Int → Int → Option ((List Int) × Int × (List Int) × (List Int) × (List (Int × Int)) × Int)
 | 0, _, _, _, _, _, _, _ => none
 | k + 1, p6_0, p6_1, p6_2, p6_3, p6_4, p6_5, p6_6 =>
 bif (decide (p6_6 < (p6_0.length : Int))) then
 bif decide ((0 : Int) ≤ p6_6) then
 bif decide (p6_6 < (p6_0.length : Int)) then
 let v14 := p6_0.getD (Int.toNat p6_6) (0 : Int)
 (container_sift_1 k p6_1 p6_2 p6_3 p6_4 v14).bind fun y15 =>
 bif !y15.2.2.2.2 then
 bif decide ((0 : Int) ≤ p6_5) then
 bif decide (p6_5 < (p6_0.length : Int)) then
 slices_DeleteFunc_uint16_sift_1_l0 k (p6_0.set (Int.toNat p6_5) v14) y15.1 y15.2.1 y15.2.2.1 y15.2.2.2.1 (IntKind.wrap .i64 (p6_5 + 1)) (IntKind.wrap .i64 (p6_6 + 1))
 else none
 else none
 else
 slices_DeleteFunc_uint16_sift_1_l0 k p6_0 y15.1 y15.2.1 y15.2.2.1 y15.2.2.2.1 p6_5 (IntKind.wrap .i64 (p6_6 + 1))
 else none
 else none
 else
 some (p6_0, p6_1, p6_2, p6_3, p6_4, p6_5)
noncomputable def slices_DeleteFunc_uint16_sift_1 (k : Nat) (a0 : (List Int)) (a1 : Int) (a2 : (List Int)) (a3 : (List Int)) (a4 : (List (Int × Int))) : Option (Int × (List Int) × (List Int) × (List (Int × Int)) × (List Int)) :=
 (slices_IndexFunc_uint16_sift_1 k a0 a1 a2 a3 a4).bind fun y1 =>
 bif (decide (y1.2.2.2.2.2 = (-1))) then
 some (y1.2.1, y1.2.2.1, y1.2.2.2.1, y1.2.2.2.2.1, y1.1)
 else
 (slices_DeleteFunc_uint16_sift_1_l0 k y1.1 y1.2.1 y1.2.2.1 y1.2.2.2.1 y1.2.2.2.2.1 y1.2.2.2.2.2 (IntKind.wrap .i64 (y1.2.2.2.2.2 + 1))).bind fun y20 =>
 bif decide ((0 : Int) ≤ y20.2.2.2.2.2) then
 bif decide (y20.2.2.2.2.2 ≤ (List.length y20.1 : Int)) then
 bif Nat.blt (Int.toNat y20.2.2.2.2.2) (List.length y20.1) then
 let v21 := List.take (Int.toNat y20.2.2.2.2.2) y20.1 ++ List.replicate (List.length y20.1 - (Int.toNat y20.2.2.2.2.2)) (0 : Int)
 bif decide ((0 : Int) ≤ y20.2.2.2.2.2) then
 bif decide (y20.2.2.2.2.2 ≤ (List.length v21 : Int)) then
 bif decide (0 < List.length v21) then
 some (y20.2.1, y20.2.2.1, y20.2.2.2.1, y20.2.2.2.2.1, (v21.take (Int.toNat y20.2.2.2.2.2)))
 else none
 else none
 else none
 else none
 else none
 else none

noncomputable def container_sift_Container_AndNot_1 (k : Nat) (a0 : Int) (a1 : (List Int)) (a2 : (List Int)) (a3 : (List (Int × Int))) (a4 : (List Int)) : Option (Int × (List Int) × (List Int) × (List (Int × Int)) × (Int × ((List Int) × ((List Int) × (List (Int × Int)))))) :=
 (slices_Clone_uint16 k a4).bind fun y1 =>
 (slices_DeleteFunc_uint16_sift_1 k y1 a0 a1 a2 a3).bind fun y2 =>
 (container_Container_Canonical k (1, (y2.2.2.2.2, ([], [])))).bind fun y3 =>
 some (y2.1, y2.2.1, y2.2.2.1, y2.2.2.2.1, y3)

noncomputable def arrays_AndNot_1 (k : Nat) (a0 : Bool) (a1 : Bool) : Option (Bool) :=
 some (!a1)

noncomputable def arrays_merge_AndNot_1_l0 : Nat → (List Int) → (List Int) → (List Int) → Option ((List Int))
 | 0, _, _, _ => none
 | k + 1, p3_0, p3_1, p3_2 =>
 bif (decide ((0 : Int) < (p3_1.length : Int))) then
 bif (decide ((p3_2.length : Int) = 0)) then
 bif (decide ((p3_1.length : Int) = 0)) then
 bif decide ((0 : Int) < (p3_1.length : Int)) then
 bif decide ((1 : Int) ≤ (p3_1.length : Int)) then
 bif decide ((0 : Int) < (p3_2.length : Int)) then
 let v189 := p3_2.getD (Int.toNat 0) (0 : Int)
 bif decide ((1 : Int) ≤ (p3_2.length : Int)) then
 (arrays_AndNot_1 k true true).bind fun y191 =>
 bif y191 then
 bif decide ((List.length p3_0 + List.length [v189]) * 2 ≤ 140737488355328) then
 bif decide (List.length p3_0 + List.length [v189] ≤ 140737488355328) then
 arrays_merge_AndNot_1_l0 k (p3_0 ++ [v189]) (p3_1.drop (Int.toNat 1)) (p3_2.drop (Int.toNat 1))
 else none
 else none
 else
 arrays_merge_AndNot_1_l0 k p3_0 (p3_1.drop (Int.toNat 1)) (p3_2.drop (Int.toNat 1))
 else none
 else none
 else none
 else none
 else
 bif (decide ((0 : Int) < (p3_2.length : Int))) then
 bif decide ((0 : Int) < (p3_2.length : Int)) then
 let v195 := p3_2.getD (Int.toNat 0) (0 : Int)
 bif decide ((0 : Int) < (p3_1.length : Int)) then
 let v196 := p3_1.getD (Int.toNat 0) (0 : Int)
 bif decide ((0 : Int) < (p3_1.length : Int)) then
 let v198 := p3_1.getD (Int.toNat 0) (0 : Int)
 bif decide ((1 : Int) ≤ (p3_1.length : Int)) then
 bif (decide (v195 ≤ v196)) then
 bif decide ((0 : Int) < (p3_2.length : Int)) then
 let v200 := p3_2.getD (Int.toNat 0) (0 : Int)
 bif decide ((1 : Int) ≤ (p3_2.length : Int)) then
 (arrays_AndNot_1 k true (decide (v195 ≤ v196))).bind fun y202 =>
 bif y202 then
 bif decide ((List.length p3_0 + List.length [v200]) * 2 ≤ 140737488355328) then
 bif decide (List.length p3_0 + List.length [v200] ≤ 140737488355328) then
 arrays_merge_AndNot_1_l0 k (p3_0 ++ [v200]) (p3_1.drop (Int.toNat 1)) (p3_2.drop (Int.toNat 1))
 else none
 else none
 else
 arrays_merge_AndNot_1_l0 k p3_0 (p3_1.drop (Int.toNat 1)) (p3_2.drop (Int.toNat 1))
 else none
 else none
 else
 (arrays_AndNot_1 k true (decide (v195 ≤ v196))).bind fun y204 =>
 bif y204 then
 bif decide ((List.length p3_0 + List.length [v198]) * 2 ≤ 140737488355328) then
 bif decide (List.length p3_0 + List.length [v198] ≤ 140737488355328) then
 arrays_merge_AndNot_1_l0 k (p3_0 ++ [v198]) (p3_1.drop (Int.toNat 1)) p3_2
 else none
 else none
 else
 arrays_merge_AndNot_1_l0 k p3_0 (p3_1.drop (Int.toNat 1)) p3_2
 else none
 else none
 else none
 else none
 else
 bif decide ((0 : Int) < (p3_1.length : Int)) then
 let v206 := p3_1.getD (Int.toNat 0) (0 : Int)
 bif decide ((1 : Int) ≤ (p3_1.length : Int)) then
 (arrays_AndNot_1 k true false).bind fun y208 =>
 bif y208 then
 bif decide ((List.length p3_0 + List.length [v206]) * 2 ≤ 140737488355328) then
 bif decide (List.length p3_0 + List.length [v206] ≤ 140737488355328) then
 arrays_merge_AndNot_1_l0 k (p3_0 ++ [v206]) (p3_1.drop (Int.toNat 1)) p3_2
 else none
 else none
 else
 arrays_merge_AndNot_1_l0 k p3_0 (p3_1.drop (Int.toNat 1)) p3_2
 else none
 else none
 else
 bif (decide ((0 : Int) < (p3_1.length : Int))) then
 bif decide ((0 : Int) < (p3_1.length : Int)) then
 let v212 := p3_1.getD (Int.toNat 0) (0 : Int)
 bif decide ((0 : Int) < (p3_2.length : Int)) then
 let v213 := p3_2.getD (Int.toNat 0) (0 : Int)
 bif (decide ((p3_1.length : Int) = 0)) then
 bif (decide (v212 ≤ v213)) then
 bif decide ((0 : Int) < (p3_1.length : Int)) then
 bif decide ((1 : Int) ≤ (p3_1.length : Int)) then
 bif decide ((0 : Int) < (p3_2.length : Int)) then
 let v219 := p3_2.getD (Int.toNat 0) (0 : Int)
 bif decide ((1 : Int) ≤ (p3_2.length : Int)) then
 (arrays_AndNot_1 k (decide (v212 ≤ v213)) true).bind fun y221 =>
 bif y221 then
 bif decide ((List.length p3_0 + List.length [v219]) * 2 ≤ 140737488355328) then
 bif decide (List.length p3_0 + List.length [v219] ≤ 140737488355328) then
 arrays_merge_AndNot_1_l0 k (p3_0 ++ [v219]) (p3_1.drop (Int.toNat 1)) (p3_2.drop (Int.toNat 1))
 else none
 else none
 else
 arrays_merge_AndNot_1_l0 k p3_0 (p3_1.drop (Int.toNat 1)) (p3_2.drop (Int.toNat 1))
 else none
 else none
 else none
 else none
 else
 bif decide ((0 : Int) < (p3_2.length : Int)) then
 let v223 := p3_2.getD (Int.toNat 0) (0 : Int)
 bif decide ((1 : Int) ≤ (p3_2.length : Int)) then
 (arrays_AndNot_1 k (decide (v212 ≤ v213)) true).bind fun y225 =>
 bif y225 then
 bif decide ((List.length p3_0 + List.length [v223]) * 2 ≤ 140737488355328) then
 bif decide (List.length p3_0 + List.length [v223] ≤ 140737488355328) then
 arrays_merge_AndNot_1_l0 k (p3_0 ++ [v223]) p3_1 (p3_2.drop (Int.toNat 1))
 else none
 else none
 else
 arrays_merge_AndNot_1_l0 k p3_0 p3_1 (p3_2.drop (Int.toNat 1))
 else none
 else none
 else
 bif (decide ((0 : Int) < (p3_2.length : Int))) then
 bif decide ((0 : Int) < (p3_2.length : Int)) then
 let v229 := p3_2.getD (Int.toNat 0) (0 : Int)
 bif decide ((0 : Int) < (p3_1.length : Int)) then
 let v230 := p3_1.getD (Int.toNat 0) (0 : Int)
 bif (decide (v212 ≤ v213)) then
 bif decide ((0 : Int) < (p3_1.length : Int)) then
 let v232 := p3_1.getD (Int.toNat 0) (0 : Int)
 bif decide ((1 : Int) ≤ (p3_1.length : Int)) then
 bif (decide (v229 ≤ v230)) then
 bif decide ((0 : Int) < (p3_2.length : Int)) then
 let v234 := p3_2.getD (Int.toNat 0) (0 : Int)
 bif decide ((1 : Int) ≤ (p3_2.length : Int)) then
 (arrays_AndNot_1 k (decide (v212 ≤ v213)) (decide (v229 ≤ v230))).bind fun y236 =>
 bif y236 then
 bif decide ((List.length p3_0 + List.length [v234]) * 2 ≤ 140737488355328) then
 bif decide (List.length p3_0 + List.length [v234] ≤ 140737488355328) then
 arrays_merge_AndNot_1_l0 k (p3_0 ++ [v234]) (p3_1.drop (Int.toNat 1)) (p3_2.drop (Int.toNat 1))
 else none
 else none
 else
 arrays_merge_AndNot_1_l0 k p3_0 (p3_1.drop (Int.toNat 1)) (p3_2.drop (Int.toNat 1))
 else none
 else none
 else
 (arrays_AndNot_1 k (decide (v212 ≤ v213)) (decide (v229 ≤ v230))).bind fun y238 =>
 bif y238 then
 bif decide ((List.length p3_0 + List.length [v232]) * 2 ≤ 140737488355328) then
 bif decide (List.length p3_0 + List.length [v232] ≤ 140737488355328) then
 arrays_merge_AndNot_1_l0 k (p3_0 ++ [v232]) (p3_1.drop (Int.toNat 1)) p3_2
 else none
 else none
 else
 arrays_merge_AndNot_1_l0 k p3_0 (p3_1.drop (Int.toNat 1)) p3_2
 else none
 else none
 else
 bif (decide (v229 ≤ v230)) then
 bif decide ((0 : Int) < (p3_2.length : Int)) then
 let v240 := p3_2.getD (Int.toNat 0) (0 : Int)
 bif decide ((1 : Int) ≤ (p3_2.length : Int)) then
 (arrays_AndNot_1 k (decide (v212 ≤ v213)) (decide (v229 ≤ v230))).bind fun y242 =>
 bif y242 then
 bif decide ((List.length p3_0 + List.length [v240]) * 2 ≤ 140737488355328) then
 bif decide (List.length p3_0 + List.length [v240] ≤ 140737488355328) then
 arrays_merge_AndNot_1_l0 k (p3_0 ++ [v240]) p3_1 (p3_2.drop (Int.toNat 1))
 else none
 else none
 else
 arrays_merge_AndNot_1_l0 k p3_0 p3_1 (p3_2.drop (Int.toNat 1))
 else none
 else none
 else
 (arrays_AndNot_1 k (decide (v212 ≤ v213)) (decide (v229 ≤ v230))).bind fun y244 =>
 bif y244 then
 bif decide ((List.length p3_0 + List.length [0]) * 2 ≤ 140737488355328) then
 bif decide (List.length p3_0 + List.length [0] ≤ 140737488355328) then
 arrays_merge_AndNot_1_l0 k (p3_0 ++ [0]) p3_1 p3_2
 else none
 else none
 else
 arrays_merge_AndNot_1_l0 k p3_0 p3_1 p3_2
 else none
 else none
 else
 bif (decide (v212 ≤ v213)) then
 bif decide ((0 : Int) < (p3_1.length : Int)) then
 let v246 := p3_1.getD (Int.toNat 0) (0 : Int)
 bif decide ((1 : Int) ≤ (p3_1.length : Int)) then
 (arrays_AndNot_1 k (decide (v212 ≤ v213)) false).bind fun y248 =>
 bif y248 then
 bif decide ((List.length p3_0 + List.length [v246]) * 2 ≤ 140737488355328) then
 bif decide (List.length p3_0 + List.length [v246] ≤ 140737488355328) then
 arrays_merge_AndNot_1_l0 k (p3_0 ++ [v246]) (p3_1.drop (Int.toNat 1)) p3_2
 else none
 else none
 else
 arrays_merge_AndNot_1_l0 k p3_0 (p3_1.drop (Int.toNat 1)) p3_2
 else none
 else none
 else
 (arrays_AndNot_1 k (decide (v212 ≤ v213)) false).bind fun y250 =>
 bif y250 then
 bif decide ((List.length p3_0 + List.length [0]) * 2 ≤ 140737488355328) then
 bif decide (List.length p3_0 + List.length [0] ≤ 140737488355328) then
 arrays_merge_AndNot_1_l0 k (p3_0 ++ [0]) p3_1 p3_2
 else none
 else none
 else
 arrays_merge_AndNot_1_l0 k p3_0 p3_1 p3_2
 else none
 else none
 else
 bif (decide ((p3_1.length : Int) = 0)) then
 bif decide ((0 : Int) < (p3_2.length : Int)) then
 let v254 := p3_2.getD (Int.toNat 0) (0 : Int)
 bif decide ((1 : Int) ≤ (p3_2.length : Int)) then
 (arrays_AndNot_1 k false true).bind fun y256 =>
 bif y256 then
 bif decide ((List.length p3_0 + List.length [v254]) * 2 ≤ 140737488355328) then
 bif decide (List.length p3_0 + List.length [v254] ≤ 140737488355328) then
 arrays_merge_AndNot_1_l0 k (p3_0 ++ [v254]) p3_1 (p3_2.drop (Int.toNat 1))
 else none
 else none
 else
 arrays_merge_AndNot_1_l0 k p3_0 p3_1 (p3_2.drop (Int.toNat 1))
 else none
 else none
 else
 bif (decide ((0 : Int) < (p3_2.length : Int))) then
 bif decide ((0 : Int) < (p3_2.length : Int)) then
 let v260 := p3_2.getD (Int.toNat 0) (0 : Int)
 bif decide ((0 : Int) < (p3_1.length : Int)) then
 let v261 := p3_1.getD (Int.toNat 0) (0 : Int)
 bif (decide (v260 ≤ v261)) then
 bif decide ((0 : Int) < (p3_2.length : Int)) then
 let v263 := p3_2.getD (Int.toNat 0) (0 : Int)
 bif decide ((1 : Int) ≤ (p3_2.length : Int)) then
 (arrays_AndNot_1 k false (decide (v260 ≤ v261))).bind fun y265 =>
 bif y265 then
 bif decide ((List.length p3_0 + List.length [v263]) * 2 ≤ 140737488355328) then
 bif decide (List.length p3_0 + List.length [v263] ≤ 140737488355328) then
 arrays_merge_AndNot_1_l0 k (p3_0 ++ [v263]) p3_1 (p3_2.drop (Int.toNat 1))
 else none
 else none
 else
 arrays_merge_AndNot_1_l0 k p3_0 p3_1 (p3_2.drop (Int.toNat 1))
 else none
 else none
 else
 (arrays_AndNot_1 k false (decide (v260 ≤ v261))).bind fun y267 =>
 bif y267 then
 bif decide ((List.length p3_0 + List.length [0]) * 2 ≤ 140737488355328) then
 bif decide (List.length p3_0 + List.length [0] ≤ 140737488355328) then
 arrays_merge_AndNot_1_l0 k (p3_0 ++ [0]) p3_1 p3_2
 else none
 else none
 else
 arrays_merge_AndNot_1_l0 k p3_0 p3_1 p3_2
 else none
 else none
 else
 (arrays_AndNot_1 k false false).bind fun y269 =>
 bif y269 then
 bif decide ((List.length p3_0 + List.length [0]) * 2 ≤ 140737488355328) then
 bif decide (List.length p3_0 + List.length [0] ≤ 140737488355328) then
 arrays_merge_AndNot_1_l0 k (p3_0 ++ [0]) p3_1 p3_2
 else none
 else none
 else
 arrays_merge_AndNot_1_l0 k p3_0 p3_1 p3_2
 else
 bif (decide ((0 : Int) < (p3_2.length : Int))) then
 bif (decide ((p3_2.length : Int) = 0)) then
 bif (decide ((p3_1.length : Int) = 0)) then
 bif decide ((0 : Int) < (p3_1.length : Int)) then
 bif decide ((1 : Int) ≤ (p3_1.length : Int)) then
 bif decide ((0 : Int) < (p3_2.length : Int)) then
 let v279 := p3_2.getD (Int.toNat 0) (0 : Int)
 bif decide ((1 : Int) ≤ (p3_2.length : Int)) then
 (arrays_AndNot_1 k true true).bind fun y281 =>
 bif y281 then
 bif decide ((List.length p3_0 + List.length [v279]) * 2 ≤ 140737488355328) then
 bif decide (List.length p3_0 + List.length [v279] ≤ 140737488355328) then
 arrays_merge_AndNot_1_l0 k (p3_0 ++ [v279]) (p3_1.drop (Int.toNat 1)) (p3_2.drop (Int.toNat 1))
 else none
 else none
 else
 arrays_merge_AndNot_1_l0 k p3_0 (p3_1.drop (Int.toNat 1)) (p3_2.drop (Int.toNat 1))
 else none
 else none
 else none
 else none
 else
 bif (decide ((0 : Int) < (p3_2.length : Int))) then
 bif decide ((0 : Int) < (p3_2.length : Int)) then
 let v285 := p3_2.getD (Int.toNat 0) (0 : Int)
 bif decide ((0 : Int) < (p3_1.length : Int)) then
 let v286 := p3_1.getD (Int.toNat 0) (0 : Int)
 bif decide ((0 : Int) < (p3_1.length : Int)) then
 let v288 := p3_1.getD (Int.toNat 0) (0 : Int)
 bif decide ((1 : Int) ≤ (p3_1.length : Int)) then
 bif (decide (v285 ≤ v286)) then
 bif decide ((0 : Int) < (p3_2.length : Int)) then
 let v290 := p3_2.getD (Int.toNat 0) (0 : Int)
 bif decide ((1 : Int) ≤ (p3_2.length : Int)) then
 (arrays_AndNot_1 k true (decide (v285 ≤ v286))).bind fun y292 =>
 bif y292 then
 bif decide ((List.length p3_0 + List.length [v290]) * 2 ≤ 140737488355328) then
 bif decide (List.length p3_0 + List.length [v290] ≤ 140737488355328) then
 arrays_merge_AndNot_1_l0 k (p3_0 ++ [v290]) (p3_1.drop (Int.toNat 1)) (p3_2.drop (Int.toNat 1))
 else none
 else none
 else
 arrays_merge_AndNot_1_l0 k p3_0 (p3_1.drop (Int.toNat 1)) (p3_2.drop (Int.toNat 1))
 else none
 else none
 else
 (arrays_AndNot_1 k true (decide (v285 ≤ v286))).bind fun y294 =>
 bif y294 then
 bif decide ((List.length p3_0 + List.length [v288]) * 2 ≤ 140737488355328) then
 bif decide (List.length p3_0 + List.length [v288] ≤ 140737488355328) then
 arrays_merge_AndNot_1_l0 k (p3_0 ++ [v288]) (p3_1.drop (Int.toNat 1)) p3_2
 else none
 else none
 else
 arrays_merge_AndNot_1_l0 k p3_0 (p3_1.drop (Int.toNat 1)) p3_2
 else none
 else none
 else none
 else none
 else
 bif decide ((0 : Int) < (p3_1.length : Int)) then
 let v296 := p3_1.getD (Int.toNat 0) (0 : Int)
 bif decide ((1 : Int) ≤ (p3_1.length : Int)) then
 (arrays_AndNot_1 k true false).bind fun y298 =>
 bif y298 then
 bif decide ((List.length p3_0 + List.length [v296]) * 2 ≤ 140737488355328) then
 bif decide (List.length p3_0 + List.length [v296] ≤ 140737488355328) then
 arrays_merge_AndNot_1_l0 k (p3_0 ++ [v296]) (p3_1.drop (Int.toNat 1)) p3_2
 else none
 else none
 else
 arrays_merge_AndNot_1_l0 k p3_0 (p3_1.drop (Int.toNat 1)) p3_2
 else none
 else none
 else
 bif (decide ((0 : Int) < (p3_1.length : Int))) then
 bif decide ((0 : Int) < (p3_1.length : Int)) then
 let v302 := p3_1.getD (Int.toNat 0) (0 : Int)
 bif decide ((0 : Int) < (p3_2.length : Int)) then
 let v303 := p3_2.getD (Int.toNat 0) (0 : Int)
 bif (decide ((p3_1.length : Int) = 0)) then
 bif (decide (v302 ≤ v303)) then
 bif decide ((0 : Int) < (p3_1.length : Int)) then
 bif decide ((1 : Int) ≤ (p3_1.length : Int)) then
 bif decide ((0 : Int) < (p3_2.length : Int)) then
 let v309 := p3_2.getD (Int.toNat 0) (0 : Int)
 bif decide ((1 : Int) ≤ (p3_2.length : Int)) then
 (arrays_AndNot_1 k (decide (v302 ≤ v303)) true).bind fun y311 =>
 bif y311 then
 bif decide ((List.length p3_0 + List.length [v309]) * 2 ≤ 140737488355328) then
 bif decide (List.length p3_0 + List.length [v309] ≤ 140737488355328) then
 arrays_merge_AndNot_1_l0 k (p3_0 ++ [v309]) (p3_1.drop (Int.toNat 1)) (p3_2.drop (Int.toNat 1))
 else none
 else none
 else
 arrays_merge_AndNot_1_l0 k p3_0 (p3_1.drop (Int.toNat 1)) (p3_2.drop (Int.toNat 1))
 else none
 else none
 else none
 else none
 else
 bif decide ((0 : Int) < (p3_2.length : Int)) then
 let v313 := p3_2.getD (Int.toNat 0) (0 : Int)
 bif decide ((1 : Int) ≤ (p3_2.length : Int)) then
 (arrays_AndNot_1 k (decide (v302 ≤ v303)) true).bind fun y315 =>
 bif y315 then
 bif decide ((List.length p3_0 + List.length [v313]) * 2 ≤ 140737488355328) then
 bif decide (List.length p3_0 + List.length [v313] ≤ 140737488355328) then
 arrays_merge_AndNot_1_l0 k (p3_0 ++ [v313]) p3_1 (p3_2.drop (Int.toNat 1))
 else none
 else none
 else
 arrays_merge_AndNot_1_l0 k p3_0 p3_1 (p3_2.drop (Int.toNat 1))
 else none
 else none
 else
 bif (decide ((0 : Int) < (p3_2.length : Int))) then
 bif decide ((0 : Int) < (p3_2.length : Int)) then
 let v319 := p3_2.getD (Int.toNat 0) (0 : Int)
 bif decide ((0 : Int) < (p3_1.length : Int)) then
 let v320 := p3_1.getD (Int.toNat 0) (0 : Int)
 bif (decide (v302 ≤ v303)) then
 bif decide ((0 : Int) < (p3_1.length : Int)) then
 let v322 := p3_1.getD (Int.toNat 0) (0 : Int)
 bif decide ((1 : Int) ≤ (p3_1.length : Int)) then
 bif (decide (v319 ≤ v320)) then
 bif decide ((0 : Int) < (p3_2.length : Int)) then
 let v324 := p3_2.getD (Int.toNat 0) (0 : Int)
 bif decide ((1 : Int) ≤ (p3_2.length : Int)) then
 (arrays_AndNot_1 k (decide (v302 ≤ v303)) (decide (v319 ≤ v320))).bind fun y326 =>
 bif y326 then
 bif decide ((List.length p3_0 + List.length [v324]) * 2 ≤ 140737488355328) then
 bif decide (List.length p3_0 + List.length [v324] ≤ 140737488355328) then
 arrays_merge_AndNot_1_l0 k (p3_0 ++ [v324]) (p3_1.drop (Int.toNat 1)) (p3_2.drop (Int.toNat 1))
 else none
 else none
 else
 arrays_merge_AndNot_1_l0 k p3_0 (p3_1.drop (Int.toNat 1)) (p3_2.drop (Int.toNat 1))
 else none
 else none
 else
 (arrays_AndNot_1 k (decide (v302 ≤ v303)) (decide (v319 ≤ v320))).bind fun y328 =>
 bif y328 then
 bif decide ((List.length p3_0 + List.length [v322]) * 2 ≤ 140737488355328) then
 bif decide (List.length p3_0 + List.length [v322] ≤ 140737488355328) then
 arrays_merge_AndNot_1_l0 k (p3_0 ++ [v322]) (p3_1.drop (Int.toNat 1)) p3_2
 else none
 else none
 else
 arrays_merge_AndNot_1_l0 k p3_0 (p3_1.drop (Int.toNat 1)) p3_2
 else none
 else none
 else
 bif (decide (v319 ≤ v320)) then
 bif decide ((0 : Int) < (p3_2.length : Int)) then
 let v330 := p3_2.getD (Int.toNat 0) (0 : Int)
 bif decide ((1 : Int) ≤ (p3_2.length : Int)) then
 (arrays_AndNot_1 k (decide (v302 ≤ v303)) (decide (v319 ≤ v320))).bind fun y332 =>
 bif y332 then
 bif decide ((List.length p3_0 + List.length [v330]) * 2 ≤ 140737488355328) then
 bif decide (List.length p3_0 + List.length [v330] ≤ 140737488355328) then
 arrays_merge_AndNot_1_l0 k (p3_0 ++ [v330]) p3_1 (p3_2.drop (Int.toNat 1))
 else none
 else none
 else
 arrays_merge_AndNot_1_l0 k p3_0 p3_1 (p3_2.drop (Int.toNat 1))
 else none
 else none
 else
 (arrays_AndNot_1 k (decide (v302 ≤ v303)) (decide (v319 ≤ v320))).bind fun y334 =>
 bif y334 then
 bif decide ((List.length p3_0 + List.length [0]) * 2 ≤ 140737488355328) then
 bif decide (List.length p3_0 + List.length [0] ≤ 140737488355328) then
 arrays_merge_AndNot_1_l0 k (p3_0 ++ [0]) p3_1 p3_2
 else none
 else none
 else
 arrays_merge_AndNot_1_l0 k p3_0 p3_1 p3_2
 else none
 else none
 else
 bif (decide (v302 ≤ v303)) then
 bif decide ((0 : Int) < (p3_1.length : Int)) then
 let v336 := p3_1.getD (Int.toNat 0) (0 : Int)
 bif decide ((1 : Int) ≤ (p3_1.length : Int)) then
 (arrays_AndNot_1 k (decide (v302 ≤ v303)) false).bind fun y338 =>
 bif y338 then
 bif decide ((List.length p3_0 + List.length [v336]) * 2 ≤ 140737488355328) then
 bif decide (List.length p3_0 + List.length [v336] ≤ 140737488355328) then
 arrays_merge_AndNot_1_l0 k (p3_0 ++ [v336]) (p3_1.drop (Int.toNat 1)) p3_2
 else none
 else none
 else
 arrays_merge_AndNot_1_l0 k p3_0 (p3_1.drop (Int.toNat 1)) p3_2
 else none
 else none
 else
 (arrays_AndNot_1 k (decide (v302 ≤ v303)) false).bind fun y340 =>
 bif y340 then
 bif decide ((List.length p3_0 + List.length [0]) * 2 ≤ 140737488355328) then
 bif decide (List.length p3_0 + List.length [0] ≤ 140737488355328) then
 arrays_merge_AndNot_1_l0 k (p3_0 ++ [0]) p3_1 p3_2
 else none
 else none
 else
 arrays_merge_AndNot_1_l0 k p3_0 p3_1 p3_2
 else none
 else none
 else
 bif (decide ((p3_1.length : Int) = 0)) then
 bif decide ((0 : Int) < (p3_2.length : Int)) then
 let v344 := p3_2.getD (Int.toNat 0) (0 : Int)
 bif decide ((1 : Int) ≤ (p3_2.length : Int)) then
 (arrays_AndNot_1 k false true).bind fun y346 =>
 bif y346 then
 bif decide ((List.length p3_0 + List.length [v344]) * 2 ≤ 140737488355328) then
 bif decide (List.length p3_0 + List.length [v344] ≤ 140737488355328) then
 arrays_merge_AndNot_1_l0 k (p3_0 ++ [v344]) p3_1 (p3_2.drop (Int.toNat 1))
 else none
 else none
 else
 arrays_merge_AndNot_1_l0 k p3_0 p3_1 (p3_2.drop (Int.toNat 1))
 else none
 else none
 else
 bif (decide ((0 : Int) < (p3_2.length : Int))) then
 bif decide ((0 : Int) < (p3_2.length : Int)) then
 let v350 := p3_2.getD (Int.toNat 0) (0 : Int)
 bif decide ((0 : Int) < (p3_1.length : Int)) then
 let v351 := p3_1.getD (Int.toNat 0) (0 : Int)
 bif (decide (v350 ≤ v351)) then
 bif decide ((0 : Int) < (p3_2.length : Int)) then
 let v353 := p3_2.getD (Int.toNat 0) (0 : Int)
 bif decide ((1 : Int) ≤ (p3_2.length : Int)) then
 (arrays_AndNot_1 k false (decide (v350 ≤ v351))).bind fun y355 =>
 bif y355 then
 bif decide ((List.length p3_0 + List.length [v353]) * 2 ≤ 140737488355328) then
 bif decide (List.length p3_0 + List.length [v353] ≤ 140737488355328) then
 arrays_merge_AndNot_1_l0 k (p3_0 ++ [v353]) p3_1 (p3_2.drop (Int.toNat 1))
 else none
 else none
 else
 arrays_merge_AndNot_1_l0 k p3_0 p3_1 (p3_2.drop (Int.toNat 1))
 else none
 else none
 else
 (arrays_AndNot_1 k false (decide (v350 ≤ v351))).bind fun y357 =>
 bif y357 then
 bif decide ((List.length p3_0 + List.length [0]) * 2 ≤ 140737488355328) then
 bif decide (List.length p3_0 + List.length [0] ≤ 140737488355328) then
 arrays_merge_AndNot_1_l0 k (p3_0 ++ [0]) p3_1 p3_2
 else none
 else none
 else
 arrays_merge_AndNot_1_l0 k p3_0 p3_1 p3_2
 else none
 else none
 else
 (arrays_AndNot_1 k false false).bind fun y359 =>
 bif y359 then
 bif decide ((List.length p3_0 + List.length [0]) * 2 ≤ 140737488355328) then
 bif decide (List.length p3_0 + List.length [0] ≤ 140737488355328) then
 arrays_merge_AndNot_1_l0 k (p3_0 ++ [0]) p3_1 p3_2
 else none
 else none
 else
 arrays_merge_AndNot_1_l0 k p3_0 p3_1 p3_2
 else
 some p3_0
noncomputable def arrays_merge_AndNot_1 (k : Nat) (a0 : (List Int)) (a1 : (List Int)) : Option ((List Int)) :=
 (arrays_merge_AndNot_1_l0 k [] a0 a1).bind fun y361 =>
 some y361

noncomputable def arrays_AndNot (k : Nat) (a0 : (List Int)) (a1 : (List Int)) : Option ((List Int)) :=
 (arrays_merge_AndNot_1 k a0 a1).bind fun y1 =>
 some y1

noncomputable def runs_AndNot_1 (k : Nat) (a0 : Bool) (a1 : Bool) : Option (Bool) :=
 bif a0 then
 some (!a1)
 else
 some false

noncomputable def runs_edges_AndNot_1_l1 : Nat → (List (Int × Int)) → (List Int) → (List Int) → Bool → Int → Int → Int → Int → Option ((List (Int × Int)) × (List Int) × (List Int) × Bool × Int × Int × Int × Int)
 | 0, _, _, _, _, _, _, _, _ => none
 | k + 1, p11_0, p11_1, p11_2, p11_3, p11_4, p11_5, p11_6, p11_7 =>
 bif (decide (p11_5 < (p11_1.length : Int))) then
 bif decide ((0 : Int) ≤ p11_5) then
 bif decide (p11_5 < (p11_1.length : Int)) then
 bif (decide ((p11_1.getD (Int.toNat p11_5) (0 : Int)) ≤ p11_7)) then
 runs_edges_AndNot_1_l1 k p11_0 p11_1 p11_2 p11_3 p11_4 (IntKind.wrap .i64 (p11_5 + 1)) p11_6 p11_7
 else
 some (p11_0, p11_1, p11_2, p11_3, p11_4, p11_5, p11_6, p11_7)
 else none
 else none
 else
 some (p11_0, p11_1, p11_2, p11_3, p11_4, p11_5, p11_6, p11_7)
noncomputable def runs_edges_AndNot_1_l2 : Nat → (List (Int × Int)) → (List Int) → (List Int) → Bool → Int → Int → Int → Int → Option ((List (Int × Int)) × (List Int) × (List Int) × Bool × Int × Int × Int × Int)
 | 0, _, _, _, _, _, _, _, _ => none
 | k + 1, p13_0, p13_1, p13_2, p13_3, p13_4, p13_5, p13_6, p13_7 =>
 bif (decide (p13_6 < (p13_2.length : Int))) then
 bif decide ((0 : Int) ≤ p13_6) then
 bif decide (p13_6 < (p13_2.length : Int)) then
 bif (decide ((p13_2.getD (Int.toNat p13_6) (0 : Int)) ≤ p13_7)) then
 runs_edges_AndNot_1_l2 k p13_0 p13_1 p13_2 p13_3 p13_4 p13_5 (IntKind.wrap .i64 (p13_6 + 1)) p13_7
 else
 some (p13_0, p13_1, p13_2, p13_3, p13_4, p13_5, p13_6, p13_7)
 else none
 else none
 else
 some (p13_0, p13_1, p13_2, p13_3, p13_4, p13_5, p13_6, p13_7)
noncomputable def runs_edges_AndNot_1_l0 : Nat → (List (Int × Int)) → (List Int) → (List Int) → Bool → Int → Int → Int → Option ((List (Int × Int)))
 | 0, _, _, _, _, _, _, _ => none
 | k + 1, p5_0, p5_1, p5_2, p5_3, p5_4, p5_5, p5_6 =>
 bif (decide (p5_5 < (p5_1.length : Int))) then
 bif (decide (p5_5 < (p5_1.length : Int))) then
 bif decide ((0 : Int) ≤ p5_5) then
 bif decide (p5_5 < (p5_1.length : Int)) then
 let v155 := p5_1.getD (Int.toNat p5_5) (0 : Int)
 bif (decide (p5_6 < (p5_2.length : Int))) then
 bif decide ((0 : Int) ≤ p5_6) then
 bif decide (p5_6 < (p5_2.length : Int)) then
 (runs_edges_AndNot_1_l1 k p5_0 p5_1 p5_2 p5_3 p5_4 p5_5 p5_6 (min v155 (p5_2.getD (Int.toNat p5_6) (0 : Int)))).bind fun y160 =>
 (runs_edges_AndNot_1_l2 k y160.1 y160.2.1 y160.2.2.1 y160.2.2.2.1 y160.2.2.2.2.1 y160.2.2.2.2.2.1 y160.2.2.2.2.2.2.1 y160.2.2.2.2.2.2.2).bind fun y161 =>
 (runs_AndNot_1 k (decide ((y161.2.2.2.2.2.1.tmod 2) = 1)) (decide ((y161.2.2.2.2.2.2.1.tmod 2) = 1))).bind fun y166 =>
 bif (y166 == y161.2.2.2.1) then
 runs_edges_AndNot_1_l0 k y161.1 y161.2.1 y161.2.2.1 y161.2.2.2.1 y161.2.2.2.2.1 y161.2.2.2.2.2.1 y161.2.2.2.2.2.2.1
 else
 bif y161.2.2.2.1 then
 let v168 := IntKind.wrap .u16 y161.2.2.2.2.1
 let v170 := IntKind.wrap .i64 ((IntKind.wrap .i64 (y161.2.2.2.2.2.2.2 - y161.2.2.2.2.1)) - 1)
 bif decide ((List.length y161.1 + List.length [(v168, (IntKind.wrap .u16 v170))]) * 4 ≤ 140737488355328) then
 bif decide (List.length y161.1 + List.length [(v168, (IntKind.wrap .u16 v170))] ≤ 140737488355328) then
 runs_edges_AndNot_1_l0 k (y161.1 ++ [(v168, (IntKind.wrap .u16 v170))]) y161.2.1 y161.2.2.1 y166 y161.2.2.2.2.2.2.2 y161.2.2.2.2.2.1 y161.2.2.2.2.2.2.1
 else none
 else none
 else
 runs_edges_AndNot_1_l0 k y161.1 y161.2.1 y161.2.2.1 y166 y161.2.2.2.2.2.2.2 y161.2.2.2.2.2.1 y161.2.2.2.2.2.2.1
 else none
 else none
 else
 (runs_edges_AndNot_1_l1 k p5_0 p5_1 p5_2 p5_3 p5_4 p5_5 p5_6 v155).bind fun y173 =>
 (runs_edges_AndNot_1_l2 k y173.1 y173.2.1 y173.2.2.1 y173.2.2.2.1 y173.2.2.2.2.1 y173.2.2.2.2.2.1 y173.2.2.2.2.2.2.1 y173.2.2.2.2.2.2.2).bind fun y174 =>
 (runs_AndNot_1 k (decide ((y174.2.2.2.2.2.1.tmod 2) = 1)) (decide ((y174.2.2.2.2.2.2.1.tmod 2) = 1))).bind fun y179 =>
 bif (y179 == y174.2.2.2.1) then
 runs_edges_AndNot_1_l0 k y174.1 y174.2.1 y174.2.2.1 y174.2.2.2.1 y174.2.2.2.2.1 y174.2.2.2.2.2.1 y174.2.2.2.2.2.2.1
 else
 bif y174.2.2.2.1 then
 let v181 := IntKind.wrap .u16 y174.2.2.2.2.1
 let v183 := IntKind.wrap .i64 ((IntKind.wrap .i64 (y174.2.2.2.2.2.2.2 - y174.2.2.2.2.1)) - 1)
 bif decide ((List.length y174.1 + List.length [(v181, (IntKind.wrap .u16 v183))]) * 4 ≤ 140737488355328) then
 bif decide (List.length y174.1 + List.length [(v181, (IntKind.wrap .u16 v183))] ≤ 140737488355328) then
 runs_edges_AndNot_1_l0 k (y174.1 ++ [(v181, (IntKind.wrap .u16 v183))]) y174.2.1 y174.2.2.1 y179 y174.2.2.2.2.2.2.2 y174.2.2.2.2.2.1 y174.2.2.2.2.2.2.1
 else none
 else none
 else
 runs_edges_AndNot_1_l0 k y174.1 y174.2.1 y174.2.2.1 y179 y174.2.2.2.2.2.2.2 y174.2.2.2.2.2.1 y174.2.2.2.2.2.2.1
 else none
 else none
 else
 bif (decide (p5_6 < (p5_2.length : Int))) then
 bif decide ((0 : Int) ≤ p5_6) then
 bif decide (p5_6 < (p5_2.length : Int)) then
 (runs_edges_AndNot_1_l1 k p5_0 p5_1 p5_2 p5_3 p5_4 p5_5 p5_6 (min 65537 (p5_2.getD (Int.toNat p5_6) (0 : Int)))).bind fun y190 =>
 (runs_edges_AndNot_1_l2 k y190.1 y190.2.1 y190.2.2.1 y190.2.2.2.1 y190.2.2.2.2.1 y190.2.2.2.2.2.1 y190.2.2.2.2.2.2.1 y190.2.2.2.2.2.2.2).bind fun y191 =>
 (runs_AndNot_1 k (decide ((y191.2.2.2.2.2.1.tmod 2) = 1)) (decide ((y191.2.2.2.2.2.2.1.tmod 2) = 1))).bind fun y196 =>
 bif (y196 == y191.2.2.2.1) then
 runs_edges_AndNot_1_l0 k y191.1 y191.2.1 y191.2.2.1 y191.2.2.2.1 y191.2.2.2.2.1 y191.2.2.2.2.2.1 y191.2.2.2.2.2.2.1
 else
 bif y191.2.2.2.1 then
 let v198 := IntKind.wrap .u16 y191.2.2.2.2.1
 let v200 := IntKind.wrap .i64 ((IntKind.wrap .i64 (y191.2.2.2.2.2.2.2 - y191.2.2.2.2.1)) - 1)
 bif decide ((List.length y191.1 + List.length [(v198, (IntKind.wrap .u16 v200))]) * 4 ≤ 140737488355328) then
 bif decide (List.length y191.1 + List.length [(v198, (IntKind.wrap .u16 v200))] ≤ 140737488355328) then
 runs_edges_AndNot_1_l0 k (y191.1 ++ [(v198, (IntKind.wrap .u16 v200))]) y191.2.1 y191.2.2.1 y196 y191.2.2.2.2.2.2.2 y191.2.2.2.2.2.1 y191.2.2.2.2.2.2.1
 else none
 else none
 else
 runs_edges_AndNot_1_l0 k y191.1 y191.2.1 y191.2.2.1 y196 y191.2.2.2.2.2.2.2 y191.2.2.2.2.2.1 y191.2.2.2.2.2.2.1
 else none
 else none
 else
 (runs_edges_AndNot_1_l1 k p5_0 p5_1 p5_2 p5_3 p5_4 p5_5 p5_6 65537).bind fun y203 =>
 (runs_edges_AndNot_1_l2 k y203.1 y203.2.1 y203.2.2.1 y203.2.2.2.1 y203.2.2.2.2.1 y203.2.2.2.2.2.1 y203.2.2.2.2.2.2.1 y203.2.2.2.2.2.2.2).bind fun y204 =>
 (runs_AndNot_1 k (decide ((y204.2.2.2.2.2.1.tmod 2) = 1)) (decide ((y204.2.2.2.2.2.2.1.tmod 2) = 1))).bind fun y209 =>
 bif (y209 == y204.2.2.2.1) then
 runs_edges_AndNot_1_l0 k y204.1 y204.2.1 y204.2.2.1 y204.2.2.2.1 y204.2.2.2.2.1 y204.2.2.2.2.2.1 y204.2.2.2.2.2.2.1
 else
 bif y204.2.2.2.1 then
 let v211 := IntKind.wrap .u16 y204.2.2.2.2.1
 let v213 := IntKind.wrap .i64 ((IntKind.wrap .i64 (y204.2.2.2.2.2.2.2 - y204.2.2.2.2.1)) - 1)
 bif decide ((List.length y204.1 + List.length [(v211, (IntKind.wrap .u16 v213))]) * 4 ≤ 140737488355328) then
 bif decide (List.length y204.1 + List.length [(v211, (IntKind.wrap .u16 v213))] ≤ 140737488355328) then
 runs_edges_AndNot_1_l0 k (y204.1 ++ [(v211, (IntKind.wrap .u16 v213))]) y204.2.1 y204.2.2.1 y209 y204.2.2.2.2.2.2.2 y204.2.2.2.2.2.1 y204.2.2.2.2.2.2.1
 else none
 else none
 else
 runs_edges_AndNot_1_l0 k y204.1 y204.2.1 y204.2.2.1 y209 y204.2.2.2.2.2.2.2 y204.2.2.2.2.2.1 y204.2.2.2.2.2.2.1
 else
 bif (decide (p5_6 < (p5_2.length : Int))) then
 bif (decide (p5_5 < (p5_1.length : Int))) then
 bif decide ((0 : Int) ≤ p5_5) then
 bif decide (p5_5 < (p5_1.length : Int)) then
 let v220 := p5_1.getD (Int.toNat p5_5) (0 : Int)
 bif (decide (p5_6 < (p5_2.length : Int))) then
 bif decide ((0 : Int) ≤ p5_6) then
 bif decide (p5_6 < (p5_2.length : Int)) then
 (runs_edges_AndNot_1_l1 k p5_0 p5_1 p5_2 p5_3 p5_4 p5_5 p5_6 (min v220 (p5_2.getD (Int.toNat p5_6) (0 : Int)))).bind fun y225 =>
 (runs_edges_AndNot_1_l2 k y225.1 y225.2.1 y225.2.2.1 y225.2.2.2.1 y225.2.2.2.2.1 y225.2.2.2.2.2.1 y225.2.2.2.2.2.2.1 y225.2.2.2.2.2.2.2).bind fun y226 =>
 (runs_AndNot_1 k (decide ((y226.2.2.2.2.2.1.tmod 2) = 1)) (decide ((y226.2.2.2.2.2.2.1.tmod 2) = 1))).bind fun y231 =>
 bif (y231 == y226.2.2.2.1) then
 runs_edges_AndNot_1_l0 k y226.1 y226.2.1 y226.2.2.1 y226.2.2.2.1 y226.2.2.2.2.1 y226.2.2.2.2.2.1 y226.2.2.2.2.2.2.1
 else
 bif y226.2.2.2.1 then
 let v233 := IntKind.wrap .u16 y226.2.2.2.2.1
 let v235 := IntKind.wrap .i64 ((IntKind.wrap .i64 (y226.2.2.2.2.2.2.2 - y226.2.2.2.2.1)) - 1)
 bif decide ((List.length y226.1 + List.length [(v233, (IntKind.wrap .u16 v235))]) * 4 ≤ 140737488355328) then
 bif decide (List.length y226.1 + List.length [(v233, (IntKind.wrap .u16 v235))] ≤ 140737488355328) then
 runs_edges_AndNot_1_l0 k (y226.1 ++ [(v233, (IntKind.wrap .u16 v235))]) y226.2.1 y226.2.2.1 y231 y226.2.2.2.2.2.2.2 y226.2.2.2.2.2.1 y226.2.2.2.2.2.2.1
 else none
 else none
 else
 runs_edges_AndNot_1_l0 k y226.1 y226.2.1 y226.2.2.1 y231 y226.2.2.2.2.2.2.2 y226.2.2.2.2.2.1 y226.2.2.2.2.2.2.1
 else none
 else none
 else
 (runs_edges_AndNot_1_l1 k p5_0 p5_1 p5_2 p5_3 p5_4 p5_5 p5_6 v220).bind fun y238 =>
 (runs_edges_AndNot_1_l2 k y238.1 y238.2.1 y238.2.2.1 y238.2.2.2.1 y238.2.2.2.2.1 y238.2.2.2.2.2.1 y238.2.2.2.2.2.2.1 y238.2.2.2.2.2.2.2).bind fun y239 =>
 (runs_AndNot_1 k (decide ((y239.2.2.2.2.2.1.tmod 2) = 1)) (decide ((y239.2.2.2.2.2.2.1.tmod 2) = 1))).bind fun y244 =>
 bif (y244 == y239.2.2.2.1) then
 runs_edges_AndNot_1_l0 k y239.1 y239.2.1 y239.2.2.1 y239.2.2.2.1 y239.2.2.2.2.1 y239.2.2.2.2.2.1 y239.2.2.2.2.2.2.1
 else
 bif y239.2.2.2.1 then
 let v246 := IntKind.wrap .u16 y239.2.2.2.2.1
 let v248 := IntKind.wrap .i64 ((IntKind.wrap .i64 (y239.2.2.2.2.2.2.2 - y239.2.2.2.2.1)) - 1)
 bif decide ((List.length y239.1 + List.length [(v246, (IntKind.wrap .u16 v248))]) * 4 ≤ 140737488355328) then
 bif decide (List.length y239.1 + List.length [(v246, (IntKind.wrap .u16 v248))] ≤ 140737488355328) then
 runs_edges_AndNot_1_l0 k (y239.1 ++ [(v246, (IntKind.wrap .u16 v248))]) y239.2.1 y239.2.2.1 y244 y239.2.2.2.2.2.2.2 y239.2.2.2.2.2.1 y239.2.2.2.2.2.2.1
 else none
 else none
 else
 runs_edges_AndNot_1_l0 k y239.1 y239.2.1 y239.2.2.1 y244 y239.2.2.2.2.2.2.2 y239.2.2.2.2.2.1 y239.2.2.2.2.2.2.1
 else none
 else none
 else
 bif (decide (p5_6 < (p5_2.length : Int))) then
 bif decide ((0 : Int) ≤ p5_6) then
 bif decide (p5_6 < (p5_2.length : Int)) then
 (runs_edges_AndNot_1_l1 k p5_0 p5_1 p5_2 p5_3 p5_4 p5_5 p5_6 (min 65537 (p5_2.getD (Int.toNat p5_6) (0 : Int)))).bind fun y255 =>
 (runs_edges_AndNot_1_l2 k y255.1 y255.2.1 y255.2.2.1 y255.2.2.2.1 y255.2.2.2.2.1 y255.2.2.2.2.2.1 y255.2.2.2.2.2.2.1 y255.2.2.2.2.2.2.2).bind fun y256 =>
 (runs_AndNot_1 k (decide ((y256.2.2.2.2.2.1.tmod 2) = 1)) (decide ((y256.2.2.2.2.2.2.1.tmod 2) = 1))).bind fun y261 =>
 bif (y261 == y256.2.2.2.1) then
 runs_edges_AndNot_1_l0 k y256.1 y256.2.1 y256.2.2.1 y256.2.2.2.1 y256.2.2.2.2.1 y256.2.2.2.2.2.1 y256.2.2.2.2.2.2.1
 else
 bif y256.2.2.2.1 then
 let v263 := IntKind.wrap .u16 y256.2.2.2.2.1
 let v265 := IntKind.wrap .i64 ((IntKind.wrap .i64 (y256.2.2.2.2.2.2.2 - y256.2.2.2.2.1)) - 1)
 bif decide ((List.length y256.1 + List.length [(v263, (IntKind.wrap .u16 v265))]) * 4 ≤ 140737488355328) then
 bif decide (List.length y256.1 + List.length [(v263, (IntKind.wrap .u16 v265))] ≤ 140737488355328) then
 runs_edges_AndNot_1_l0 k (y256.1 ++ [(v263, (IntKind.wrap .u16 v265))]) y256.2.1 y256.2.2.1 y261 y256.2.2.2.2.2.2.2 y256.2.2.2.2.2.1 y256.2.2.2.2.2.2.1
 else none
 else none
 else
 runs_edges_AndNot_1_l0 k y256.1 y256.2.1 y256.2.2.1 y261 y256.2.2.2.2.2.2.2 y256.2.2.2.2.2.1 y256.2.2.2.2.2.2.1
 else none
 else none
 else
 (runs_edges_AndNot_1_l1 k p5_0 p5_1 p5_2 p5_3 p5_4 p5_5 p5_6 65537).bind fun y268 =>
 (runs_edges_AndNot_1_l2 k y268.1 y268.2.1 y268.2.2.1 y268.2.2.2.1 y268.2.2.2.2.1 y268.2.2.2.2.2.1 y268.2.2.2.2.2.2.1 y268.2.2.2.2.2.2.2).bind fun y269 =>
 (runs_AndNot_1 k (decide ((y269.2.2.2.2.2.1.tmod 2) = 1)) (decide ((y269.2.2.2.2.2.2.1.tmod 2) = 1))).bind fun y274 =>
 bif (y274 == y269.2.2.2.1) then
 runs_edges_AndNot_1_l0 k y269.1 y269.2.1 y269.2.2.1 y269.2.2.2.1 y269.2.2.2.2.1 y269.2.2.2.2.2.1 y269.2.2.2.2.2.2.1
 else
 bif y269.2.2.2.1 then
 let v276 := IntKind.wrap .u16 y269.2.2.2.2.1
 let v278 := IntKind.wrap .i64 ((IntKind.wrap .i64 (y269.2.2.2.2.2.2.2 - y269.2.2.2.2.1)) - 1)
 bif decide ((List.length y269.1 + List.length [(v276, (IntKind.wrap .u16 v278))]) * 4 ≤ 140737488355328) then
 bif decide (List.length y269.1 + List.length [(v276, (IntKind.wrap .u16 v278))] ≤ 140737488355328) then
 runs_edges_AndNot_1_l0 k (y269.1 ++ [(v276, (IntKind.wrap .u16 v278))]) y269.2.1 y269.2.2.1 y274 y269.2.2.2.2.2.2.2 y269.2.2.2.2.2.1 y269.2.2.2.2.2.2.1
 else none
 else none
 else
 runs_edges_AndNot_1_l0 k y269.1 y269.2.1 y269.2.2.1 y274 y269.2.2.2.2.2.2.2 y269.2.2.2.2.2.1 y269.2.2.2.2.2.2.1
 else
 some p5_0
noncomputable def runs_edges_AndNot_1 (k : Nat) (a0 : (List Int)) (a1 : (List Int)) : Option ((List (Int × Int))) :=
 (runs_edges_AndNot_1_l0 k [] a0 a1 false 0 0 0).bind fun y281 =>
 some y281

noncomputable def runs_AndNot (k : Nat) (a0 : (List (Int × Int))) (a1 : (List (Int × Int))) : Option ((List (Int × Int))) :=
 (runs_row k a0).bind fun y1 =>
 (runs_row k a1).bind fun y2 =>
 (runs_edges_AndNot_1 k y1 y2).bind fun y3 =>
 some y3

noncomputable def words_AndNot_1 (k : Nat) (a0 : Int) (a1 : Int) : Option (Int) :=
 some (bitsI .andNot .u64 a0 a1)

noncomputable def words_each_AndNot_1_l0 : Nat → (List Int) → (List Int) → (List Int) → Int → Int → Option ((List Int))
 | 0, _, _, _, _, _ => none
 | k + 1, p4_0, p4_1, p4_2, p4_3, p4_4 =>
 bif (decide (p4_4 < p4_3)) then
 bif decide ((0 : Int) ≤ p4_4) then
 bif decide (p4_4 < (p4_1.length : Int)) then
 bif decide ((0 : Int) ≤ p4_4) then
 bif decide (p4_4 < (p4_2.length : Int)) then
 (words_AndNot_1 k (p4_1.getD (Int.toNat p4_4) (0 : Int)) (p4_2.getD (Int.toNat p4_4) (0 : Int))).bind fun y13 =>
 bif decide ((0 : Int) ≤ p4_4) then
 bif decide (p4_4 < (p4_0.length : Int)) then
 words_each_AndNot_1_l0 k (p4_0.set (Int.toNat p4_4) y13) p4_1 p4_2 p4_3 (IntKind.wrap .i64 (p4_4 + 1))
 else none
 else none
 else none
 else none
 else none
 else none
 else
 some p4_0
noncomputable def words_each_AndNot_1 (k : Nat) (a0 : (List Int)) (a1 : (List Int)) : Option ((List Int)) :=
 bif decide (1024 ≤ 1024) then
 (words_each_AndNot_1_l0 k (List.replicate (Int.toNat 1024) (0 : Int)) a0 a1 (min (min (a0.length : Int) (a1.length : Int)) 1024) 0).bind fun y16 =>
 some y16
 else none

noncomputable def words_AndNot (k : Nat) (a0 : (List Int)) (a1 : (List Int)) : Option ((List Int)) :=
 (words_each_AndNot_1 k a0 a1).bind fun y1 =>
 some y1

noncomputable def container_pair_do_o (k : Nat) (a0 : (Int × ((List Int) × ((List Int) × (List (Int × Int)))))) (a1 : (Int × ((List Int) × ((List Int) × (List (Int × Int)))))) : Option ((Int × ((List Int) × ((List Int) × (List (Int × Int)))))) :=
 (container_Container_Kind k a0).bind fun y1 =>
 bif (decide (y1 = 1)) then
 (container_Container_Kind k a1).bind fun y3 =>
 bif (decide (y3 = 1)) then
 (arrays_AndNot k a0.2.1 a1.2.1).bind fun y5 =>
 (container_Container_Canonical k (1, (y5, ([], [])))).bind fun y6 =>
 some y6
 else
 bif (decide (a0.1 = 3)) then
 bif (decide (a1.1 = 3)) then
 (runs_AndNot k a0.2.2.2 a1.2.2.2).bind fun y9 =>
 (container_Container_Canonical k (3, ([], ([], y9)))).bind fun y10 =>
 some y10
 else
 (container_Container_Words k a0).bind fun y11 =>
 (container_Container_Words k a1).bind fun y12 =>
 (words_AndNot k y11 y12).bind fun y13 =>
 (container_Container_Canonical k (2, ([], (y13, [])))).bind fun y14 =>
 some y14
 else
 (container_Container_Words k a0).bind fun y15 =>
 (container_Container_Words k a1).bind fun y16 =>
 (words_AndNot k y15 y16).bind fun y17 =>
 (container_Container_Canonical k (2, ([], (y17, [])))).bind fun y18 =>
 some y18
 else
 bif (decide (a0.1 = 3)) then
 bif (decide (a1.1 = 3)) then
 (runs_AndNot k a0.2.2.2 a1.2.2.2).bind fun y21 =>
 (container_Container_Canonical k (3, ([], ([], y21)))).bind fun y22 =>
 some y22
 else
 (container_Container_Words k a0).bind fun y23 =>
 (container_Container_Words k a1).bind fun y24 =>
 (words_AndNot k y23 y24).bind fun y25 =>
 (container_Container_Canonical k (2, ([], (y25, [])))).bind fun y26 =>
 some y26
 else
 (container_Container_Words k a0).bind fun y27 =>
 (container_Container_Words k a1).bind fun y28 =>
 (words_AndNot k y27 y28).bind fun y29 =>
 (container_Container_Canonical k (2, ([], (y29, [])))).bind fun y30 =>
 some y30

noncomputable def container_Container_AndNot (k : Nat) (a0 : (Int × ((List Int) × ((List Int) × (List (Int × Int)))))) (a1 : (Int × ((List Int) × ((List Int) × (List (Int × Int)))))) : Option ((Int × ((List Int) × ((List Int) × (List (Int × Int)))))) :=
 (container_Container_Kind k a0).bind fun y1 =>
 bif (decide (y1 = 1)) then
 (container_sift_Container_AndNot_1 k a1.1 a1.2.1 a1.2.2.1 a1.2.2.2 a0.2.1).bind fun y3 =>
 some y3.2.2.2.2
 else
 (container_pair_do_o k a0 a1).bind fun y4 =>
 some y4

noncomputable def roaring_each_Container_AndNot_l0 : Nat → (List Int) → (List (Int × ((List Int) × ((List Int) × (List (Int × Int)))))) → (List Int) → (List (Int × ((List Int) × ((List Int) × (List (Int × Int)))))) → (List Int) → (List (Int × ((List Int) × ((List Int) × (List (Int × Int)))))) → (List Int) → Int → Int → Option ((List Int) × (List (Int × ((List Int) × ((List Int) × (List (Int × Int)))))) × (List Int) × (List (Int × ((List Int) × ((List Int) × (List (Int × Int)))))) × (List Int) × (List (Int × ((List Int) × ((List Int) × (List (Int × Int)))))))
 | 0, _, _, _, _, _, _, _, _, _ => none
 | k + 1, p6_0, p6_1, p6_2, p6_3, p6_4, p6_5, p6_6, p6_7, p6_8 =>
 bif (decide (p6_8 < p6_7)) then
 bif decide ((0 : Int) ≤ p6_8) then
 bif decide (p6_8 < (p6_6.length : Int)) then
 let v20 := p6_6.getD (Int.toNat p6_8) (0 : Int)
 (roaring_Set_get k p6_0 p6_1 v20).bind fun y21 =>
 (roaring_Set_get k p6_2 p6_3 v20).bind fun y22 =>
 (container_Container_AndNot k y21.2.2 y22.2.2).bind fun y23 =>
 (container_Container_Len k y23).bind fun y24 =>
 bif (decide ((0 : Int) < y24)) then
 bif decide ((List.length p6_4 + List.length [v20]) * 2 ≤ 140737488355328) then
 bif decide (List.length p6_4 + List.length [v20] ≤ 140737488355328) then
 bif decide ((List.length p6_5 + List.length [y23]) * 80 ≤ 140737488355328) then
 bif decide (List.length p6_5 + List.length [y23] ≤ 140737488355328) then
 roaring_each_Container_AndNot_l0 k y21.1 y21.2.1 y22.1 y22.2.1 (p6_4 ++ [v20]) (p6_5 ++ [y23]) p6_6 p6_7 (IntKind.wrap .i64 (p6_8 + 1))
 else none
 else none
 else none
 else none
 else
 roaring_each_Container_AndNot_l0 k y21.1 y21.2.1 y22.1 y22.2.1 p6_4 p6_5 p6_6 p6_7 (IntKind.wrap .i64 (p6_8 + 1))
 else none
 else none
 else
 some (p6_0, p6_1, p6_2, p6_3, p6_4, p6_5)
noncomputable def roaring_each_Container_AndNot (k : Nat) (a0 : (List Int)) (a1 : (List (Int × ((List Int) × ((List Int) × (List (Int × Int))))))) (a2 : (List Int)) (a3 : (List (Int × ((List Int) × ((List Int) × (List (Int × Int))))))) : Option ((List Int) × (List (Int × ((List Int) × ((List Int) × (List (Int × Int)))))) × (List Int) × (List (Int × ((List Int) × ((List Int) × (List (Int × Int)))))) × (List Int) × (List (Int × ((List Int) × ((List Int) × (List (Int × Int))))))) :=
 (roaring_New k).bind fun y1 =>
 (roaring_Set_Keys k a0 a1).bind fun y2 =>
 (roaring_Set_Keys k a2 a3).bind fun y3 =>
 (slices_Concat_uint16 k [y2.2.2, y3.2.2]).bind fun y4 =>
 (slices_Sort_uint16 k y4).bind fun y5 =>
 (slices_Compact_uint16 k y5).bind fun y6 =>
 (roaring_each_Container_AndNot_l0 k y2.1 y2.2.1 y3.1 y3.2.1 y1.1 y1.2 y6 (y6.length : Int) 0).bind fun y30 =>
 some (y30.1, y30.2.1, y30.2.2.1, y30.2.2.2.1, y30.2.2.2.2.1, y30.2.2.2.2.2)

noncomputable def roaring_Set_AndNot (k : Nat) (a0 : (List Int)) (a1 : (List (Int × ((List Int) × ((List Int) × (List (Int × Int))))))) (a2 : (List Int)) (a3 : (List (Int × ((List Int) × ((List Int) × (List (Int × Int))))))) : Option ((List Int) × (List (Int × ((List Int) × ((List Int) × (List (Int × Int)))))) × (List Int) × (List (Int × ((List Int) × ((List Int) × (List (Int × Int)))))) × (List Int) × (List (Int × ((List Int) × ((List Int) × (List (Int × Int))))))) :=
 (roaring_each_Container_AndNot k a0 a1 a2 a3).bind fun y1 =>
 some (y1.1, y1.2.1, y1.2.2.1, y1.2.2.2.1, y1.2.2.2.2.1, y1.2.2.2.2.2)

noncomputable def roaring_Set_Not (k : Nat) (a0 : (List Int)) (a1 : (List (Int × ((List Int) × ((List Int) × (List (Int × Int))))))) (a2 : Int) : Option ((List Int) × (List (Int × ((List Int) × ((List Int) × (List (Int × Int)))))) × (List Int) × (List (Int × ((List Int) × ((List Int) × (List (Int × Int))))))) :=
 (roaring_Spans k [(0, a2)]).bind fun y1 =>
 (roaring_Set_AndNot k y1.1 y1.2 a0 a1).bind fun y2 =>
 some (y2.2.2.1, y2.2.2.2.1, y2.2.2.2.2.1, y2.2.2.2.2.2)

noncomputable def roaring_Set_list (k : Nat) (a0 : (List Int)) (a1 : (List (Int × ((List Int) × ((List Int) × (List (Int × Int))))))) : Option ((List Int) × (List (Int × ((List Int) × ((List Int) × (List (Int × Int))))))) :=
 some (a0, a1)

noncomputable def roaring_Set_Runs_l1 : Nat → (List Int) → (List (Int × ((List Int) × ((List Int) × (List (Int × Int)))))) → (List (Int × Int)) → Int → Int → Int → (List (Int × Int)) → Int → Int → Option ((List Int) × (List (Int × ((List Int) × ((List Int) × (List (Int × Int)))))) × (List (Int × Int)) × Int × Int)
 | 0, _, _, _, _, _, _, _, _, _ => none
 | k + 1, p8_0, p8_1, p8_2, p8_3, p8_4, p8_5, p8_6, p8_7, p8_8 =>
 bif (decide (p8_8 < p8_7)) then
 bif decide ((0 : Int) ≤ p8_8) then
 bif decide (p8_8 < (p8_6.length : Int)) then
 let v32 := p8_6.getD (Int.toNat p8_8) ((0 : Int), (0 : Int))
 let v34 := IntKind.wrap .u64 (p8_3 + (IntKind.wrap .u64 v32.1))
 let v39 := IntKind.wrap .u64 ((IntKind.wrap .u64 ((IntKind.wrap .u64 (p8_3 + (IntKind.wrap .u64 v32.1))) + (IntKind.wrap .u64 v32.2))) + 1)
 bif (decide ((0 : Int) < (p8_2.length : Int))) then
 let v42 := IntKind.wrap .i64 ((p8_2.length : Int) - 1)
 bif decide ((0 : Int) ≤ v42) then
 bif decide (v42 < (p8_2.length : Int)) then
 bif (decide ((p8_2.getD (Int.toNat v42) ((0 : Int), (0 : Int))).2 = v34)) then
 let v45 := IntKind.wrap .i64 ((p8_2.length : Int) - 1)
 bif decide ((0 : Int) ≤ v45) then
 bif decide (v45 < (p8_2.length : Int)) then
 roaring_Set_Runs_l1 k p8_0 p8_1 (p8_2.set (Int.toNat v45) (((p8_2.getD (Int.toNat v45) ((0 : Int), (0 : Int)))).1, v39)) p8_3 p8_4 p8_5 p8_6 p8_7 (IntKind.wrap .i64 (p8_8 + 1))
 else none
 else none
 else
 bif decide ((List.length p8_2 + List.length [(v34, v39)]) * 16 ≤ 140737488355328) then
 bif decide (List.length p8_2 + List.length [(v34, v39)] ≤ 140737488355328) then
 roaring_Set_Runs_l1 k p8_0 p8_1 (p8_2 ++ [(v34, v39)]) p8_3 p8_4 p8_5 p8_6 p8_7 (IntKind.wrap .i64 (p8_8 + 1))
 else none
 else none
 else none
 else none
 else
 bif decide ((List.length p8_2 + List.length [(v34, v39)]) * 16 ≤ 140737488355328) then
 bif decide (List.length p8_2 + List.length [(v34, v39)] ≤ 140737488355328) then
 roaring_Set_Runs_l1 k p8_0 p8_1 (p8_2 ++ [(v34, v39)]) p8_3 p8_4 p8_5 p8_6 p8_7 (IntKind.wrap .i64 (p8_8 + 1))
 else none
 else none
 else none
 else none
 else
 some (p8_0, p8_1, p8_2, p8_4, p8_5)
noncomputable def roaring_Set_Runs_l0 : Nat → (List Int) → (List (Int × ((List Int) × ((List Int) × (List (Int × Int)))))) → (List (Int × Int)) → Int → Int → Option ((List Int) × (List (Int × ((List Int) × ((List Int) × (List (Int × Int)))))) × (List (Int × Int)))
 | 0, _, _, _, _, _ => none
 | k + 1, p4_0, p4_1, p4_2, p4_3, p4_4 =>
 bif (decide (p4_4 < p4_3)) then
 bif decide ((0 : Int) ≤ p4_4) then
 bif decide (p4_4 < (p4_1.length : Int)) then
 bif decide ((0 : Int) ≤ p4_4) then
 bif decide (p4_4 < (p4_0.length : Int)) then
 (container_Container_Runs k (p4_1.getD (Int.toNat p4_4) ((0 : Int), ([], ([], []))))).bind fun y59 =>
 (roaring_Set_Runs_l1 k p4_0 p4_1 p4_2 (shlI .u64 (IntKind.wrap .u64 (p4_0.getD (Int.toNat p4_4) (0 : Int))) 16) p4_3 p4_4 y59 (y59.length : Int) 0).bind fun y61 =>
 roaring_Set_Runs_l0 k y61.1 y61.2.1 y61.2.2.1 y61.2.2.2.1 (IntKind.wrap .i64 (y61.2.2.2.2 + 1))
 else none
 else none
 else none
 else none
 else
 some (p4_0, p4_1, p4_2)
noncomputable def roaring_Set_Runs (k : Nat) (a0 : (List Int)) (a1 : (List (Int × ((List Int) × ((List Int) × (List (Int × Int))))))) : Option ((List Int) × (List (Int × ((List Int) × ((List Int) × (List (Int × Int)))))) × (List (Int × Int))) :=
 (roaring_Set_list k a0 a1).bind fun y1 =>
 (roaring_Set_Runs_l0 k y1.1 y1.2 [] (y1.2.length : Int) 0).bind fun y63 =>
 some (y63.1, y63.2.1, y63.2.2)

noncomputable def roaring_Set_Len_l0 : Nat → (List Int) → (List (Int × ((List Int) × ((List Int) × (List (Int × Int)))))) → Int → Int → Int → Option ((List Int) × (List (Int × ((List Int) × ((List Int) × (List (Int × Int)))))) × Int)
 | 0, _, _, _, _, _ => none
 | k + 1, p4_0, p4_1, p4_2, p4_3, p4_4 =>
 bif (decide (p4_4 < p4_3)) then
 bif decide ((0 : Int) ≤ p4_4) then
 bif decide (p4_4 < (p4_1.length : Int)) then
 (container_Container_Len k (p4_1.getD (Int.toNat p4_4) ((0 : Int), ([], ([], []))))).bind fun y10 =>
 roaring_Set_Len_l0 k p4_0 p4_1 (IntKind.wrap .i64 (p4_2 + y10)) p4_3 (IntKind.wrap .i64 (p4_4 + 1))
 else none
 else none
 else
 some (p4_0, p4_1, p4_2)
noncomputable def roaring_Set_Len (k : Nat) (a0 : (List Int)) (a1 : (List (Int × ((List Int) × ((List Int) × (List (Int × Int))))))) : Option ((List Int) × (List (Int × ((List Int) × ((List Int) × (List (Int × Int)))))) × Int) :=
 (roaring_Set_list k a0 a1).bind fun y1 =>
 (roaring_Set_Len_l0 k y1.1 y1.2 0 (y1.2.length : Int) 0).bind fun y13 =>
 some (y13.1, y13.2.1, y13.2.2)

noncomputable def container_Container_arrayRank (k : Nat) (a0 : (Int × ((List Int) × ((List Int) × (List (Int × Int)))))) (a1 : Int) : Option (Int) :=
 bif (decide (a1 ≤ 0)) then
 some 0
 else
 bif (decide ((65536 : Int) ≤ a1)) then
 some (a0.2.1.length : Int)
 else
 (arrays_Find k a0.2.1 (IntKind.wrap .u16 a1)).bind fun y5 =>
 some y5.1

noncomputable def words_Rank (k : Nat) (a0 : (List Int)) (a1 : Int) : Option (Int) :=
 let v3 := IntKind.wrap .i64 (64 * (a0.length : Int))
 let v5 := IntKind.wrap .i64 ((min (max a1 0) v3).tdiv 64)
 bif decide ((0 : Int) ≤ v5) then
 bif decide (v5 ≤ (a0.length : Int)) then
 (words_Len k (a0.take (Int.toNat v5))).bind fun y7 =>
 bif (decide ((0 : Int) < ((min (max a1 0) v3).tmod 64))) then
 let v10 := IntKind.wrap .i64 ((min (max a1 0) v3).tdiv 64)
 bif decide ((0 : Int) ≤ v10) then
 bif decide (v10 < (a0.length : Int)) then
 let v13 := IntKind.wrap .i64 (64 - ((min (max a1 0) v3).tmod 64))
 bif !(decide (v13 < 0)) then
 (math_bits_OnesCount64 k (shlI .u64 (a0.getD (Int.toNat v10) (0 : Int)) v13)).bind fun y15 =>
 some (IntKind.wrap .i64 (y7 + y15))
 else none
 else none
 else none
 else
 some y7
 else none
 else none

noncomputable def container_Container_wordsRank (k : Nat) (a0 : (Int × ((List Int) × ((List Int) × (List (Int × Int)))))) (a1 : Int) : Option (Int) :=
 (words_Rank k a0.2.2.1 a1).bind fun y1 =>
 some y1

noncomputable def runs_Rank_l0 : Nat → Int → Int → (List (Int × Int)) → Int → Int → Option (Int)
 | 0, _, _, _, _, _ => none
 | k + 1, p5_0, p5_1, p5_2, p5_3, p5_4 =>
 bif (decide (p5_4 < p5_3)) then
 bif decide ((0 : Int) ≤ p5_4) then
 bif decide (p5_4 < (p5_2.length : Int)) then
 let v14 := p5_2.getD (Int.toNat p5_4) ((0 : Int), (0 : Int))
 runs_Rank_l0 k p5_0 (IntKind.wrap .i64 (p5_1 + (min (max (IntKind.wrap .i64 (p5_0 - (IntKind.wrap .i64 v14.1))) 0) (IntKind.wrap .i64 ((IntKind.wrap .i64 v14.2) + 1))))) p5_2 p5_3 (IntKind.wrap .i64 (p5_4 + 1))
 else none
 else none
 else
 some p5_1
noncomputable def runs_Rank (k : Nat) (a0 : (List (Int × Int))) (a1 : Int) : Option (Int) :=
 (runs_Rank_l0 k (max a1 0) 0 a0 (a0.length : Int) 0).bind fun y23 =>
 some y23

noncomputable def container_Container_runsRank (k : Nat) (a0 : (Int × ((List Int) × ((List Int) × (List (Int × Int)))))) (a1 : Int) : Option (Int) :=
 (runs_Rank k a0.2.2.2 a1).bind fun y1 =>
 some y1

noncomputable def container_Container_Rank (k : Nat) (a0 : (Int × ((List Int) × ((List Int) × (List (Int × Int)))))) (a1 : Int) : Option (Int) :=
 (container_Container_Kind k a0).bind fun y1 =>
 bif decide (y1 = 0) then
 none
 else
 bif decide (y1 = 1) then
 (container_Container_arrayRank k a0 a1).bind fun y2 =>
 some y2
 else
 bif decide (y1 = 2) then
 (container_Container_wordsRank k a0 a1).bind fun y3 =>
 some y3
 else
 bif decide (y1 = 3) then
 (container_Container_runsRank k a0 a1).bind fun y4 =>
 some y4
 else
 none

noncomputable def roaring_Set_Rank_l0 : Nat → (List Int) → (List (Int × ((List Int) × ((List Int) × (List (Int × Int)))))) → Int → Int → Int → Int → Option ((List Int) × (List (Int × ((List Int) × ((List Int) × (List (Int × Int)))))) × Int)
 | 0, _, _, _, _, _, _ => none
 | k + 1, p6_0, p6_1, p6_2, p6_3, p6_4, p6_5 =>
 bif (decide (p6_5 < p6_4)) then
 bif decide ((0 : Int) ≤ p6_5) then
 bif decide (p6_5 < (p6_1.length : Int)) then
 let v23 := p6_1.getD (Int.toNat p6_5) ((0 : Int), ([], ([], [])))
 bif decide ((0 : Int) ≤ p6_5) then
 bif decide (p6_5 < (p6_0.length : Int)) then
 let v24 := p6_0.getD (Int.toNat p6_5) (0 : Int)
 bif (decide ((IntKind.wrap .u64 v24) < (shrI .u64 p6_2 16))) then
 (container_Container_Len k v23).bind fun y28 =>
 roaring_Set_Rank_l0 k p6_0 p6_1 p6_2 (IntKind.wrap .i64 (p6_3 + y28)) p6_4 (IntKind.wrap .i64 (p6_5 + 1))
 else
 bif (decide ((IntKind.wrap .u64 v24) = (shrI .u64 p6_2 16))) then
 (container_Container_Rank k v23 (IntKind.wrap .i64 (bitsI .and .u64 p6_2 65535))).bind fun y35 =>
 roaring_Set_Rank_l0 k p6_0 p6_1 p6_2 (IntKind.wrap .i64 (p6_3 + y35)) p6_4 (IntKind.wrap .i64 (p6_5 + 1))
 else
 roaring_Set_Rank_l0 k p6_0 p6_1 p6_2 p6_3 p6_4 (IntKind.wrap .i64 (p6_5 + 1))
 else none
 else none
 else none
 else none
 else
 some (p6_0, p6_1, p6_3)
noncomputable def roaring_Set_Rank (k : Nat) (a0 : (List Int)) (a1 : (List (Int × ((List Int) × ((List Int) × (List (Int × Int))))))) (a2 : Int) : Option ((List Int) × (List (Int × ((List Int) × ((List Int) × (List (Int × Int)))))) × Int) :=
 bif (decide ((4294967296 : Int) ≤ a2)) then
 (roaring_Set_Len k a0 a1).bind fun y2 =>
 some (y2.1, y2.2.1, y2.2.2)
 else
 (roaring_Set_list k a0 a1).bind fun y3 =>
 (roaring_Set_Rank_l0 k y3.1 y3.2 a2 0 (y3.2.length : Int) 0).bind fun y39 =>
 some (y39.1, y39.2.1, y39.2.2)

noncomputable def isinglassref08_Same_l0 : Nat → (List (Int × Int)) → (List (Int × Int)) → Int → Option ((Bool) ⊕ (Unit))
 | 0, _, _, _ => none
 | k + 1, p5_0, p5_1, p5_2 =>
 bif (decide (p5_2 < (p5_0.length : Int))) then
 bif decide ((0 : Int) ≤ p5_2) then
 bif decide (p5_2 < (p5_0.length : Int)) then
 let v12 := p5_0.getD (Int.toNat p5_2) ((0 : Int), (0 : Int))
 bif decide ((0 : Int) ≤ p5_2) then
 bif decide (p5_2 < (p5_1.length : Int)) then
 let v13 := p5_1.getD (Int.toNat p5_2) ((0 : Int), (0 : Int))
 bif (!(decide (v12.1 = v13.1) && (decide (v12.2 = v13.2)))) then
 some (.inl false)
 else
 isinglassref08_Same_l0 k p5_0 p5_1 (IntKind.wrap .i64 (p5_2 + 1))
 else none
 else none
 else none
 else none
 else
 some (.inr ())
noncomputable def isinglassref08_Same (k : Nat) (a0 : (List (Int × Int))) (a1 : (List (Int × Int))) : Option (Bool) :=
 bif (!(decide ((a0.length : Int) = (a1.length : Int)))) then
 some false
 else
 (isinglassref08_Same_l0 k a0 a1 0).bind fun y16 =>
 (match y16 with
 | .inl y17 =>
 some y17
 | .inr y18 =>
 some true)

noncomputable def isinglasslaw08_known (k : Nat) : Option (Bool) :=
 (roaring_New k).bind fun y1 =>
 (roaring_Set_AddRange k y1.1 y1.2 65535 65538).bind fun y2 =>
 (roaring_Set_Keys k y2.1 y2.2).bind fun y3 =>
 (roaring_Of k [5, 1]).bind fun y4 =>
 (roaring_Set_Not k y4.1 y4.2 4).bind fun y5 =>
 (roaring_Set_Runs k y5.2.2.1 y5.2.2.2).bind fun y6 =>
 (roaring_Set_Len k y3.1 y3.2.1).bind fun y7 =>
 bif (decide (y7.2.2 = 3)) then
 bif (decide ((y3.2.2.length : Int) = 2)) then
 bif decide ((1 : Int) < (y3.2.2.length : Int)) then
 bif (decide ((y3.2.2.getD (Int.toNat 1) (0 : Int)) = 1)) then
 (roaring_Set_Rank k y7.1 y7.2.1 65537).bind fun y13 =>
 bif (decide (y13.2.2 = 2)) then
 (isinglassref08_Same k y6.2.2 [(0, 1), (2, 4)]).bind fun y15 =>
 some y15
 else
 some false
 else
 some false
 else none
 else
 some false
 else
 some false

noncomputable def isinglassref08_Span (k : Nat) (a0 : Int) (a1 : Int) : Option ((List (Int × Int))) :=
 bif (decide ((4294967296 : Int) < a1)) then
 bif (decide ((4294967296 : Int) ≤ a0)) then
 some []
 else
 some [(a0, 4294967296)]
 else
 bif (decide (a1 ≤ a0)) then
 some []
 else
 some [(a0, a1)]

noncomputable def slices_Equal_Span_l0 : Nat → (List (Int × Int)) → (List (Int × Int)) → Int → Int → Option ((Bool) ⊕ (Unit))
 | 0, _, _, _, _ => none
 | k + 1, p5_0, p5_1, p5_2, p5_3 =>
 bif (decide (p5_3 < p5_2)) then
 bif decide ((0 : Int) ≤ p5_3) then
 bif decide (p5_3 < (p5_0.length : Int)) then
 let v11 := p5_0.getD (Int.toNat p5_3) ((0 : Int), (0 : Int))
 bif decide ((0 : Int) ≤ p5_3) then
 bif decide (p5_3 < (p5_1.length : Int)) then
 let v12 := p5_1.getD (Int.toNat p5_3) ((0 : Int), (0 : Int))
 bif (!(decide (v11.1 = v12.1) && (decide (v11.2 = v12.2)))) then
 some (.inl false)
 else
 slices_Equal_Span_l0 k p5_0 p5_1 p5_2 (IntKind.wrap .i64 (p5_3 + 1))
 else none
 else none
 else none
 else none
 else
 some (.inr ())
noncomputable def slices_Equal_Span (k : Nat) (a0 : (List (Int × Int))) (a1 : (List (Int × Int))) : Option (Bool) :=
 bif (!(decide ((a0.length : Int) = (a1.length : Int)))) then
 some false
 else
 (slices_Equal_Span_l0 k a0 a1 (a0.length : Int) 0).bind fun y15 =>
 (match y15 with
 | .inl y16 =>
 some y16
 | .inr y17 =>
 some true)

noncomputable def roaring_Set_Same (k : Nat) (a0 : (List Int)) (a1 : (List (Int × ((List Int) × ((List Int) × (List (Int × Int))))))) (a2 : (List Int)) (a3 : (List (Int × ((List Int) × ((List Int) × (List (Int × Int))))))) : Option ((List Int) × (List (Int × ((List Int) × ((List Int) × (List (Int × Int)))))) × (List Int) × (List (Int × ((List Int) × ((List Int) × (List (Int × Int)))))) × Bool) :=
 (roaring_Set_Runs k a0 a1).bind fun y1 =>
 (roaring_Set_Runs k a2 a3).bind fun y2 =>
 (slices_Equal_Span k y1.2.2 y2.2.2).bind fun y3 =>
 some (y1.1, y1.2.1, y2.1, y2.2.1, y3)

noncomputable def roaring_Set_Has (k : Nat) (a0 : (List Int)) (a1 : (List (Int × ((List Int) × ((List Int) × (List (Int × Int))))))) (a2 : Int) : Option ((List Int) × (List (Int × ((List Int) × ((List Int) × (List (Int × Int)))))) × Bool) :=
 (roaring_Set_get k a0 a1 (IntKind.wrap .u16 (shrI .u32 a2 16))).bind fun y3 =>
 (container_Container_Has k y3.2.2 (IntKind.wrap .u16 a2)).bind fun y5 =>
 some (y3.1, y3.2.1, y5)

noncomputable def isinglasslaw08_RoaringTop (k : Nat) (a0 : Int) (a1 : Int) : Option (Bool) :=
 bif (decide ((100000 : Int) < a0)) then
 (isinglasslaw08_known k).bind fun y2 =>
 some y2
 else
 bif (decide ((4611686018427387904 : Int) < a1)) then
 (isinglasslaw08_known k).bind fun y4 =>
 some y4
 else
 let v5 := IntKind.wrap .u64 (4294967296 - a0)
 (roaring_New k).bind fun y6 =>
 (roaring_Set_AddRange k y6.1 y6.2 v5 (IntKind.wrap .u64 (v5 + a1))).bind fun y8 =>
 (isinglassref08_Span k v5 (IntKind.wrap .u64 (v5 + a1))).bind fun y12 =>
 (roaring_Spans k [(v5, (IntKind.wrap .u64 (v5 + a1)))]).bind fun y14 =>
 (roaring_Set_Len k y8.1 y8.2).bind fun y15 =>
 bif (decide (y15.2.2 = (IntKind.wrap .i64 (min a0 a1)))) then
 (roaring_Set_Rank k y15.1 y15.2.1 4294967296).bind fun y17 =>
 bif (decide (y17.2.2 = (IntKind.wrap .i64 (min a0 a1)))) then
 (roaring_Set_Same k y17.1 y17.2.1 y14.1 y14.2).bind fun y19 =>
 bif y19.2.2.2.2 then
 (roaring_Set_Runs k y19.1 y19.2.1).bind fun y20 =>
 (isinglassref08_Same k y20.2.2 y12).bind fun y21 =>
 bif y21 then
 (roaring_Set_Has k y20.1 y20.2.1 4294967295).bind fun y22 =>
 bif (decide ((0 : Int) < a0)) then
 bif (y22.2.2 == (decide (a0 ≤ a1))) then
 (isinglasslaw08_known k).bind fun y26 =>
 some y26
 else
 some false
 else
 bif (y22.2.2 == false) then
 (isinglasslaw08_known k).bind fun y28 =>
 some y28
 else
 some false
 else
 some false
 else
 some false
 else
 some false
 else
 some false

end Go.Rx.Tryz

/- Printed by gen.py: the pure functions. -/
import Derived.Test.YtmglpacjnppbfaaDoorCore
namespace Go.Rx.Tryd
set_option linter.unusedVariables false
/- the table, hidden from the kernel -/
theorem deBruijn_is : ∃ l : List Int, l = [0, 1, 56, 2, 57, 49, 28, 3, 61, 58, 42, 50, 38, 29, 17, 4, 62, 47, 59, 36, 45, 43, 51, 22, 53, 39, 33, 30, 24, 18, 12, 5, 63, 55, 48, 27, 60, 41, 37, 16, 46, 35, 44, 21, 52, 32, 23, 11, 54, 26, 40, 15, 34, 20, 31, 10, 25, 14, 19, 9, 13, 8, 7, 6] := ⟨_, rfl⟩
noncomputable def deBruijn64 : List Int := Classical.choose deBruijn_is
theorem deBruijn_eq : deBruijn64 = [0, 1, 56, 2, 57, 49, 28, 3, 61, 58, 42, 50, 38, 29, 17, 4, 62, 47, 59, 36, 45, 43, 51, 22, 53, 39, 33, 30, 24, 18, 12, 5, 63, 55, 48, 27, 60, 41, 37, 16, 46, 35, 44, 21, 52, 32, 23, 11, 54, 26, 40, 15, 34, 20, 31, 10, 25, 14, 19, 9, 13, 8, 7, 6] := Classical.choose_spec deBruijn_is
noncomputable def runs_Of_l0 : Nat → (List (Int × Int)) → (List Int) → (List Int) → Int → Int → Option ((List (Int × Int)))
  | 0, _, _, _, _, _ => none
  | k + 1, p4_0, p4_1, p4_2, p4_3, p4_4 =>
    bif (decide (p4_4 < p4_3)) then
      bif decide ((0 : Int) ≤ p4_4) then
        bif decide (p4_4 < (p4_2.length : Int)) then
          let v20 := p4_2.getD (Int.toNat p4_4) (0 : Int)
          bif (decide ((0 : Int) < p4_4)) then
            let v22 := IntKind.wrap .i64 (p4_4 - 1)
            bif decide ((0 : Int) ≤ v22) then
              bif decide (v22 < (p4_1.length : Int)) then
                bif (decide (v20 = (IntKind.wrap .u16 ((p4_1.getD (Int.toNat v22) (0 : Int)) + 1)))) then
                  let v27 := IntKind.wrap .i64 ((p4_0.length : Int) - 1)
                  bif decide ((0 : Int) ≤ v27) then
                    bif decide (v27 < (p4_0.length : Int)) then
                      bif decide ((0 : Int) ≤ v27) then
                        bif decide (v27 < (p4_0.length : Int)) then
                          runs_Of_l0 k (p4_0.set (Int.toNat v27) (((p4_0.getD (Int.toNat v27) ((0 : Int), (0 : Int)))).1, (IntKind.wrap .u16 ((p4_0.getD (Int.toNat v27) ((0 : Int), (0 : Int))).2 + 1)))) p4_1 p4_2 p4_3 (IntKind.wrap .i64 (p4_4 + 1))
                        else none
                      else none
                    else none
                  else none
                else
                  bif decide ((List.length p4_0 + List.length [(v20, ((0, 0)).2)]) * 4 ≤ 140737488355328) then
                    bif decide (List.length p4_0 + List.length [(v20, ((0, 0)).2)] ≤ 140737488355328) then
                      runs_Of_l0 k (p4_0 ++ [(v20, ((0, 0)).2)]) p4_1 p4_2 p4_3 (IntKind.wrap .i64 (p4_4 + 1))
                    else none
                  else none
              else none
            else none
          else
            bif decide ((List.length p4_0 + List.length [(v20, ((0, 0)).2)]) * 4 ≤ 140737488355328) then
              bif decide (List.length p4_0 + List.length [(v20, ((0, 0)).2)] ≤ 140737488355328) then
                runs_Of_l0 k (p4_0 ++ [(v20, ((0, 0)).2)]) p4_1 p4_2 p4_3 (IntKind.wrap .i64 (p4_4 + 1))
              else none
            else none
        else none
      else none
    else
      some p4_0
noncomputable def runs_Of (k : Nat) (a0 : (List Int)) : Option ((List (Int × Int))) :=
  (runs_Of_l0 k [] a0 a0 (a0.length : Int) 0).bind fun y36 =>
  some y36

noncomputable def slices_Clone_Run (k : Nat) (a0 : (List (Int × Int))) : Option ((List (Int × Int))) :=
  match a0 with
  | [] => some []
  | x :: l =>
    bif decide ((List.length ([] : List (Int × Int)) + List.length (x :: l)) * 4 ≤ 140737488355328) then
      bif decide (List.length ([] : List (Int × Int)) + List.length (x :: l) ≤ 140737488355328) then
        some (([] : List (Int × Int)) ++ (x :: l))
      else none
    else none

noncomputable def runs_end (k : Nat) (a0 : (Int × Int)) : Option (Int) :=
  some (IntKind.wrap .i64 ((IntKind.wrap .i64 ((IntKind.wrap .i64 a0.1) + (IntKind.wrap .i64 a0.2))) + 1))

noncomputable def runs_row_l0 : Nat → (List Int) → (List (Int × Int)) → Int → Int → Option ((List Int))
  | 0, _, _, _, _ => none
  | k + 1, p4_0, p4_1, p4_2, p4_3 =>
    bif (decide (p4_3 < p4_2)) then
      bif decide ((0 : Int) ≤ p4_3) then
        bif decide (p4_3 < (p4_1.length : Int)) then
          let v9 := p4_1.getD (Int.toNat p4_3) ((0 : Int), (0 : Int))
          (runs_end k v9).bind fun y11 =>
          bif decide ((List.length p4_0 + List.length [(IntKind.wrap .i64 v9.1), y11]) * 8 ≤ 140737488355328) then
            bif decide (List.length p4_0 + List.length [(IntKind.wrap .i64 v9.1), y11] ≤ 140737488355328) then
              runs_row_l0 k (p4_0 ++ [(IntKind.wrap .i64 v9.1), y11]) p4_1 p4_2 (IntKind.wrap .i64 (p4_3 + 1))
            else none
          else none
        else none
      else none
    else
      some p4_0
noncomputable def runs_row (k : Nat) (a0 : (List (Int × Int))) : Option ((List Int)) :=
  (runs_row_l0 k [] a0 (a0.length : Int) 0).bind fun y14 =>
  some y14

noncomputable def runs_Flip_1 (k : Nat) (a0 : Bool) (a1 : Bool) : Option (Bool) :=
  some (!(a0 == a1))

noncomputable def runs_edges_Flip_1_l1 : Nat → (List (Int × Int)) → (List Int) → (List Int) → Bool → Int → Int → Int → Int → Option ((List (Int × Int)) × (List Int) × (List Int) × Bool × Int × Int × Int × Int)
  | 0, _, _, _, _, _, _, _, _ => none
  | k + 1, p11_0, p11_1, p11_2, p11_3, p11_4, p11_5, p11_6, p11_7 =>
    bif (decide (p11_5 < (p11_1.length : Int))) then
      bif decide ((0 : Int) ≤ p11_5) then
        bif decide (p11_5 < (p11_1.length : Int)) then
          bif (decide ((p11_1.getD (Int.toNat p11_5) (0 : Int)) ≤ p11_7)) then
            runs_edges_Flip_1_l1 k p11_0 p11_1 p11_2 p11_3 p11_4 (IntKind.wrap .i64 (p11_5 + 1)) p11_6 p11_7
          else
            some (p11_0, p11_1, p11_2, p11_3, p11_4, p11_5, p11_6, p11_7)
        else none
      else none
    else
      some (p11_0, p11_1, p11_2, p11_3, p11_4, p11_5, p11_6, p11_7)
noncomputable def runs_edges_Flip_1_l2 : Nat → (List (Int × Int)) → (List Int) → (List Int) → Bool → Int → Int → Int → Int → Option ((List (Int × Int)) × (List Int) × (List Int) × Bool × Int × Int × Int × Int)
  | 0, _, _, _, _, _, _, _, _ => none
  | k + 1, p13_0, p13_1, p13_2, p13_3, p13_4, p13_5, p13_6, p13_7 =>
    bif (decide (p13_6 < (p13_2.length : Int))) then
      bif decide ((0 : Int) ≤ p13_6) then
        bif decide (p13_6 < (p13_2.length : Int)) then
          bif (decide ((p13_2.getD (Int.toNat p13_6) (0 : Int)) ≤ p13_7)) then
            runs_edges_Flip_1_l2 k p13_0 p13_1 p13_2 p13_3 p13_4 p13_5 (IntKind.wrap .i64 (p13_6 + 1)) p13_7
          else
            some (p13_0, p13_1, p13_2, p13_3, p13_4, p13_5, p13_6, p13_7)
        else none
      else none
    else
      some (p13_0, p13_1, p13_2, p13_3, p13_4, p13_5, p13_6, p13_7)
noncomputable def runs_edges_Flip_1_l0 : Nat → (List (Int × Int)) → (List Int) → (List Int) → Bool → Int → Int → Int → Option ((List (Int × Int)))
  | 0, _, _, _, _, _, _, _ => none
  | k + 1, p5_0, p5_1, p5_2, p5_3, p5_4, p5_5, p5_6 =>
    bif (decide (p5_5 < (p5_1.length : Int))) then
      bif (decide (p5_5 < (p5_1.length : Int))) then
        bif decide ((0 : Int) ≤ p5_5) then
          bif decide (p5_5 < (p5_1.length : Int)) then
            let v155 := p5_1.getD (Int.toNat p5_5) (0 : Int)
            bif (decide (p5_6 < (p5_2.length : Int))) then
              bif decide ((0 : Int) ≤ p5_6) then
                bif decide (p5_6 < (p5_2.length : Int)) then
                  (runs_edges_Flip_1_l1 k p5_0 p5_1 p5_2 p5_3 p5_4 p5_5 p5_6 (min v155 (p5_2.getD (Int.toNat p5_6) (0 : Int)))).bind fun y160 =>
                  (runs_edges_Flip_1_l2 k y160.1 y160.2.1 y160.2.2.1 y160.2.2.2.1 y160.2.2.2.2.1 y160.2.2.2.2.2.1 y160.2.2.2.2.2.2.1 y160.2.2.2.2.2.2.2).bind fun y161 =>
                  (runs_Flip_1 k (decide ((y161.2.2.2.2.2.1.tmod 2) = 1)) (decide ((y161.2.2.2.2.2.2.1.tmod 2) = 1))).bind fun y166 =>
                  bif (y166 == y161.2.2.2.1) then
                    runs_edges_Flip_1_l0 k y161.1 y161.2.1 y161.2.2.1 y161.2.2.2.1 y161.2.2.2.2.1 y161.2.2.2.2.2.1 y161.2.2.2.2.2.2.1
                  else
                    bif y161.2.2.2.1 then
                      let v168 := IntKind.wrap .u16 y161.2.2.2.2.1
                      let v170 := IntKind.wrap .i64 ((IntKind.wrap .i64 (y161.2.2.2.2.2.2.2 - y161.2.2.2.2.1)) - 1)
                      bif decide ((List.length y161.1 + List.length [(v168, (IntKind.wrap .u16 v170))]) * 4 ≤ 140737488355328) then
                        bif decide (List.length y161.1 + List.length [(v168, (IntKind.wrap .u16 v170))] ≤ 140737488355328) then
                          runs_edges_Flip_1_l0 k (y161.1 ++ [(v168, (IntKind.wrap .u16 v170))]) y161.2.1 y161.2.2.1 y166 y161.2.2.2.2.2.2.2 y161.2.2.2.2.2.1 y161.2.2.2.2.2.2.1
                        else none
                      else none
                    else
                      runs_edges_Flip_1_l0 k y161.1 y161.2.1 y161.2.2.1 y166 y161.2.2.2.2.2.2.2 y161.2.2.2.2.2.1 y161.2.2.2.2.2.2.1
                else none
              else none
            else
              (runs_edges_Flip_1_l1 k p5_0 p5_1 p5_2 p5_3 p5_4 p5_5 p5_6 v155).bind fun y173 =>
              (runs_edges_Flip_1_l2 k y173.1 y173.2.1 y173.2.2.1 y173.2.2.2.1 y173.2.2.2.2.1 y173.2.2.2.2.2.1 y173.2.2.2.2.2.2.1 y173.2.2.2.2.2.2.2).bind fun y174 =>
              (runs_Flip_1 k (decide ((y174.2.2.2.2.2.1.tmod 2) = 1)) (decide ((y174.2.2.2.2.2.2.1.tmod 2) = 1))).bind fun y179 =>
              bif (y179 == y174.2.2.2.1) then
                runs_edges_Flip_1_l0 k y174.1 y174.2.1 y174.2.2.1 y174.2.2.2.1 y174.2.2.2.2.1 y174.2.2.2.2.2.1 y174.2.2.2.2.2.2.1
              else
                bif y174.2.2.2.1 then
                  let v181 := IntKind.wrap .u16 y174.2.2.2.2.1
                  let v183 := IntKind.wrap .i64 ((IntKind.wrap .i64 (y174.2.2.2.2.2.2.2 - y174.2.2.2.2.1)) - 1)
                  bif decide ((List.length y174.1 + List.length [(v181, (IntKind.wrap .u16 v183))]) * 4 ≤ 140737488355328) then
                    bif decide (List.length y174.1 + List.length [(v181, (IntKind.wrap .u16 v183))] ≤ 140737488355328) then
                      runs_edges_Flip_1_l0 k (y174.1 ++ [(v181, (IntKind.wrap .u16 v183))]) y174.2.1 y174.2.2.1 y179 y174.2.2.2.2.2.2.2 y174.2.2.2.2.2.1 y174.2.2.2.2.2.2.1
                    else none
                  else none
                else
                  runs_edges_Flip_1_l0 k y174.1 y174.2.1 y174.2.2.1 y179 y174.2.2.2.2.2.2.2 y174.2.2.2.2.2.1 y174.2.2.2.2.2.2.1
          else none
        else none
      else
        bif (decide (p5_6 < (p5_2.length : Int))) then
          bif decide ((0 : Int) ≤ p5_6) then
            bif decide (p5_6 < (p5_2.length : Int)) then
              (runs_edges_Flip_1_l1 k p5_0 p5_1 p5_2 p5_3 p5_4 p5_5 p5_6 (min 65537 (p5_2.getD (Int.toNat p5_6) (0 : Int)))).bind fun y190 =>
              (runs_edges_Flip_1_l2 k y190.1 y190.2.1 y190.2.2.1 y190.2.2.2.1 y190.2.2.2.2.1 y190.2.2.2.2.2.1 y190.2.2.2.2.2.2.1 y190.2.2.2.2.2.2.2).bind fun y191 =>
              (runs_Flip_1 k (decide ((y191.2.2.2.2.2.1.tmod 2) = 1)) (decide ((y191.2.2.2.2.2.2.1.tmod 2) = 1))).bind fun y196 =>
              bif (y196 == y191.2.2.2.1) then
                runs_edges_Flip_1_l0 k y191.1 y191.2.1 y191.2.2.1 y191.2.2.2.1 y191.2.2.2.2.1 y191.2.2.2.2.2.1 y191.2.2.2.2.2.2.1
              else
                bif y191.2.2.2.1 then
                  let v198 := IntKind.wrap .u16 y191.2.2.2.2.1
                  let v200 := IntKind.wrap .i64 ((IntKind.wrap .i64 (y191.2.2.2.2.2.2.2 - y191.2.2.2.2.1)) - 1)
                  bif decide ((List.length y191.1 + List.length [(v198, (IntKind.wrap .u16 v200))]) * 4 ≤ 140737488355328) then
                    bif decide (List.length y191.1 + List.length [(v198, (IntKind.wrap .u16 v200))] ≤ 140737488355328) then
                      runs_edges_Flip_1_l0 k (y191.1 ++ [(v198, (IntKind.wrap .u16 v200))]) y191.2.1 y191.2.2.1 y196 y191.2.2.2.2.2.2.2 y191.2.2.2.2.2.1 y191.2.2.2.2.2.2.1
                    else none
                  else none
                else
                  runs_edges_Flip_1_l0 k y191.1 y191.2.1 y191.2.2.1 y196 y191.2.2.2.2.2.2.2 y191.2.2.2.2.2.1 y191.2.2.2.2.2.2.1
            else none
          else none
        else
          (runs_edges_Flip_1_l1 k p5_0 p5_1 p5_2 p5_3 p5_4 p5_5 p5_6 65537).bind fun y203 =>
          (runs_edges_Flip_1_l2 k y203.1 y203.2.1 y203.2.2.1 y203.2.2.2.1 y203.2.2.2.2.1 y203.2.2.2.2.2.1 y203.2.2.2.2.2.2.1 y203.2.2.2.2.2.2.2).bind fun y204 =>
          (runs_Flip_1 k (decide ((y204.2.2.2.2.2.1.tmod 2) = 1)) (decide ((y204.2.2.2.2.2.2.1.tmod 2) = 1))).bind fun y209 =>
          bif (y209 == y204.2.2.2.1) then
            runs_edges_Flip_1_l0 k y204.1 y204.2.1 y204.2.2.1 y204.2.2.2.1 y204.2.2.2.2.1 y204.2.2.2.2.2.1 y204.2.2.2.2.2.2.1
          else
            bif y204.2.2.2.1 then
              let v211 := IntKind.wrap .u16 y204.2.2.2.2.1
              let v213 := IntKind.wrap .i64 ((IntKind.wrap .i64 (y204.2.2.2.2.2.2.2 - y204.2.2.2.2.1)) - 1)
              bif decide ((List.length y204.1 + List.length [(v211, (IntKind.wrap .u16 v213))]) * 4 ≤ 140737488355328) then
                bif decide (List.length y204.1 + List.length [(v211, (IntKind.wrap .u16 v213))] ≤ 140737488355328) then
                  runs_edges_Flip_1_l0 k (y204.1 ++ [(v211, (IntKind.wrap .u16 v213))]) y204.2.1 y204.2.2.1 y209 y204.2.2.2.2.2.2.2 y204.2.2.2.2.2.1 y204.2.2.2.2.2.2.1
                else none
              else none
            else
              runs_edges_Flip_1_l0 k y204.1 y204.2.1 y204.2.2.1 y209 y204.2.2.2.2.2.2.2 y204.2.2.2.2.2.1 y204.2.2.2.2.2.2.1
    else
      bif (decide (p5_6 < (p5_2.length : Int))) then
        bif (decide (p5_5 < (p5_1.length : Int))) then
          bif decide ((0 : Int) ≤ p5_5) then
            bif decide (p5_5 < (p5_1.length : Int)) then
              let v220 := p5_1.getD (Int.toNat p5_5) (0 : Int)
              bif (decide (p5_6 < (p5_2.length : Int))) then
                bif decide ((0 : Int) ≤ p5_6) then
                  bif decide (p5_6 < (p5_2.length : Int)) then
                    (runs_edges_Flip_1_l1 k p5_0 p5_1 p5_2 p5_3 p5_4 p5_5 p5_6 (min v220 (p5_2.getD (Int.toNat p5_6) (0 : Int)))).bind fun y225 =>
                    (runs_edges_Flip_1_l2 k y225.1 y225.2.1 y225.2.2.1 y225.2.2.2.1 y225.2.2.2.2.1 y225.2.2.2.2.2.1 y225.2.2.2.2.2.2.1 y225.2.2.2.2.2.2.2).bind fun y226 =>
                    (runs_Flip_1 k (decide ((y226.2.2.2.2.2.1.tmod 2) = 1)) (decide ((y226.2.2.2.2.2.2.1.tmod 2) = 1))).bind fun y231 =>
                    bif (y231 == y226.2.2.2.1) then
                      runs_edges_Flip_1_l0 k y226.1 y226.2.1 y226.2.2.1 y226.2.2.2.1 y226.2.2.2.2.1 y226.2.2.2.2.2.1 y226.2.2.2.2.2.2.1
                    else
                      bif y226.2.2.2.1 then
                        let v233 := IntKind.wrap .u16 y226.2.2.2.2.1
                        let v235 := IntKind.wrap .i64 ((IntKind.wrap .i64 (y226.2.2.2.2.2.2.2 - y226.2.2.2.2.1)) - 1)
                        bif decide ((List.length y226.1 + List.length [(v233, (IntKind.wrap .u16 v235))]) * 4 ≤ 140737488355328) then
                          bif decide (List.length y226.1 + List.length [(v233, (IntKind.wrap .u16 v235))] ≤ 140737488355328) then
                            runs_edges_Flip_1_l0 k (y226.1 ++ [(v233, (IntKind.wrap .u16 v235))]) y226.2.1 y226.2.2.1 y231 y226.2.2.2.2.2.2.2 y226.2.2.2.2.2.1 y226.2.2.2.2.2.2.1
                          else none
                        else none
                      else
                        runs_edges_Flip_1_l0 k y226.1 y226.2.1 y226.2.2.1 y231 y226.2.2.2.2.2.2.2 y226.2.2.2.2.2.1 y226.2.2.2.2.2.2.1
                  else none
                else none
              else
                (runs_edges_Flip_1_l1 k p5_0 p5_1 p5_2 p5_3 p5_4 p5_5 p5_6 v220).bind fun y238 =>
                (runs_edges_Flip_1_l2 k y238.1 y238.2.1 y238.2.2.1 y238.2.2.2.1 y238.2.2.2.2.1 y238.2.2.2.2.2.1 y238.2.2.2.2.2.2.1 y238.2.2.2.2.2.2.2).bind fun y239 =>
                (runs_Flip_1 k (decide ((y239.2.2.2.2.2.1.tmod 2) = 1)) (decide ((y239.2.2.2.2.2.2.1.tmod 2) = 1))).bind fun y244 =>
                bif (y244 == y239.2.2.2.1) then
                  runs_edges_Flip_1_l0 k y239.1 y239.2.1 y239.2.2.1 y239.2.2.2.1 y239.2.2.2.2.1 y239.2.2.2.2.2.1 y239.2.2.2.2.2.2.1
                else
                  bif y239.2.2.2.1 then
                    let v246 := IntKind.wrap .u16 y239.2.2.2.2.1
                    let v248 := IntKind.wrap .i64 ((IntKind.wrap .i64 (y239.2.2.2.2.2.2.2 - y239.2.2.2.2.1)) - 1)
                    bif decide ((List.length y239.1 + List.length [(v246, (IntKind.wrap .u16 v248))]) * 4 ≤ 140737488355328) then
                      bif decide (List.length y239.1 + List.length [(v246, (IntKind.wrap .u16 v248))] ≤ 140737488355328) then
                        runs_edges_Flip_1_l0 k (y239.1 ++ [(v246, (IntKind.wrap .u16 v248))]) y239.2.1 y239.2.2.1 y244 y239.2.2.2.2.2.2.2 y239.2.2.2.2.2.1 y239.2.2.2.2.2.2.1
                      else none
                    else none
                  else
                    runs_edges_Flip_1_l0 k y239.1 y239.2.1 y239.2.2.1 y244 y239.2.2.2.2.2.2.2 y239.2.2.2.2.2.1 y239.2.2.2.2.2.2.1
            else none
          else none
        else
          bif (decide (p5_6 < (p5_2.length : Int))) then
            bif decide ((0 : Int) ≤ p5_6) then
              bif decide (p5_6 < (p5_2.length : Int)) then
                (runs_edges_Flip_1_l1 k p5_0 p5_1 p5_2 p5_3 p5_4 p5_5 p5_6 (min 65537 (p5_2.getD (Int.toNat p5_6) (0 : Int)))).bind fun y255 =>
                (runs_edges_Flip_1_l2 k y255.1 y255.2.1 y255.2.2.1 y255.2.2.2.1 y255.2.2.2.2.1 y255.2.2.2.2.2.1 y255.2.2.2.2.2.2.1 y255.2.2.2.2.2.2.2).bind fun y256 =>
                (runs_Flip_1 k (decide ((y256.2.2.2.2.2.1.tmod 2) = 1)) (decide ((y256.2.2.2.2.2.2.1.tmod 2) = 1))).bind fun y261 =>
                bif (y261 == y256.2.2.2.1) then
                  runs_edges_Flip_1_l0 k y256.1 y256.2.1 y256.2.2.1 y256.2.2.2.1 y256.2.2.2.2.1 y256.2.2.2.2.2.1 y256.2.2.2.2.2.2.1
                else
                  bif y256.2.2.2.1 then
                    let v263 := IntKind.wrap .u16 y256.2.2.2.2.1
                    let v265 := IntKind.wrap .i64 ((IntKind.wrap .i64 (y256.2.2.2.2.2.2.2 - y256.2.2.2.2.1)) - 1)
                    bif decide ((List.length y256.1 + List.length [(v263, (IntKind.wrap .u16 v265))]) * 4 ≤ 140737488355328) then
                      bif decide (List.length y256.1 + List.length [(v263, (IntKind.wrap .u16 v265))] ≤ 140737488355328) then
                        runs_edges_Flip_1_l0 k (y256.1 ++ [(v263, (IntKind.wrap .u16 v265))]) y256.2.1 y256.2.2.1 y261 y256.2.2.2.2.2.2.2 y256.2.2.2.2.2.1 y256.2.2.2.2.2.2.1
                      else none
                    else none
                  else
                    runs_edges_Flip_1_l0 k y256.1 y256.2.1 y256.2.2.1 y261 y256.2.2.2.2.2.2.2 y256.2.2.2.2.2.1 y256.2.2.2.2.2.2.1
              else none
            else none
          else
            (runs_edges_Flip_1_l1 k p5_0 p5_1 p5_2 p5_3 p5_4 p5_5 p5_6 65537).bind fun y268 =>
            (runs_edges_Flip_1_l2 k y268.1 y268.2.1 y268.2.2.1 y268.2.2.2.1 y268.2.2.2.2.1 y268.2.2.2.2.2.1 y268.2.2.2.2.2.2.1 y268.2.2.2.2.2.2.2).bind fun y269 =>
            (runs_Flip_1 k (decide ((y269.2.2.2.2.2.1.tmod 2) = 1)) (decide ((y269.2.2.2.2.2.2.1.tmod 2) = 1))).bind fun y274 =>
            bif (y274 == y269.2.2.2.1) then
              runs_edges_Flip_1_l0 k y269.1 y269.2.1 y269.2.2.1 y269.2.2.2.1 y269.2.2.2.2.1 y269.2.2.2.2.2.1 y269.2.2.2.2.2.2.1
            else
              bif y269.2.2.2.1 then
                let v276 := IntKind.wrap .u16 y269.2.2.2.2.1
                let v278 := IntKind.wrap .i64 ((IntKind.wrap .i64 (y269.2.2.2.2.2.2.2 - y269.2.2.2.2.1)) - 1)
                bif decide ((List.length y269.1 + List.length [(v276, (IntKind.wrap .u16 v278))]) * 4 ≤ 140737488355328) then
                  bif decide (List.length y269.1 + List.length [(v276, (IntKind.wrap .u16 v278))] ≤ 140737488355328) then
                    runs_edges_Flip_1_l0 k (y269.1 ++ [(v276, (IntKind.wrap .u16 v278))]) y269.2.1 y269.2.2.1 y274 y269.2.2.2.2.2.2.2 y269.2.2.2.2.2.1 y269.2.2.2.2.2.2.1
                  else none
                else none
              else
                runs_edges_Flip_1_l0 k y269.1 y269.2.1 y269.2.2.1 y274 y269.2.2.2.2.2.2.2 y269.2.2.2.2.2.1 y269.2.2.2.2.2.2.1
      else
        some p5_0
noncomputable def runs_edges_Flip_1 (k : Nat) (a0 : (List Int)) (a1 : (List Int)) : Option ((List (Int × Int))) :=
  (runs_edges_Flip_1_l0 k [] a0 a1 false 0 0 0).bind fun y281 =>
  some y281

noncomputable def runs_Flip (k : Nat) (a0 : (List (Int × Int))) (a1 : Int) (a2 : Int) : Option ((List (Int × Int))) :=
  bif (decide ((min a2 65536) ≤ (max a1 0))) then
    (slices_Clone_Run k a0).bind fun y4 =>
    some y4
  else
    (runs_row k a0).bind fun y5 =>
    (runs_edges_Flip_1 k y5 [(max a1 0), (min a2 65536)]).bind fun y6 =>
    some y6

noncomputable def runs_Select_l0 : Nat → (List (Int × Int)) → Int → (List (Int × Int)) → Int → Int → Option ((List (Int × Int)) × Int)
  | 0, _, _, _, _, _ => none
  | k + 1, p3_0, p3_1, p3_2, p3_3, p3_4 =>
    bif (decide (p3_4 < p3_3)) then
      bif decide ((0 : Int) ≤ p3_4) then
        bif decide (p3_4 < (p3_2.length : Int)) then
          let v12 := p3_2.getD (Int.toNat p3_4) ((0 : Int), (0 : Int))
          bif (decide (p3_1 ≤ (IntKind.wrap .i64 v12.2))) then
            some (p3_0, p3_1)
          else
            bif decide ((1 : Int) ≤ (p3_0.length : Int)) then
              runs_Select_l0 k (p3_0.drop (Int.toNat 1)) (IntKind.wrap .i64 (p3_1 - (IntKind.wrap .i64 ((IntKind.wrap .i64 v12.2) + 1)))) p3_2 p3_3 (IntKind.wrap .i64 (p3_4 + 1))
            else none
        else none
      else none
    else
      some (p3_0, p3_1)
noncomputable def runs_Select (k : Nat) (a0 : (List (Int × Int))) (a1 : Int) : Option (Int × Bool) :=
  (runs_Select_l0 k a0 a1 a0 (a0.length : Int) 0).bind fun y20 =>
  bif (decide (y20.2 < 0)) then
    some (0, false)
  else
    bif (decide ((y20.1.length : Int) = 0)) then
      some (0, false)
    else
      bif decide ((0 : Int) < (y20.1.length : Int)) then
        some ((IntKind.wrap .u16 ((y20.1.getD (Int.toNat 0) ((0 : Int), (0 : Int))).1 + (IntKind.wrap .u16 y20.2))), true)
      else none

noncomputable def runs_Rank_l0 : Nat → Int → Int → (List (Int × Int)) → Int → Int → Option (Int)
  | 0, _, _, _, _, _ => none
  | k + 1, p5_0, p5_1, p5_2, p5_3, p5_4 =>
    bif (decide (p5_4 < p5_3)) then
      bif decide ((0 : Int) ≤ p5_4) then
        bif decide (p5_4 < (p5_2.length : Int)) then
          let v14 := p5_2.getD (Int.toNat p5_4) ((0 : Int), (0 : Int))
          runs_Rank_l0 k p5_0 (IntKind.wrap .i64 (p5_1 + (min (max (IntKind.wrap .i64 (p5_0 - (IntKind.wrap .i64 v14.1))) 0) (IntKind.wrap .i64 ((IntKind.wrap .i64 v14.2) + 1))))) p5_2 p5_3 (IntKind.wrap .i64 (p5_4 + 1))
        else none
      else none
    else
      some p5_1
noncomputable def runs_Rank (k : Nat) (a0 : (List (Int × Int))) (a1 : Int) : Option (Int) :=
  (runs_Rank_l0 k (max a1 0) 0 a0 (a0.length : Int) 0).bind fun y23 =>
  some y23

noncomputable def runs_May_l0 : Nat → Int → (List (Int × Int)) → Int → Int → Option ((Bool) ⊕ (Unit))
  | 0, _, _, _, _ => none
  | k + 1, p4_0, p4_1, p4_2, p4_3 =>
    bif (decide (p4_3 < p4_2)) then
      bif decide ((0 : Int) ≤ p4_3) then
        bif decide (p4_3 < (p4_1.length : Int)) then
          let v12 := p4_1.getD (Int.toNat p4_3) ((0 : Int), (0 : Int))
          bif (decide ((IntKind.wrap .i64 v12.1) < p4_0)) then
            some (.inl false)
          else
            (runs_end k v12).bind fun y15 =>
            bif (decide ((65536 : Int) < y15)) then
              some (.inl false)
            else
              (runs_end k v12).bind fun y17 =>
              runs_May_l0 k (IntKind.wrap .i64 (y17 + 1)) p4_1 p4_2 (IntKind.wrap .i64 (p4_3 + 1))
        else none
      else none
    else
      some (.inr ())
noncomputable def runs_May (k : Nat) (a0 : (List (Int × Int))) : Option (Bool) :=
  (runs_May_l0 k 0 a0 (a0.length : Int) 0).bind fun y20 =>
  (match y20 with
  | .inl y21 =>
    some y21
  | .inr y22 =>
    some true)

noncomputable def isinglasslaw06_known (k : Nat) : Option (Bool) :=
  (runs_Of k [1, 2, 3, 7]).bind fun y1 =>
  (runs_Flip k [(1, 2)] 0 3).bind fun y2 =>
  (runs_Select k y1 3).bind fun y3 =>
  bif (decide ((y1.length : Int) = 2)) then
    bif decide ((0 : Int) < (y1.length : Int)) then
      let v6 := y1.getD (Int.toNat 0) ((0 : Int), (0 : Int))
      bif (decide (v6.1 = 1) && (decide (v6.2 = 2))) then
        bif decide ((1 : Int) < (y1.length : Int)) then
          let v8 := y1.getD (Int.toNat 1) ((0 : Int), (0 : Int))
          bif (decide (v8.1 = 7) && (decide (v8.2 = (((0, 0)).2)))) then
            bif (decide ((y2.length : Int) = 2)) then
              bif decide ((0 : Int) < (y2.length : Int)) then
                let v12 := y2.getD (Int.toNat 0) ((0 : Int), (0 : Int))
                bif (decide (v12.1 = (((0, 0)).1)) && (decide (v12.2 = (((0, 0)).2)))) then
                  bif decide ((1 : Int) < (y2.length : Int)) then
                    let v14 := y2.getD (Int.toNat 1) ((0 : Int), (0 : Int))
                    bif (decide (v14.1 = 3) && (decide (v14.2 = (((0, 0)).2)))) then
                      bif (decide (y3.1 = 7)) then
                        bif y3.2 then
                          (runs_Rank k y1 3).bind fun y17 =>
                          bif (decide (y17 = 2)) then
                            (runs_May k [(1, ((0, 0)).2), (2, ((0, 0)).2)]).bind fun y19 =>
                            bif !y19 then
                              (runs_May k [(65535, ((0, 0)).2)]).bind fun y20 =>
                              some y20
                            else
                              some false
                          else
                            some false
                        else
                          some false
                      else
                        some false
                    else
                      some false
                  else none
                else
                  some false
              else none
            else
              some false
          else
            some false
        else none
      else
        some false
    else none
  else
    some false

noncomputable def isinglassref06_May_l0 : Nat → (List (Int × Int)) → Int → Int → Option ((Bool) ⊕ (Unit))
  | 0, _, _, _ => none
  | k + 1, p4_0, p4_1, p4_2 =>
    bif (decide (p4_2 < (p4_0.length : Int))) then
      bif decide ((0 : Int) ≤ p4_2) then
        bif decide (p4_2 < (p4_0.length : Int)) then
          bif decide ((0 : Int) ≤ p4_2) then
            bif decide (p4_2 < (p4_0.length : Int)) then
              bif decide ((0 : Int) ≤ p4_2) then
                bif decide (p4_2 < (p4_0.length : Int)) then
                  let v22 := IntKind.wrap .i64 ((IntKind.wrap .i64 (p4_0.getD (Int.toNat p4_2) ((0 : Int), (0 : Int))).1) + (IntKind.wrap .i64 (p4_0.getD (Int.toNat p4_2) ((0 : Int), (0 : Int))).2))
                  bif (decide ((IntKind.wrap .i64 (p4_0.getD (Int.toNat p4_2) ((0 : Int), (0 : Int))).1) < p4_1)) then
                    some (.inl false)
                  else
                    bif (decide ((65535 : Int) < v22)) then
                      some (.inl false)
                    else
                      isinglassref06_May_l0 k p4_0 (IntKind.wrap .i64 (v22 + 2)) (IntKind.wrap .i64 (p4_2 + 1))
                else none
              else none
            else none
          else none
        else none
      else none
    else
      some (.inr ())
noncomputable def isinglassref06_May (k : Nat) (a0 : (List (Int × Int))) : Option (Bool) :=
  (isinglassref06_May_l0 k a0 0 0).bind fun y27 =>
  (match y27 with
  | .inl y28 =>
    some y28
  | .inr y29 =>
    some true)

noncomputable def words_Of_l0 : Nat → (List Int) → (List Int) → Int → Int → Option ((List Int))
  | 0, _, _, _, _ => none
  | k + 1, p4_0, p4_1, p4_2, p4_3 =>
    bif (decide (p4_3 < p4_2)) then
      bif decide ((0 : Int) ≤ p4_3) then
        bif decide (p4_3 < (p4_1.length : Int)) then
          let v12 := p4_1.getD (Int.toNat p4_3) (0 : Int)
          let v13 := IntKind.wrap .u16 (v12.tdiv 64)
          bif decide ((0 : Int) ≤ v13) then
            bif decide (v13 < (p4_0.length : Int)) then
              bif !(decide ((v12.tmod 64) < 0)) then
                bif decide ((0 : Int) ≤ v13) then
                  bif decide (v13 < (p4_0.length : Int)) then
                    words_Of_l0 k (p4_0.set (Int.toNat v13) (bitsI .or .u64 (p4_0.getD (Int.toNat v13) (0 : Int)) (shlI .u64 1 (v12.tmod 64)))) p4_1 p4_2 (IntKind.wrap .i64 (p4_3 + 1))
                  else none
                else none
              else none
            else none
          else none
        else none
      else none
    else
      some p4_0
noncomputable def words_Of (k : Nat) (a0 : (List Int)) : Option ((List Int)) :=
  bif decide (1024 ≤ 1024) then
    (words_Of_l0 k (List.replicate (Int.toNat 1024) (0 : Int)) a0 (a0.length : Int) 0).bind fun y20 =>
    some y20
  else none

noncomputable def words_Flip_l0 : Nat → (List Int) → Int → Int → Int → Option ((List Int))
  | 0, _, _, _, _ => none
  | k + 1, p6_0, p6_1, p6_2, p6_3 =>
    bif (decide (p6_3 < 1024)) then
      let v23 := IntKind.wrap .i64 (64 * p6_3)
      let v26 := IntKind.wrap .i64 ((IntKind.wrap .i64 (64 * p6_3)) + 64)
      bif (decide ((max p6_1 v23) < (min p6_2 v26))) then
        bif decide ((0 : Int) ≤ p6_3) then
          bif decide (p6_3 < (p6_0.length : Int)) then
            let v31 := IntKind.wrap .i64 (64 - (IntKind.wrap .i64 ((min p6_2 v26) - (max p6_1 v23))))
            bif !(decide (v31 < 0)) then
              let v34 := IntKind.wrap .i64 ((max p6_1 v23) - (IntKind.wrap .i64 (64 * p6_3)))
              bif !(decide (v34 < 0)) then
                bif decide ((0 : Int) ≤ p6_3) then
                  bif decide (p6_3 < (p6_0.length : Int)) then
                    words_Flip_l0 k (p6_0.set (Int.toNat p6_3) (bitsI .xor .u64 (p6_0.getD (Int.toNat p6_3) (0 : Int)) (shlI .u64 (shrI .u64 18446744073709551615 v31) v34))) p6_1 p6_2 (IntKind.wrap .i64 (p6_3 + 1))
                  else none
                else none
              else none
            else none
          else none
        else none
      else
        words_Flip_l0 k p6_0 p6_1 p6_2 (IntKind.wrap .i64 (p6_3 + 1))
    else
      some p6_0
noncomputable def words_Flip (k : Nat) (a0 : (List Int)) (a1 : Int) (a2 : Int) : Option ((List Int)) :=
  bif decide (1024 ≤ 1024) then
    bif decide (0 < List.length (List.replicate (Int.toNat 1024) (0 : Int))) then
      (words_Flip_l0 k (List.take (List.length (List.replicate (Int.toNat 1024) (0 : Int))) a0 ++ List.drop (List.length a0) (List.replicate (Int.toNat 1024) (0 : Int))) (max a1 0) (min a2 65536) 0).bind fun y40 =>
      some y40
    else none
  else none

noncomputable def isinglasslaw06_of_l0 : Nat → (List Int) → (List (Int × Int)) → Int → Int → Option ((List Int))
  | 0, _, _, _, _ => none
  | k + 1, p4_0, p4_1, p4_2, p4_3 =>
    bif (decide (p4_3 < p4_2)) then
      bif decide ((0 : Int) ≤ p4_3) then
        bif decide (p4_3 < (p4_1.length : Int)) then
          let v13 := p4_1.getD (Int.toNat p4_3) ((0 : Int), (0 : Int))
          (words_Flip k p4_0 (IntKind.wrap .i64 v13.1) (IntKind.wrap .i64 ((IntKind.wrap .i64 ((IntKind.wrap .i64 v13.1) + (IntKind.wrap .i64 v13.2))) + 1))).bind fun y19 =>
          isinglasslaw06_of_l0 k y19 p4_1 p4_2 (IntKind.wrap .i64 (p4_3 + 1))
        else none
      else none
    else
      some p4_0
noncomputable def isinglasslaw06_of (k : Nat) (a0 : (List (Int × Int))) : Option ((List Int)) :=
  (words_Of k []).bind fun y1 =>
  (isinglasslaw06_of_l0 k y1 a0 (a0.length : Int) 0).bind fun y21 =>
  some y21

noncomputable def runs_And_1 (k : Nat) (a0 : Bool) (a1 : Bool) : Option (Bool) :=
  bif a0 then
    some a1
  else
    some false

noncomputable def runs_edges_And_1_l1 : Nat → (List (Int × Int)) → (List Int) → (List Int) → Bool → Int → Int → Int → Int → Option ((List (Int × Int)) × (List Int) × (List Int) × Bool × Int × Int × Int × Int)
  | 0, _, _, _, _, _, _, _, _ => none
  | k + 1, p11_0, p11_1, p11_2, p11_3, p11_4, p11_5, p11_6, p11_7 =>
    bif (decide (p11_5 < (p11_1.length : Int))) then
      bif decide ((0 : Int) ≤ p11_5) then
        bif decide (p11_5 < (p11_1.length : Int)) then
          bif (decide ((p11_1.getD (Int.toNat p11_5) (0 : Int)) ≤ p11_7)) then
            runs_edges_And_1_l1 k p11_0 p11_1 p11_2 p11_3 p11_4 (IntKind.wrap .i64 (p11_5 + 1)) p11_6 p11_7
          else
            some (p11_0, p11_1, p11_2, p11_3, p11_4, p11_5, p11_6, p11_7)
        else none
      else none
    else
      some (p11_0, p11_1, p11_2, p11_3, p11_4, p11_5, p11_6, p11_7)
noncomputable def runs_edges_And_1_l2 : Nat → (List (Int × Int)) → (List Int) → (List Int) → Bool → Int → Int → Int → Int → Option ((List (Int × Int)) × (List Int) × (List Int) × Bool × Int × Int × Int × Int)
  | 0, _, _, _, _, _, _, _, _ => none
  | k + 1, p13_0, p13_1, p13_2, p13_3, p13_4, p13_5, p13_6, p13_7 =>
    bif (decide (p13_6 < (p13_2.length : Int))) then
      bif decide ((0 : Int) ≤ p13_6) then
        bif decide (p13_6 < (p13_2.length : Int)) then
          bif (decide ((p13_2.getD (Int.toNat p13_6) (0 : Int)) ≤ p13_7)) then
            runs_edges_And_1_l2 k p13_0 p13_1 p13_2 p13_3 p13_4 p13_5 (IntKind.wrap .i64 (p13_6 + 1)) p13_7
          else
            some (p13_0, p13_1, p13_2, p13_3, p13_4, p13_5, p13_6, p13_7)
        else none
      else none
    else
      some (p13_0, p13_1, p13_2, p13_3, p13_4, p13_5, p13_6, p13_7)
noncomputable def runs_edges_And_1_l0 : Nat → (List (Int × Int)) → (List Int) → (List Int) → Bool → Int → Int → Int → Option ((List (Int × Int)))
  | 0, _, _, _, _, _, _, _ => none
  | k + 1, p5_0, p5_1, p5_2, p5_3, p5_4, p5_5, p5_6 =>
    bif (decide (p5_5 < (p5_1.length : Int))) then
      bif (decide (p5_5 < (p5_1.length : Int))) then
        bif decide ((0 : Int) ≤ p5_5) then
          bif decide (p5_5 < (p5_1.length : Int)) then
            let v155 := p5_1.getD (Int.toNat p5_5) (0 : Int)
            bif (decide (p5_6 < (p5_2.length : Int))) then
              bif decide ((0 : Int) ≤ p5_6) then
                bif decide (p5_6 < (p5_2.length : Int)) then
                  (runs_edges_And_1_l1 k p5_0 p5_1 p5_2 p5_3 p5_4 p5_5 p5_6 (min v155 (p5_2.getD (Int.toNat p5_6) (0 : Int)))).bind fun y160 =>
                  (runs_edges_And_1_l2 k y160.1 y160.2.1 y160.2.2.1 y160.2.2.2.1 y160.2.2.2.2.1 y160.2.2.2.2.2.1 y160.2.2.2.2.2.2.1 y160.2.2.2.2.2.2.2).bind fun y161 =>
                  (runs_And_1 k (decide ((y161.2.2.2.2.2.1.tmod 2) = 1)) (decide ((y161.2.2.2.2.2.2.1.tmod 2) = 1))).bind fun y166 =>
                  bif (y166 == y161.2.2.2.1) then
                    runs_edges_And_1_l0 k y161.1 y161.2.1 y161.2.2.1 y161.2.2.2.1 y161.2.2.2.2.1 y161.2.2.2.2.2.1 y161.2.2.2.2.2.2.1
                  else
                    bif y161.2.2.2.1 then
                      let v168 := IntKind.wrap .u16 y161.2.2.2.2.1
                      let v170 := IntKind.wrap .i64 ((IntKind.wrap .i64 (y161.2.2.2.2.2.2.2 - y161.2.2.2.2.1)) - 1)
                      bif decide ((List.length y161.1 + List.length [(v168, (IntKind.wrap .u16 v170))]) * 4 ≤ 140737488355328) then
                        bif decide (List.length y161.1 + List.length [(v168, (IntKind.wrap .u16 v170))] ≤ 140737488355328) then
                          runs_edges_And_1_l0 k (y161.1 ++ [(v168, (IntKind.wrap .u16 v170))]) y161.2.1 y161.2.2.1 y166 y161.2.2.2.2.2.2.2 y161.2.2.2.2.2.1 y161.2.2.2.2.2.2.1
                        else none
                      else none
                    else
                      runs_edges_And_1_l0 k y161.1 y161.2.1 y161.2.2.1 y166 y161.2.2.2.2.2.2.2 y161.2.2.2.2.2.1 y161.2.2.2.2.2.2.1
                else none
              else none
            else
              (runs_edges_And_1_l1 k p5_0 p5_1 p5_2 p5_3 p5_4 p5_5 p5_6 v155).bind fun y173 =>
              (runs_edges_And_1_l2 k y173.1 y173.2.1 y173.2.2.1 y173.2.2.2.1 y173.2.2.2.2.1 y173.2.2.2.2.2.1 y173.2.2.2.2.2.2.1 y173.2.2.2.2.2.2.2).bind fun y174 =>
              (runs_And_1 k (decide ((y174.2.2.2.2.2.1.tmod 2) = 1)) (decide ((y174.2.2.2.2.2.2.1.tmod 2) = 1))).bind fun y179 =>
              bif (y179 == y174.2.2.2.1) then
                runs_edges_And_1_l0 k y174.1 y174.2.1 y174.2.2.1 y174.2.2.2.1 y174.2.2.2.2.1 y174.2.2.2.2.2.1 y174.2.2.2.2.2.2.1
              else
                bif y174.2.2.2.1 then
                  let v181 := IntKind.wrap .u16 y174.2.2.2.2.1
                  let v183 := IntKind.wrap .i64 ((IntKind.wrap .i64 (y174.2.2.2.2.2.2.2 - y174.2.2.2.2.1)) - 1)
                  bif decide ((List.length y174.1 + List.length [(v181, (IntKind.wrap .u16 v183))]) * 4 ≤ 140737488355328) then
                    bif decide (List.length y174.1 + List.length [(v181, (IntKind.wrap .u16 v183))] ≤ 140737488355328) then
                      runs_edges_And_1_l0 k (y174.1 ++ [(v181, (IntKind.wrap .u16 v183))]) y174.2.1 y174.2.2.1 y179 y174.2.2.2.2.2.2.2 y174.2.2.2.2.2.1 y174.2.2.2.2.2.2.1
                    else none
                  else none
                else
                  runs_edges_And_1_l0 k y174.1 y174.2.1 y174.2.2.1 y179 y174.2.2.2.2.2.2.2 y174.2.2.2.2.2.1 y174.2.2.2.2.2.2.1
          else none
        else none
      else
        bif (decide (p5_6 < (p5_2.length : Int))) then
          bif decide ((0 : Int) ≤ p5_6) then
            bif decide (p5_6 < (p5_2.length : Int)) then
              (runs_edges_And_1_l1 k p5_0 p5_1 p5_2 p5_3 p5_4 p5_5 p5_6 (min 65537 (p5_2.getD (Int.toNat p5_6) (0 : Int)))).bind fun y190 =>
              (runs_edges_And_1_l2 k y190.1 y190.2.1 y190.2.2.1 y190.2.2.2.1 y190.2.2.2.2.1 y190.2.2.2.2.2.1 y190.2.2.2.2.2.2.1 y190.2.2.2.2.2.2.2).bind fun y191 =>
              (runs_And_1 k (decide ((y191.2.2.2.2.2.1.tmod 2) = 1)) (decide ((y191.2.2.2.2.2.2.1.tmod 2) = 1))).bind fun y196 =>
              bif (y196 == y191.2.2.2.1) then
                runs_edges_And_1_l0 k y191.1 y191.2.1 y191.2.2.1 y191.2.2.2.1 y191.2.2.2.2.1 y191.2.2.2.2.2.1 y191.2.2.2.2.2.2.1
              else
                bif y191.2.2.2.1 then
                  let v198 := IntKind.wrap .u16 y191.2.2.2.2.1
                  let v200 := IntKind.wrap .i64 ((IntKind.wrap .i64 (y191.2.2.2.2.2.2.2 - y191.2.2.2.2.1)) - 1)
                  bif decide ((List.length y191.1 + List.length [(v198, (IntKind.wrap .u16 v200))]) * 4 ≤ 140737488355328) then
                    bif decide (List.length y191.1 + List.length [(v198, (IntKind.wrap .u16 v200))] ≤ 140737488355328) then
                      runs_edges_And_1_l0 k (y191.1 ++ [(v198, (IntKind.wrap .u16 v200))]) y191.2.1 y191.2.2.1 y196 y191.2.2.2.2.2.2.2 y191.2.2.2.2.2.1 y191.2.2.2.2.2.2.1
                    else none
                  else none
                else
                  runs_edges_And_1_l0 k y191.1 y191.2.1 y191.2.2.1 y196 y191.2.2.2.2.2.2.2 y191.2.2.2.2.2.1 y191.2.2.2.2.2.2.1
            else none
          else none
        else
          (runs_edges_And_1_l1 k p5_0 p5_1 p5_2 p5_3 p5_4 p5_5 p5_6 65537).bind fun y203 =>
          (runs_edges_And_1_l2 k y203.1 y203.2.1 y203.2.2.1 y203.2.2.2.1 y203.2.2.2.2.1 y203.2.2.2.2.2.1 y203.2.2.2.2.2.2.1 y203.2.2.2.2.2.2.2).bind fun y204 =>
          (runs_And_1 k (decide ((y204.2.2.2.2.2.1.tmod 2) = 1)) (decide ((y204.2.2.2.2.2.2.1.tmod 2) = 1))).bind fun y209 =>
          bif (y209 == y204.2.2.2.1) then
            runs_edges_And_1_l0 k y204.1 y204.2.1 y204.2.2.1 y204.2.2.2.1 y204.2.2.2.2.1 y204.2.2.2.2.2.1 y204.2.2.2.2.2.2.1
          else
            bif y204.2.2.2.1 then
              let v211 := IntKind.wrap .u16 y204.2.2.2.2.1
              let v213 := IntKind.wrap .i64 ((IntKind.wrap .i64 (y204.2.2.2.2.2.2.2 - y204.2.2.2.2.1)) - 1)
              bif decide ((List.length y204.1 + List.length [(v211, (IntKind.wrap .u16 v213))]) * 4 ≤ 140737488355328) then
                bif decide (List.length y204.1 + List.length [(v211, (IntKind.wrap .u16 v213))] ≤ 140737488355328) then
                  runs_edges_And_1_l0 k (y204.1 ++ [(v211, (IntKind.wrap .u16 v213))]) y204.2.1 y204.2.2.1 y209 y204.2.2.2.2.2.2.2 y204.2.2.2.2.2.1 y204.2.2.2.2.2.2.1
                else none
              else none
            else
              runs_edges_And_1_l0 k y204.1 y204.2.1 y204.2.2.1 y209 y204.2.2.2.2.2.2.2 y204.2.2.2.2.2.1 y204.2.2.2.2.2.2.1
    else
      bif (decide (p5_6 < (p5_2.length : Int))) then
        bif (decide (p5_5 < (p5_1.length : Int))) then
          bif decide ((0 : Int) ≤ p5_5) then
            bif decide (p5_5 < (p5_1.length : Int)) then
              let v220 := p5_1.getD (Int.toNat p5_5) (0 : Int)
              bif (decide (p5_6 < (p5_2.length : Int))) then
                bif decide ((0 : Int) ≤ p5_6) then
                  bif decide (p5_6 < (p5_2.length : Int)) then
                    (runs_edges_And_1_l1 k p5_0 p5_1 p5_2 p5_3 p5_4 p5_5 p5_6 (min v220 (p5_2.getD (Int.toNat p5_6) (0 : Int)))).bind fun y225 =>
                    (runs_edges_And_1_l2 k y225.1 y225.2.1 y225.2.2.1 y225.2.2.2.1 y225.2.2.2.2.1 y225.2.2.2.2.2.1 y225.2.2.2.2.2.2.1 y225.2.2.2.2.2.2.2).bind fun y226 =>
                    (runs_And_1 k (decide ((y226.2.2.2.2.2.1.tmod 2) = 1)) (decide ((y226.2.2.2.2.2.2.1.tmod 2) = 1))).bind fun y231 =>
                    bif (y231 == y226.2.2.2.1) then
                      runs_edges_And_1_l0 k y226.1 y226.2.1 y226.2.2.1 y226.2.2.2.1 y226.2.2.2.2.1 y226.2.2.2.2.2.1 y226.2.2.2.2.2.2.1
                    else
                      bif y226.2.2.2.1 then
                        let v233 := IntKind.wrap .u16 y226.2.2.2.2.1
                        let v235 := IntKind.wrap .i64 ((IntKind.wrap .i64 (y226.2.2.2.2.2.2.2 - y226.2.2.2.2.1)) - 1)
                        bif decide ((List.length y226.1 + List.length [(v233, (IntKind.wrap .u16 v235))]) * 4 ≤ 140737488355328) then
                          bif decide (List.length y226.1 + List.length [(v233, (IntKind.wrap .u16 v235))] ≤ 140737488355328) then
                            runs_edges_And_1_l0 k (y226.1 ++ [(v233, (IntKind.wrap .u16 v235))]) y226.2.1 y226.2.2.1 y231 y226.2.2.2.2.2.2.2 y226.2.2.2.2.2.1 y226.2.2.2.2.2.2.1
                          else none
                        else none
                      else
                        runs_edges_And_1_l0 k y226.1 y226.2.1 y226.2.2.1 y231 y226.2.2.2.2.2.2.2 y226.2.2.2.2.2.1 y226.2.2.2.2.2.2.1
                  else none
                else none
              else
                (runs_edges_And_1_l1 k p5_0 p5_1 p5_2 p5_3 p5_4 p5_5 p5_6 v220).bind fun y238 =>
                (runs_edges_And_1_l2 k y238.1 y238.2.1 y238.2.2.1 y238.2.2.2.1 y238.2.2.2.2.1 y238.2.2.2.2.2.1 y238.2.2.2.2.2.2.1 y238.2.2.2.2.2.2.2).bind fun y239 =>
                (runs_And_1 k (decide ((y239.2.2.2.2.2.1.tmod 2) = 1)) (decide ((y239.2.2.2.2.2.2.1.tmod 2) = 1))).bind fun y244 =>
                bif (y244 == y239.2.2.2.1) then
                  runs_edges_And_1_l0 k y239.1 y239.2.1 y239.2.2.1 y239.2.2.2.1 y239.2.2.2.2.1 y239.2.2.2.2.2.1 y239.2.2.2.2.2.2.1
                else
                  bif y239.2.2.2.1 then
                    let v246 := IntKind.wrap .u16 y239.2.2.2.2.1
                    let v248 := IntKind.wrap .i64 ((IntKind.wrap .i64 (y239.2.2.2.2.2.2.2 - y239.2.2.2.2.1)) - 1)
                    bif decide ((List.length y239.1 + List.length [(v246, (IntKind.wrap .u16 v248))]) * 4 ≤ 140737488355328) then
                      bif decide (List.length y239.1 + List.length [(v246, (IntKind.wrap .u16 v248))] ≤ 140737488355328) then
                        runs_edges_And_1_l0 k (y239.1 ++ [(v246, (IntKind.wrap .u16 v248))]) y239.2.1 y239.2.2.1 y244 y239.2.2.2.2.2.2.2 y239.2.2.2.2.2.1 y239.2.2.2.2.2.2.1
                      else none
                    else none
                  else
                    runs_edges_And_1_l0 k y239.1 y239.2.1 y239.2.2.1 y244 y239.2.2.2.2.2.2.2 y239.2.2.2.2.2.1 y239.2.2.2.2.2.2.1
            else none
          else none
        else
          bif (decide (p5_6 < (p5_2.length : Int))) then
            bif decide ((0 : Int) ≤ p5_6) then
              bif decide (p5_6 < (p5_2.length : Int)) then
                (runs_edges_And_1_l1 k p5_0 p5_1 p5_2 p5_3 p5_4 p5_5 p5_6 (min 65537 (p5_2.getD (Int.toNat p5_6) (0 : Int)))).bind fun y255 =>
                (runs_edges_And_1_l2 k y255.1 y255.2.1 y255.2.2.1 y255.2.2.2.1 y255.2.2.2.2.1 y255.2.2.2.2.2.1 y255.2.2.2.2.2.2.1 y255.2.2.2.2.2.2.2).bind fun y256 =>
                (runs_And_1 k (decide ((y256.2.2.2.2.2.1.tmod 2) = 1)) (decide ((y256.2.2.2.2.2.2.1.tmod 2) = 1))).bind fun y261 =>
                bif (y261 == y256.2.2.2.1) then
                  runs_edges_And_1_l0 k y256.1 y256.2.1 y256.2.2.1 y256.2.2.2.1 y256.2.2.2.2.1 y256.2.2.2.2.2.1 y256.2.2.2.2.2.2.1
                else
                  bif y256.2.2.2.1 then
                    let v263 := IntKind.wrap .u16 y256.2.2.2.2.1
                    let v265 := IntKind.wrap .i64 ((IntKind.wrap .i64 (y256.2.2.2.2.2.2.2 - y256.2.2.2.2.1)) - 1)
                    bif decide ((List.length y256.1 + List.length [(v263, (IntKind.wrap .u16 v265))]) * 4 ≤ 140737488355328) then
                      bif decide (List.length y256.1 + List.length [(v263, (IntKind.wrap .u16 v265))] ≤ 140737488355328) then
                        runs_edges_And_1_l0 k (y256.1 ++ [(v263, (IntKind.wrap .u16 v265))]) y256.2.1 y256.2.2.1 y261 y256.2.2.2.2.2.2.2 y256.2.2.2.2.2.1 y256.2.2.2.2.2.2.1
                      else none
                    else none
                  else
                    runs_edges_And_1_l0 k y256.1 y256.2.1 y256.2.2.1 y261 y256.2.2.2.2.2.2.2 y256.2.2.2.2.2.1 y256.2.2.2.2.2.2.1
              else none
            else none
          else
            (runs_edges_And_1_l1 k p5_0 p5_1 p5_2 p5_3 p5_4 p5_5 p5_6 65537).bind fun y268 =>
            (runs_edges_And_1_l2 k y268.1 y268.2.1 y268.2.2.1 y268.2.2.2.1 y268.2.2.2.2.1 y268.2.2.2.2.2.1 y268.2.2.2.2.2.2.1 y268.2.2.2.2.2.2.2).bind fun y269 =>
            (runs_And_1 k (decide ((y269.2.2.2.2.2.1.tmod 2) = 1)) (decide ((y269.2.2.2.2.2.2.1.tmod 2) = 1))).bind fun y274 =>
            bif (y274 == y269.2.2.2.1) then
              runs_edges_And_1_l0 k y269.1 y269.2.1 y269.2.2.1 y269.2.2.2.1 y269.2.2.2.2.1 y269.2.2.2.2.2.1 y269.2.2.2.2.2.2.1
            else
              bif y269.2.2.2.1 then
                let v276 := IntKind.wrap .u16 y269.2.2.2.2.1
                let v278 := IntKind.wrap .i64 ((IntKind.wrap .i64 (y269.2.2.2.2.2.2.2 - y269.2.2.2.2.1)) - 1)
                bif decide ((List.length y269.1 + List.length [(v276, (IntKind.wrap .u16 v278))]) * 4 ≤ 140737488355328) then
                  bif decide (List.length y269.1 + List.length [(v276, (IntKind.wrap .u16 v278))] ≤ 140737488355328) then
                    runs_edges_And_1_l0 k (y269.1 ++ [(v276, (IntKind.wrap .u16 v278))]) y269.2.1 y269.2.2.1 y274 y269.2.2.2.2.2.2.2 y269.2.2.2.2.2.1 y269.2.2.2.2.2.2.1
                  else none
                else none
              else
                runs_edges_And_1_l0 k y269.1 y269.2.1 y269.2.2.1 y274 y269.2.2.2.2.2.2.2 y269.2.2.2.2.2.1 y269.2.2.2.2.2.2.1
      else
        some p5_0
noncomputable def runs_edges_And_1 (k : Nat) (a0 : (List Int)) (a1 : (List Int)) : Option ((List (Int × Int))) :=
  (runs_edges_And_1_l0 k [] a0 a1 false 0 0 0).bind fun y281 =>
  some y281

noncomputable def runs_And (k : Nat) (a0 : (List (Int × Int))) (a1 : (List (Int × Int))) : Option ((List (Int × Int))) :=
  (runs_row k a0).bind fun y1 =>
  (runs_row k a1).bind fun y2 =>
  (runs_edges_And_1 k y1 y2).bind fun y3 =>
  some y3

noncomputable def runs_Or_1 (k : Nat) (a0 : Bool) (a1 : Bool) : Option (Bool) :=
  bif a0 then
    some true
  else
    some a1

noncomputable def runs_edges_Or_1_l1 : Nat → (List (Int × Int)) → (List Int) → (List Int) → Bool → Int → Int → Int → Int → Option ((List (Int × Int)) × (List Int) × (List Int) × Bool × Int × Int × Int × Int)
  | 0, _, _, _, _, _, _, _, _ => none
  | k + 1, p11_0, p11_1, p11_2, p11_3, p11_4, p11_5, p11_6, p11_7 =>
    bif (decide (p11_5 < (p11_1.length : Int))) then
      bif decide ((0 : Int) ≤ p11_5) then
        bif decide (p11_5 < (p11_1.length : Int)) then
          bif (decide ((p11_1.getD (Int.toNat p11_5) (0 : Int)) ≤ p11_7)) then
            runs_edges_Or_1_l1 k p11_0 p11_1 p11_2 p11_3 p11_4 (IntKind.wrap .i64 (p11_5 + 1)) p11_6 p11_7
          else
            some (p11_0, p11_1, p11_2, p11_3, p11_4, p11_5, p11_6, p11_7)
        else none
      else none
    else
      some (p11_0, p11_1, p11_2, p11_3, p11_4, p11_5, p11_6, p11_7)
noncomputable def runs_edges_Or_1_l2 : Nat → (List (Int × Int)) → (List Int) → (List Int) → Bool → Int → Int → Int → Int → Option ((List (Int × Int)) × (List Int) × (List Int) × Bool × Int × Int × Int × Int)
  | 0, _, _, _, _, _, _, _, _ => none
  | k + 1, p13_0, p13_1, p13_2, p13_3, p13_4, p13_5, p13_6, p13_7 =>
    bif (decide (p13_6 < (p13_2.length : Int))) then
      bif decide ((0 : Int) ≤ p13_6) then
        bif decide (p13_6 < (p13_2.length : Int)) then
          bif (decide ((p13_2.getD (Int.toNat p13_6) (0 : Int)) ≤ p13_7)) then
            runs_edges_Or_1_l2 k p13_0 p13_1 p13_2 p13_3 p13_4 p13_5 (IntKind.wrap .i64 (p13_6 + 1)) p13_7
          else
            some (p13_0, p13_1, p13_2, p13_3, p13_4, p13_5, p13_6, p13_7)
        else none
      else none
    else
      some (p13_0, p13_1, p13_2, p13_3, p13_4, p13_5, p13_6, p13_7)
noncomputable def runs_edges_Or_1_l0 : Nat → (List (Int × Int)) → (List Int) → (List Int) → Bool → Int → Int → Int → Option ((List (Int × Int)))
  | 0, _, _, _, _, _, _, _ => none
  | k + 1, p5_0, p5_1, p5_2, p5_3, p5_4, p5_5, p5_6 =>
    bif (decide (p5_5 < (p5_1.length : Int))) then
      bif (decide (p5_5 < (p5_1.length : Int))) then
        bif decide ((0 : Int) ≤ p5_5) then
          bif decide (p5_5 < (p5_1.length : Int)) then
            let v155 := p5_1.getD (Int.toNat p5_5) (0 : Int)
            bif (decide (p5_6 < (p5_2.length : Int))) then
              bif decide ((0 : Int) ≤ p5_6) then
                bif decide (p5_6 < (p5_2.length : Int)) then
                  (runs_edges_Or_1_l1 k p5_0 p5_1 p5_2 p5_3 p5_4 p5_5 p5_6 (min v155 (p5_2.getD (Int.toNat p5_6) (0 : Int)))).bind fun y160 =>
                  (runs_edges_Or_1_l2 k y160.1 y160.2.1 y160.2.2.1 y160.2.2.2.1 y160.2.2.2.2.1 y160.2.2.2.2.2.1 y160.2.2.2.2.2.2.1 y160.2.2.2.2.2.2.2).bind fun y161 =>
                  (runs_Or_1 k (decide ((y161.2.2.2.2.2.1.tmod 2) = 1)) (decide ((y161.2.2.2.2.2.2.1.tmod 2) = 1))).bind fun y166 =>
                  bif (y166 == y161.2.2.2.1) then
                    runs_edges_Or_1_l0 k y161.1 y161.2.1 y161.2.2.1 y161.2.2.2.1 y161.2.2.2.2.1 y161.2.2.2.2.2.1 y161.2.2.2.2.2.2.1
                  else
                    bif y161.2.2.2.1 then
                      let v168 := IntKind.wrap .u16 y161.2.2.2.2.1
                      let v170 := IntKind.wrap .i64 ((IntKind.wrap .i64 (y161.2.2.2.2.2.2.2 - y161.2.2.2.2.1)) - 1)
                      bif decide ((List.length y161.1 + List.length [(v168, (IntKind.wrap .u16 v170))]) * 4 ≤ 140737488355328) then
                        bif decide (List.length y161.1 + List.length [(v168, (IntKind.wrap .u16 v170))] ≤ 140737488355328) then
                          runs_edges_Or_1_l0 k (y161.1 ++ [(v168, (IntKind.wrap .u16 v170))]) y161.2.1 y161.2.2.1 y166 y161.2.2.2.2.2.2.2 y161.2.2.2.2.2.1 y161.2.2.2.2.2.2.1
                        else none
                      else none
                    else
                      runs_edges_Or_1_l0 k y161.1 y161.2.1 y161.2.2.1 y166 y161.2.2.2.2.2.2.2 y161.2.2.2.2.2.1 y161.2.2.2.2.2.2.1
                else none
              else none
            else
              (runs_edges_Or_1_l1 k p5_0 p5_1 p5_2 p5_3 p5_4 p5_5 p5_6 v155).bind fun y173 =>
              (runs_edges_Or_1_l2 k y173.1 y173.2.1 y173.2.2.1 y173.2.2.2.1 y173.2.2.2.2.1 y173.2.2.2.2.2.1 y173.2.2.2.2.2.2.1 y173.2.2.2.2.2.2.2).bind fun y174 =>
              (runs_Or_1 k (decide ((y174.2.2.2.2.2.1.tmod 2) = 1)) (decide ((y174.2.2.2.2.2.2.1.tmod 2) = 1))).bind fun y179 =>
              bif (y179 == y174.2.2.2.1) then
                runs_edges_Or_1_l0 k y174.1 y174.2.1 y174.2.2.1 y174.2.2.2.1 y174.2.2.2.2.1 y174.2.2.2.2.2.1 y174.2.2.2.2.2.2.1
              else
                bif y174.2.2.2.1 then
                  let v181 := IntKind.wrap .u16 y174.2.2.2.2.1
                  let v183 := IntKind.wrap .i64 ((IntKind.wrap .i64 (y174.2.2.2.2.2.2.2 - y174.2.2.2.2.1)) - 1)
                  bif decide ((List.length y174.1 + List.length [(v181, (IntKind.wrap .u16 v183))]) * 4 ≤ 140737488355328) then
                    bif decide (List.length y174.1 + List.length [(v181, (IntKind.wrap .u16 v183))] ≤ 140737488355328) then
                      runs_edges_Or_1_l0 k (y174.1 ++ [(v181, (IntKind.wrap .u16 v183))]) y174.2.1 y174.2.2.1 y179 y174.2.2.2.2.2.2.2 y174.2.2.2.2.2.1 y174.2.2.2.2.2.2.1
                    else none
                  else none
                else
                  runs_edges_Or_1_l0 k y174.1 y174.2.1 y174.2.2.1 y179 y174.2.2.2.2.2.2.2 y174.2.2.2.2.2.1 y174.2.2.2.2.2.2.1
          else none
        else none
      else
        bif (decide (p5_6 < (p5_2.length : Int))) then
          bif decide ((0 : Int) ≤ p5_6) then
            bif decide (p5_6 < (p5_2.length : Int)) then
              (runs_edges_Or_1_l1 k p5_0 p5_1 p5_2 p5_3 p5_4 p5_5 p5_6 (min 65537 (p5_2.getD (Int.toNat p5_6) (0 : Int)))).bind fun y190 =>
              (runs_edges_Or_1_l2 k y190.1 y190.2.1 y190.2.2.1 y190.2.2.2.1 y190.2.2.2.2.1 y190.2.2.2.2.2.1 y190.2.2.2.2.2.2.1 y190.2.2.2.2.2.2.2).bind fun y191 =>
              (runs_Or_1 k (decide ((y191.2.2.2.2.2.1.tmod 2) = 1)) (decide ((y191.2.2.2.2.2.2.1.tmod 2) = 1))).bind fun y196 =>
              bif (y196 == y191.2.2.2.1) then
                runs_edges_Or_1_l0 k y191.1 y191.2.1 y191.2.2.1 y191.2.2.2.1 y191.2.2.2.2.1 y191.2.2.2.2.2.1 y191.2.2.2.2.2.2.1
              else
                bif y191.2.2.2.1 then
                  let v198 := IntKind.wrap .u16 y191.2.2.2.2.1
                  let v200 := IntKind.wrap .i64 ((IntKind.wrap .i64 (y191.2.2.2.2.2.2.2 - y191.2.2.2.2.1)) - 1)
                  bif decide ((List.length y191.1 + List.length [(v198, (IntKind.wrap .u16 v200))]) * 4 ≤ 140737488355328) then
                    bif decide (List.length y191.1 + List.length [(v198, (IntKind.wrap .u16 v200))] ≤ 140737488355328) then
                      runs_edges_Or_1_l0 k (y191.1 ++ [(v198, (IntKind.wrap .u16 v200))]) y191.2.1 y191.2.2.1 y196 y191.2.2.2.2.2.2.2 y191.2.2.2.2.2.1 y191.2.2.2.2.2.2.1
                    else none
                  else none
                else
                  runs_edges_Or_1_l0 k y191.1 y191.2.1 y191.2.2.1 y196 y191.2.2.2.2.2.2.2 y191.2.2.2.2.2.1 y191.2.2.2.2.2.2.1
            else none
          else none
        else
          (runs_edges_Or_1_l1 k p5_0 p5_1 p5_2 p5_3 p5_4 p5_5 p5_6 65537).bind fun y203 =>
          (runs_edges_Or_1_l2 k y203.1 y203.2.1 y203.2.2.1 y203.2.2.2.1 y203.2.2.2.2.1 y203.2.2.2.2.2.1 y203.2.2.2.2.2.2.1 y203.2.2.2.2.2.2.2).bind fun y204 =>
          (runs_Or_1 k (decide ((y204.2.2.2.2.2.1.tmod 2) = 1)) (decide ((y204.2.2.2.2.2.2.1.tmod 2) = 1))).bind fun y209 =>
          bif (y209 == y204.2.2.2.1) then
            runs_edges_Or_1_l0 k y204.1 y204.2.1 y204.2.2.1 y204.2.2.2.1 y204.2.2.2.2.1 y204.2.2.2.2.2.1 y204.2.2.2.2.2.2.1
          else
            bif y204.2.2.2.1 then
              let v211 := IntKind.wrap .u16 y204.2.2.2.2.1
              let v213 := IntKind.wrap .i64 ((IntKind.wrap .i64 (y204.2.2.2.2.2.2.2 - y204.2.2.2.2.1)) - 1)
              bif decide ((List.length y204.1 + List.length [(v211, (IntKind.wrap .u16 v213))]) * 4 ≤ 140737488355328) then
                bif decide (List.length y204.1 + List.length [(v211, (IntKind.wrap .u16 v213))] ≤ 140737488355328) then
                  runs_edges_Or_1_l0 k (y204.1 ++ [(v211, (IntKind.wrap .u16 v213))]) y204.2.1 y204.2.2.1 y209 y204.2.2.2.2.2.2.2 y204.2.2.2.2.2.1 y204.2.2.2.2.2.2.1
                else none
              else none
            else
              runs_edges_Or_1_l0 k y204.1 y204.2.1 y204.2.2.1 y209 y204.2.2.2.2.2.2.2 y204.2.2.2.2.2.1 y204.2.2.2.2.2.2.1
    else
      bif (decide (p5_6 < (p5_2.length : Int))) then
        bif (decide (p5_5 < (p5_1.length : Int))) then
          bif decide ((0 : Int) ≤ p5_5) then
            bif decide (p5_5 < (p5_1.length : Int)) then
              let v220 := p5_1.getD (Int.toNat p5_5) (0 : Int)
              bif (decide (p5_6 < (p5_2.length : Int))) then
                bif decide ((0 : Int) ≤ p5_6) then
                  bif decide (p5_6 < (p5_2.length : Int)) then
                    (runs_edges_Or_1_l1 k p5_0 p5_1 p5_2 p5_3 p5_4 p5_5 p5_6 (min v220 (p5_2.getD (Int.toNat p5_6) (0 : Int)))).bind fun y225 =>
                    (runs_edges_Or_1_l2 k y225.1 y225.2.1 y225.2.2.1 y225.2.2.2.1 y225.2.2.2.2.1 y225.2.2.2.2.2.1 y225.2.2.2.2.2.2.1 y225.2.2.2.2.2.2.2).bind fun y226 =>
                    (runs_Or_1 k (decide ((y226.2.2.2.2.2.1.tmod 2) = 1)) (decide ((y226.2.2.2.2.2.2.1.tmod 2) = 1))).bind fun y231 =>
                    bif (y231 == y226.2.2.2.1) then
                      runs_edges_Or_1_l0 k y226.1 y226.2.1 y226.2.2.1 y226.2.2.2.1 y226.2.2.2.2.1 y226.2.2.2.2.2.1 y226.2.2.2.2.2.2.1
                    else
                      bif y226.2.2.2.1 then
                        let v233 := IntKind.wrap .u16 y226.2.2.2.2.1
                        let v235 := IntKind.wrap .i64 ((IntKind.wrap .i64 (y226.2.2.2.2.2.2.2 - y226.2.2.2.2.1)) - 1)
                        bif decide ((List.length y226.1 + List.length [(v233, (IntKind.wrap .u16 v235))]) * 4 ≤ 140737488355328) then
                          bif decide (List.length y226.1 + List.length [(v233, (IntKind.wrap .u16 v235))] ≤ 140737488355328) then
                            runs_edges_Or_1_l0 k (y226.1 ++ [(v233, (IntKind.wrap .u16 v235))]) y226.2.1 y226.2.2.1 y231 y226.2.2.2.2.2.2.2 y226.2.2.2.2.2.1 y226.2.2.2.2.2.2.1
                          else none
                        else none
                      else
                        runs_edges_Or_1_l0 k y226.1 y226.2.1 y226.2.2.1 y231 y226.2.2.2.2.2.2.2 y226.2.2.2.2.2.1 y226.2.2.2.2.2.2.1
                  else none
                else none
              else
                (runs_edges_Or_1_l1 k p5_0 p5_1 p5_2 p5_3 p5_4 p5_5 p5_6 v220).bind fun y238 =>
                (runs_edges_Or_1_l2 k y238.1 y238.2.1 y238.2.2.1 y238.2.2.2.1 y238.2.2.2.2.1 y238.2.2.2.2.2.1 y238.2.2.2.2.2.2.1 y238.2.2.2.2.2.2.2).bind fun y239 =>
                (runs_Or_1 k (decide ((y239.2.2.2.2.2.1.tmod 2) = 1)) (decide ((y239.2.2.2.2.2.2.1.tmod 2) = 1))).bind fun y244 =>
                bif (y244 == y239.2.2.2.1) then
                  runs_edges_Or_1_l0 k y239.1 y239.2.1 y239.2.2.1 y239.2.2.2.1 y239.2.2.2.2.1 y239.2.2.2.2.2.1 y239.2.2.2.2.2.2.1
                else
                  bif y239.2.2.2.1 then
                    let v246 := IntKind.wrap .u16 y239.2.2.2.2.1
                    let v248 := IntKind.wrap .i64 ((IntKind.wrap .i64 (y239.2.2.2.2.2.2.2 - y239.2.2.2.2.1)) - 1)
                    bif decide ((List.length y239.1 + List.length [(v246, (IntKind.wrap .u16 v248))]) * 4 ≤ 140737488355328) then
                      bif decide (List.length y239.1 + List.length [(v246, (IntKind.wrap .u16 v248))] ≤ 140737488355328) then
                        runs_edges_Or_1_l0 k (y239.1 ++ [(v246, (IntKind.wrap .u16 v248))]) y239.2.1 y239.2.2.1 y244 y239.2.2.2.2.2.2.2 y239.2.2.2.2.2.1 y239.2.2.2.2.2.2.1
                      else none
                    else none
                  else
                    runs_edges_Or_1_l0 k y239.1 y239.2.1 y239.2.2.1 y244 y239.2.2.2.2.2.2.2 y239.2.2.2.2.2.1 y239.2.2.2.2.2.2.1
            else none
          else none
        else
          bif (decide (p5_6 < (p5_2.length : Int))) then
            bif decide ((0 : Int) ≤ p5_6) then
              bif decide (p5_6 < (p5_2.length : Int)) then
                (runs_edges_Or_1_l1 k p5_0 p5_1 p5_2 p5_3 p5_4 p5_5 p5_6 (min 65537 (p5_2.getD (Int.toNat p5_6) (0 : Int)))).bind fun y255 =>
                (runs_edges_Or_1_l2 k y255.1 y255.2.1 y255.2.2.1 y255.2.2.2.1 y255.2.2.2.2.1 y255.2.2.2.2.2.1 y255.2.2.2.2.2.2.1 y255.2.2.2.2.2.2.2).bind fun y256 =>
                (runs_Or_1 k (decide ((y256.2.2.2.2.2.1.tmod 2) = 1)) (decide ((y256.2.2.2.2.2.2.1.tmod 2) = 1))).bind fun y261 =>
                bif (y261 == y256.2.2.2.1) then
                  runs_edges_Or_1_l0 k y256.1 y256.2.1 y256.2.2.1 y256.2.2.2.1 y256.2.2.2.2.1 y256.2.2.2.2.2.1 y256.2.2.2.2.2.2.1
                else
                  bif y256.2.2.2.1 then
                    let v263 := IntKind.wrap .u16 y256.2.2.2.2.1
                    let v265 := IntKind.wrap .i64 ((IntKind.wrap .i64 (y256.2.2.2.2.2.2.2 - y256.2.2.2.2.1)) - 1)
                    bif decide ((List.length y256.1 + List.length [(v263, (IntKind.wrap .u16 v265))]) * 4 ≤ 140737488355328) then
                      bif decide (List.length y256.1 + List.length [(v263, (IntKind.wrap .u16 v265))] ≤ 140737488355328) then
                        runs_edges_Or_1_l0 k (y256.1 ++ [(v263, (IntKind.wrap .u16 v265))]) y256.2.1 y256.2.2.1 y261 y256.2.2.2.2.2.2.2 y256.2.2.2.2.2.1 y256.2.2.2.2.2.2.1
                      else none
                    else none
                  else
                    runs_edges_Or_1_l0 k y256.1 y256.2.1 y256.2.2.1 y261 y256.2.2.2.2.2.2.2 y256.2.2.2.2.2.1 y256.2.2.2.2.2.2.1
              else none
            else none
          else
            (runs_edges_Or_1_l1 k p5_0 p5_1 p5_2 p5_3 p5_4 p5_5 p5_6 65537).bind fun y268 =>
            (runs_edges_Or_1_l2 k y268.1 y268.2.1 y268.2.2.1 y268.2.2.2.1 y268.2.2.2.2.1 y268.2.2.2.2.2.1 y268.2.2.2.2.2.2.1 y268.2.2.2.2.2.2.2).bind fun y269 =>
            (runs_Or_1 k (decide ((y269.2.2.2.2.2.1.tmod 2) = 1)) (decide ((y269.2.2.2.2.2.2.1.tmod 2) = 1))).bind fun y274 =>
            bif (y274 == y269.2.2.2.1) then
              runs_edges_Or_1_l0 k y269.1 y269.2.1 y269.2.2.1 y269.2.2.2.1 y269.2.2.2.2.1 y269.2.2.2.2.2.1 y269.2.2.2.2.2.2.1
            else
              bif y269.2.2.2.1 then
                let v276 := IntKind.wrap .u16 y269.2.2.2.2.1
                let v278 := IntKind.wrap .i64 ((IntKind.wrap .i64 (y269.2.2.2.2.2.2.2 - y269.2.2.2.2.1)) - 1)
                bif decide ((List.length y269.1 + List.length [(v276, (IntKind.wrap .u16 v278))]) * 4 ≤ 140737488355328) then
                  bif decide (List.length y269.1 + List.length [(v276, (IntKind.wrap .u16 v278))] ≤ 140737488355328) then
                    runs_edges_Or_1_l0 k (y269.1 ++ [(v276, (IntKind.wrap .u16 v278))]) y269.2.1 y269.2.2.1 y274 y269.2.2.2.2.2.2.2 y269.2.2.2.2.2.1 y269.2.2.2.2.2.2.1
                  else none
                else none
              else
                runs_edges_Or_1_l0 k y269.1 y269.2.1 y269.2.2.1 y274 y269.2.2.2.2.2.2.2 y269.2.2.2.2.2.1 y269.2.2.2.2.2.2.1
      else
        some p5_0
noncomputable def runs_edges_Or_1 (k : Nat) (a0 : (List Int)) (a1 : (List Int)) : Option ((List (Int × Int))) :=
  (runs_edges_Or_1_l0 k [] a0 a1 false 0 0 0).bind fun y281 =>
  some y281

noncomputable def runs_Or (k : Nat) (a0 : (List (Int × Int))) (a1 : (List (Int × Int))) : Option ((List (Int × Int))) :=
  (runs_row k a0).bind fun y1 =>
  (runs_row k a1).bind fun y2 =>
  (runs_edges_Or_1 k y1 y2).bind fun y3 =>
  some y3

noncomputable def runs_AndNot_1 (k : Nat) (a0 : Bool) (a1 : Bool) : Option (Bool) :=
  bif a0 then
    some (!a1)
  else
    some false

noncomputable def runs_edges_AndNot_1_l1 : Nat → (List (Int × Int)) → (List Int) → (List Int) → Bool → Int → Int → Int → Int → Option ((List (Int × Int)) × (List Int) × (List Int) × Bool × Int × Int × Int × Int)
  | 0, _, _, _, _, _, _, _, _ => none
  | k + 1, p11_0, p11_1, p11_2, p11_3, p11_4, p11_5, p11_6, p11_7 =>
    bif (decide (p11_5 < (p11_1.length : Int))) then
      bif decide ((0 : Int) ≤ p11_5) then
        bif decide (p11_5 < (p11_1.length : Int)) then
          bif (decide ((p11_1.getD (Int.toNat p11_5) (0 : Int)) ≤ p11_7)) then
            runs_edges_AndNot_1_l1 k p11_0 p11_1 p11_2 p11_3 p11_4 (IntKind.wrap .i64 (p11_5 + 1)) p11_6 p11_7
          else
            some (p11_0, p11_1, p11_2, p11_3, p11_4, p11_5, p11_6, p11_7)
        else none
      else none
    else
      some (p11_0, p11_1, p11_2, p11_3, p11_4, p11_5, p11_6, p11_7)
noncomputable def runs_edges_AndNot_1_l2 : Nat → (List (Int × Int)) → (List Int) → (List Int) → Bool → Int → Int → Int → Int → Option ((List (Int × Int)) × (List Int) × (List Int) × Bool × Int × Int × Int × Int)
  | 0, _, _, _, _, _, _, _, _ => none
  | k + 1, p13_0, p13_1, p13_2, p13_3, p13_4, p13_5, p13_6, p13_7 =>
    bif (decide (p13_6 < (p13_2.length : Int))) then
      bif decide ((0 : Int) ≤ p13_6) then
        bif decide (p13_6 < (p13_2.length : Int)) then
          bif (decide ((p13_2.getD (Int.toNat p13_6) (0 : Int)) ≤ p13_7)) then
            runs_edges_AndNot_1_l2 k p13_0 p13_1 p13_2 p13_3 p13_4 p13_5 (IntKind.wrap .i64 (p13_6 + 1)) p13_7
          else
            some (p13_0, p13_1, p13_2, p13_3, p13_4, p13_5, p13_6, p13_7)
        else none
      else none
    else
      some (p13_0, p13_1, p13_2, p13_3, p13_4, p13_5, p13_6, p13_7)
noncomputable def runs_edges_AndNot_1_l0 : Nat → (List (Int × Int)) → (List Int) → (List Int) → Bool → Int → Int → Int → Option ((List (Int × Int)))
  | 0, _, _, _, _, _, _, _ => none
  | k + 1, p5_0, p5_1, p5_2, p5_3, p5_4, p5_5, p5_6 =>
    bif (decide (p5_5 < (p5_1.length : Int))) then
      bif (decide (p5_5 < (p5_1.length : Int))) then
        bif decide ((0 : Int) ≤ p5_5) then
          bif decide (p5_5 < (p5_1.length : Int)) then
            let v155 := p5_1.getD (Int.toNat p5_5) (0 : Int)
            bif (decide (p5_6 < (p5_2.length : Int))) then
              bif decide ((0 : Int) ≤ p5_6) then
                bif decide (p5_6 < (p5_2.length : Int)) then
                  (runs_edges_AndNot_1_l1 k p5_0 p5_1 p5_2 p5_3 p5_4 p5_5 p5_6 (min v155 (p5_2.getD (Int.toNat p5_6) (0 : Int)))).bind fun y160 =>
                  (runs_edges_AndNot_1_l2 k y160.1 y160.2.1 y160.2.2.1 y160.2.2.2.1 y160.2.2.2.2.1 y160.2.2.2.2.2.1 y160.2.2.2.2.2.2.1 y160.2.2.2.2.2.2.2).bind fun y161 =>
                  (runs_AndNot_1 k (decide ((y161.2.2.2.2.2.1.tmod 2) = 1)) (decide ((y161.2.2.2.2.2.2.1.tmod 2) = 1))).bind fun y166 =>
                  bif (y166 == y161.2.2.2.1) then
                    runs_edges_AndNot_1_l0 k y161.1 y161.2.1 y161.2.2.1 y161.2.2.2.1 y161.2.2.2.2.1 y161.2.2.2.2.2.1 y161.2.2.2.2.2.2.1
                  else
                    bif y161.2.2.2.1 then
                      let v168 := IntKind.wrap .u16 y161.2.2.2.2.1
                      let v170 := IntKind.wrap .i64 ((IntKind.wrap .i64 (y161.2.2.2.2.2.2.2 - y161.2.2.2.2.1)) - 1)
                      bif decide ((List.length y161.1 + List.length [(v168, (IntKind.wrap .u16 v170))]) * 4 ≤ 140737488355328) then
                        bif decide (List.length y161.1 + List.length [(v168, (IntKind.wrap .u16 v170))] ≤ 140737488355328) then
                          runs_edges_AndNot_1_l0 k (y161.1 ++ [(v168, (IntKind.wrap .u16 v170))]) y161.2.1 y161.2.2.1 y166 y161.2.2.2.2.2.2.2 y161.2.2.2.2.2.1 y161.2.2.2.2.2.2.1
                        else none
                      else none
                    else
                      runs_edges_AndNot_1_l0 k y161.1 y161.2.1 y161.2.2.1 y166 y161.2.2.2.2.2.2.2 y161.2.2.2.2.2.1 y161.2.2.2.2.2.2.1
                else none
              else none
            else
              (runs_edges_AndNot_1_l1 k p5_0 p5_1 p5_2 p5_3 p5_4 p5_5 p5_6 v155).bind fun y173 =>
              (runs_edges_AndNot_1_l2 k y173.1 y173.2.1 y173.2.2.1 y173.2.2.2.1 y173.2.2.2.2.1 y173.2.2.2.2.2.1 y173.2.2.2.2.2.2.1 y173.2.2.2.2.2.2.2).bind fun y174 =>
              (runs_AndNot_1 k (decide ((y174.2.2.2.2.2.1.tmod 2) = 1)) (decide ((y174.2.2.2.2.2.2.1.tmod 2) = 1))).bind fun y179 =>
              bif (y179 == y174.2.2.2.1) then
                runs_edges_AndNot_1_l0 k y174.1 y174.2.1 y174.2.2.1 y174.2.2.2.1 y174.2.2.2.2.1 y174.2.2.2.2.2.1 y174.2.2.2.2.2.2.1
              else
                bif y174.2.2.2.1 then
                  let v181 := IntKind.wrap .u16 y174.2.2.2.2.1
                  let v183 := IntKind.wrap .i64 ((IntKind.wrap .i64 (y174.2.2.2.2.2.2.2 - y174.2.2.2.2.1)) - 1)
                  bif decide ((List.length y174.1 + List.length [(v181, (IntKind.wrap .u16 v183))]) * 4 ≤ 140737488355328) then
                    bif decide (List.length y174.1 + List.length [(v181, (IntKind.wrap .u16 v183))] ≤ 140737488355328) then
                      runs_edges_AndNot_1_l0 k (y174.1 ++ [(v181, (IntKind.wrap .u16 v183))]) y174.2.1 y174.2.2.1 y179 y174.2.2.2.2.2.2.2 y174.2.2.2.2.2.1 y174.2.2.2.2.2.2.1
                    else none
                  else none
                else
                  runs_edges_AndNot_1_l0 k y174.1 y174.2.1 y174.2.2.1 y179 y174.2.2.2.2.2.2.2 y174.2.2.2.2.2.1 y174.2.2.2.2.2.2.1
          else none
        else none
      else
        bif (decide (p5_6 < (p5_2.length : Int))) then
          bif decide ((0 : Int) ≤ p5_6) then
            bif decide (p5_6 < (p5_2.length : Int)) then
              (runs_edges_AndNot_1_l1 k p5_0 p5_1 p5_2 p5_3 p5_4 p5_5 p5_6 (min 65537 (p5_2.getD (Int.toNat p5_6) (0 : Int)))).bind fun y190 =>
              (runs_edges_AndNot_1_l2 k y190.1 y190.2.1 y190.2.2.1 y190.2.2.2.1 y190.2.2.2.2.1 y190.2.2.2.2.2.1 y190.2.2.2.2.2.2.1 y190.2.2.2.2.2.2.2).bind fun y191 =>
              (runs_AndNot_1 k (decide ((y191.2.2.2.2.2.1.tmod 2) = 1)) (decide ((y191.2.2.2.2.2.2.1.tmod 2) = 1))).bind fun y196 =>
              bif (y196 == y191.2.2.2.1) then
                runs_edges_AndNot_1_l0 k y191.1 y191.2.1 y191.2.2.1 y191.2.2.2.1 y191.2.2.2.2.1 y191.2.2.2.2.2.1 y191.2.2.2.2.2.2.1
              else
                bif y191.2.2.2.1 then
                  let v198 := IntKind.wrap .u16 y191.2.2.2.2.1
                  let v200 := IntKind.wrap .i64 ((IntKind.wrap .i64 (y191.2.2.2.2.2.2.2 - y191.2.2.2.2.1)) - 1)
                  bif decide ((List.length y191.1 + List.length [(v198, (IntKind.wrap .u16 v200))]) * 4 ≤ 140737488355328) then
                    bif decide (List.length y191.1 + List.length [(v198, (IntKind.wrap .u16 v200))] ≤ 140737488355328) then
                      runs_edges_AndNot_1_l0 k (y191.1 ++ [(v198, (IntKind.wrap .u16 v200))]) y191.2.1 y191.2.2.1 y196 y191.2.2.2.2.2.2.2 y191.2.2.2.2.2.1 y191.2.2.2.2.2.2.1
                    else none
                  else none
                else
                  runs_edges_AndNot_1_l0 k y191.1 y191.2.1 y191.2.2.1 y196 y191.2.2.2.2.2.2.2 y191.2.2.2.2.2.1 y191.2.2.2.2.2.2.1
            else none
          else none
        else
          (runs_edges_AndNot_1_l1 k p5_0 p5_1 p5_2 p5_3 p5_4 p5_5 p5_6 65537).bind fun y203 =>
          (runs_edges_AndNot_1_l2 k y203.1 y203.2.1 y203.2.2.1 y203.2.2.2.1 y203.2.2.2.2.1 y203.2.2.2.2.2.1 y203.2.2.2.2.2.2.1 y203.2.2.2.2.2.2.2).bind fun y204 =>
          (runs_AndNot_1 k (decide ((y204.2.2.2.2.2.1.tmod 2) = 1)) (decide ((y204.2.2.2.2.2.2.1.tmod 2) = 1))).bind fun y209 =>
          bif (y209 == y204.2.2.2.1) then
            runs_edges_AndNot_1_l0 k y204.1 y204.2.1 y204.2.2.1 y204.2.2.2.1 y204.2.2.2.2.1 y204.2.2.2.2.2.1 y204.2.2.2.2.2.2.1
          else
            bif y204.2.2.2.1 then
              let v211 := IntKind.wrap .u16 y204.2.2.2.2.1
              let v213 := IntKind.wrap .i64 ((IntKind.wrap .i64 (y204.2.2.2.2.2.2.2 - y204.2.2.2.2.1)) - 1)
              bif decide ((List.length y204.1 + List.length [(v211, (IntKind.wrap .u16 v213))]) * 4 ≤ 140737488355328) then
                bif decide (List.length y204.1 + List.length [(v211, (IntKind.wrap .u16 v213))] ≤ 140737488355328) then
                  runs_edges_AndNot_1_l0 k (y204.1 ++ [(v211, (IntKind.wrap .u16 v213))]) y204.2.1 y204.2.2.1 y209 y204.2.2.2.2.2.2.2 y204.2.2.2.2.2.1 y204.2.2.2.2.2.2.1
                else none
              else none
            else
              runs_edges_AndNot_1_l0 k y204.1 y204.2.1 y204.2.2.1 y209 y204.2.2.2.2.2.2.2 y204.2.2.2.2.2.1 y204.2.2.2.2.2.2.1
    else
      bif (decide (p5_6 < (p5_2.length : Int))) then
        bif (decide (p5_5 < (p5_1.length : Int))) then
          bif decide ((0 : Int) ≤ p5_5) then
            bif decide (p5_5 < (p5_1.length : Int)) then
              let v220 := p5_1.getD (Int.toNat p5_5) (0 : Int)
              bif (decide (p5_6 < (p5_2.length : Int))) then
                bif decide ((0 : Int) ≤ p5_6) then
                  bif decide (p5_6 < (p5_2.length : Int)) then
                    (runs_edges_AndNot_1_l1 k p5_0 p5_1 p5_2 p5_3 p5_4 p5_5 p5_6 (min v220 (p5_2.getD (Int.toNat p5_6) (0 : Int)))).bind fun y225 =>
                    (runs_edges_AndNot_1_l2 k y225.1 y225.2.1 y225.2.2.1 y225.2.2.2.1 y225.2.2.2.2.1 y225.2.2.2.2.2.1 y225.2.2.2.2.2.2.1 y225.2.2.2.2.2.2.2).bind fun y226 =>
                    (runs_AndNot_1 k (decide ((y226.2.2.2.2.2.1.tmod 2) = 1)) (decide ((y226.2.2.2.2.2.2.1.tmod 2) = 1))).bind fun y231 =>
                    bif (y231 == y226.2.2.2.1) then
                      runs_edges_AndNot_1_l0 k y226.1 y226.2.1 y226.2.2.1 y226.2.2.2.1 y226.2.2.2.2.1 y226.2.2.2.2.2.1 y226.2.2.2.2.2.2.1
                    else
                      bif y226.2.2.2.1 then
                        let v233 := IntKind.wrap .u16 y226.2.2.2.2.1
                        let v235 := IntKind.wrap .i64 ((IntKind.wrap .i64 (y226.2.2.2.2.2.2.2 - y226.2.2.2.2.1)) - 1)
                        bif decide ((List.length y226.1 + List.length [(v233, (IntKind.wrap .u16 v235))]) * 4 ≤ 140737488355328) then
                          bif decide (List.length y226.1 + List.length [(v233, (IntKind.wrap .u16 v235))] ≤ 140737488355328) then
                            runs_edges_AndNot_1_l0 k (y226.1 ++ [(v233, (IntKind.wrap .u16 v235))]) y226.2.1 y226.2.2.1 y231 y226.2.2.2.2.2.2.2 y226.2.2.2.2.2.1 y226.2.2.2.2.2.2.1
                          else none
                        else none
                      else
                        runs_edges_AndNot_1_l0 k y226.1 y226.2.1 y226.2.2.1 y231 y226.2.2.2.2.2.2.2 y226.2.2.2.2.2.1 y226.2.2.2.2.2.2.1
                  else none
                else none
              else
                (runs_edges_AndNot_1_l1 k p5_0 p5_1 p5_2 p5_3 p5_4 p5_5 p5_6 v220).bind fun y238 =>
                (runs_edges_AndNot_1_l2 k y238.1 y238.2.1 y238.2.2.1 y238.2.2.2.1 y238.2.2.2.2.1 y238.2.2.2.2.2.1 y238.2.2.2.2.2.2.1 y238.2.2.2.2.2.2.2).bind fun y239 =>
                (runs_AndNot_1 k (decide ((y239.2.2.2.2.2.1.tmod 2) = 1)) (decide ((y239.2.2.2.2.2.2.1.tmod 2) = 1))).bind fun y244 =>
                bif (y244 == y239.2.2.2.1) then
                  runs_edges_AndNot_1_l0 k y239.1 y239.2.1 y239.2.2.1 y239.2.2.2.1 y239.2.2.2.2.1 y239.2.2.2.2.2.1 y239.2.2.2.2.2.2.1
                else
                  bif y239.2.2.2.1 then
                    let v246 := IntKind.wrap .u16 y239.2.2.2.2.1
                    let v248 := IntKind.wrap .i64 ((IntKind.wrap .i64 (y239.2.2.2.2.2.2.2 - y239.2.2.2.2.1)) - 1)
                    bif decide ((List.length y239.1 + List.length [(v246, (IntKind.wrap .u16 v248))]) * 4 ≤ 140737488355328) then
                      bif decide (List.length y239.1 + List.length [(v246, (IntKind.wrap .u16 v248))] ≤ 140737488355328) then
                        runs_edges_AndNot_1_l0 k (y239.1 ++ [(v246, (IntKind.wrap .u16 v248))]) y239.2.1 y239.2.2.1 y244 y239.2.2.2.2.2.2.2 y239.2.2.2.2.2.1 y239.2.2.2.2.2.2.1
                      else none
                    else none
                  else
                    runs_edges_AndNot_1_l0 k y239.1 y239.2.1 y239.2.2.1 y244 y239.2.2.2.2.2.2.2 y239.2.2.2.2.2.1 y239.2.2.2.2.2.2.1
            else none
          else none
        else
          bif (decide (p5_6 < (p5_2.length : Int))) then
            bif decide ((0 : Int) ≤ p5_6) then
              bif decide (p5_6 < (p5_2.length : Int)) then
                (runs_edges_AndNot_1_l1 k p5_0 p5_1 p5_2 p5_3 p5_4 p5_5 p5_6 (min 65537 (p5_2.getD (Int.toNat p5_6) (0 : Int)))).bind fun y255 =>
                (runs_edges_AndNot_1_l2 k y255.1 y255.2.1 y255.2.2.1 y255.2.2.2.1 y255.2.2.2.2.1 y255.2.2.2.2.2.1 y255.2.2.2.2.2.2.1 y255.2.2.2.2.2.2.2).bind fun y256 =>
                (runs_AndNot_1 k (decide ((y256.2.2.2.2.2.1.tmod 2) = 1)) (decide ((y256.2.2.2.2.2.2.1.tmod 2) = 1))).bind fun y261 =>
                bif (y261 == y256.2.2.2.1) then
                  runs_edges_AndNot_1_l0 k y256.1 y256.2.1 y256.2.2.1 y256.2.2.2.1 y256.2.2.2.2.1 y256.2.2.2.2.2.1 y256.2.2.2.2.2.2.1
                else
                  bif y256.2.2.2.1 then
                    let v263 := IntKind.wrap .u16 y256.2.2.2.2.1
                    let v265 := IntKind.wrap .i64 ((IntKind.wrap .i64 (y256.2.2.2.2.2.2.2 - y256.2.2.2.2.1)) - 1)
                    bif decide ((List.length y256.1 + List.length [(v263, (IntKind.wrap .u16 v265))]) * 4 ≤ 140737488355328) then
                      bif decide (List.length y256.1 + List.length [(v263, (IntKind.wrap .u16 v265))] ≤ 140737488355328) then
                        runs_edges_AndNot_1_l0 k (y256.1 ++ [(v263, (IntKind.wrap .u16 v265))]) y256.2.1 y256.2.2.1 y261 y256.2.2.2.2.2.2.2 y256.2.2.2.2.2.1 y256.2.2.2.2.2.2.1
                      else none
                    else none
                  else
                    runs_edges_AndNot_1_l0 k y256.1 y256.2.1 y256.2.2.1 y261 y256.2.2.2.2.2.2.2 y256.2.2.2.2.2.1 y256.2.2.2.2.2.2.1
              else none
            else none
          else
            (runs_edges_AndNot_1_l1 k p5_0 p5_1 p5_2 p5_3 p5_4 p5_5 p5_6 65537).bind fun y268 =>
            (runs_edges_AndNot_1_l2 k y268.1 y268.2.1 y268.2.2.1 y268.2.2.2.1 y268.2.2.2.2.1 y268.2.2.2.2.2.1 y268.2.2.2.2.2.2.1 y268.2.2.2.2.2.2.2).bind fun y269 =>
            (runs_AndNot_1 k (decide ((y269.2.2.2.2.2.1.tmod 2) = 1)) (decide ((y269.2.2.2.2.2.2.1.tmod 2) = 1))).bind fun y274 =>
            bif (y274 == y269.2.2.2.1) then
              runs_edges_AndNot_1_l0 k y269.1 y269.2.1 y269.2.2.1 y269.2.2.2.1 y269.2.2.2.2.1 y269.2.2.2.2.2.1 y269.2.2.2.2.2.2.1
            else
              bif y269.2.2.2.1 then
                let v276 := IntKind.wrap .u16 y269.2.2.2.2.1
                let v278 := IntKind.wrap .i64 ((IntKind.wrap .i64 (y269.2.2.2.2.2.2.2 - y269.2.2.2.2.1)) - 1)
                bif decide ((List.length y269.1 + List.length [(v276, (IntKind.wrap .u16 v278))]) * 4 ≤ 140737488355328) then
                  bif decide (List.length y269.1 + List.length [(v276, (IntKind.wrap .u16 v278))] ≤ 140737488355328) then
                    runs_edges_AndNot_1_l0 k (y269.1 ++ [(v276, (IntKind.wrap .u16 v278))]) y269.2.1 y269.2.2.1 y274 y269.2.2.2.2.2.2.2 y269.2.2.2.2.2.1 y269.2.2.2.2.2.2.1
                  else none
                else none
              else
                runs_edges_AndNot_1_l0 k y269.1 y269.2.1 y269.2.2.1 y274 y269.2.2.2.2.2.2.2 y269.2.2.2.2.2.1 y269.2.2.2.2.2.2.1
      else
        some p5_0
noncomputable def runs_edges_AndNot_1 (k : Nat) (a0 : (List Int)) (a1 : (List Int)) : Option ((List (Int × Int))) :=
  (runs_edges_AndNot_1_l0 k [] a0 a1 false 0 0 0).bind fun y281 =>
  some y281

noncomputable def runs_AndNot (k : Nat) (a0 : (List (Int × Int))) (a1 : (List (Int × Int))) : Option ((List (Int × Int))) :=
  (runs_row k a0).bind fun y1 =>
  (runs_row k a1).bind fun y2 =>
  (runs_edges_AndNot_1 k y1 y2).bind fun y3 =>
  some y3

noncomputable def runs_Xor_1 (k : Nat) (a0 : Bool) (a1 : Bool) : Option (Bool) :=
  some (!(a0 == a1))

noncomputable def runs_edges_Xor_1_l1 : Nat → (List (Int × Int)) → (List Int) → (List Int) → Bool → Int → Int → Int → Int → Option ((List (Int × Int)) × (List Int) × (List Int) × Bool × Int × Int × Int × Int)
  | 0, _, _, _, _, _, _, _, _ => none
  | k + 1, p11_0, p11_1, p11_2, p11_3, p11_4, p11_5, p11_6, p11_7 =>
    bif (decide (p11_5 < (p11_1.length : Int))) then
      bif decide ((0 : Int) ≤ p11_5) then
        bif decide (p11_5 < (p11_1.length : Int)) then
          bif (decide ((p11_1.getD (Int.toNat p11_5) (0 : Int)) ≤ p11_7)) then
            runs_edges_Xor_1_l1 k p11_0 p11_1 p11_2 p11_3 p11_4 (IntKind.wrap .i64 (p11_5 + 1)) p11_6 p11_7
          else
            some (p11_0, p11_1, p11_2, p11_3, p11_4, p11_5, p11_6, p11_7)
        else none
      else none
    else
      some (p11_0, p11_1, p11_2, p11_3, p11_4, p11_5, p11_6, p11_7)
noncomputable def runs_edges_Xor_1_l2 : Nat → (List (Int × Int)) → (List Int) → (List Int) → Bool → Int → Int → Int → Int → Option ((List (Int × Int)) × (List Int) × (List Int) × Bool × Int × Int × Int × Int)
  | 0, _, _, _, _, _, _, _, _ => none
  | k + 1, p13_0, p13_1, p13_2, p13_3, p13_4, p13_5, p13_6, p13_7 =>
    bif (decide (p13_6 < (p13_2.length : Int))) then
      bif decide ((0 : Int) ≤ p13_6) then
        bif decide (p13_6 < (p13_2.length : Int)) then
          bif (decide ((p13_2.getD (Int.toNat p13_6) (0 : Int)) ≤ p13_7)) then
            runs_edges_Xor_1_l2 k p13_0 p13_1 p13_2 p13_3 p13_4 p13_5 (IntKind.wrap .i64 (p13_6 + 1)) p13_7
          else
            some (p13_0, p13_1, p13_2, p13_3, p13_4, p13_5, p13_6, p13_7)
        else none
      else none
    else
      some (p13_0, p13_1, p13_2, p13_3, p13_4, p13_5, p13_6, p13_7)
noncomputable def runs_edges_Xor_1_l0 : Nat → (List (Int × Int)) → (List Int) → (List Int) → Bool → Int → Int → Int → Option ((List (Int × Int)))
  | 0, _, _, _, _, _, _, _ => none
  | k + 1, p5_0, p5_1, p5_2, p5_3, p5_4, p5_5, p5_6 =>
    bif (decide (p5_5 < (p5_1.length : Int))) then
      bif (decide (p5_5 < (p5_1.length : Int))) then
        bif decide ((0 : Int) ≤ p5_5) then
          bif decide (p5_5 < (p5_1.length : Int)) then
            let v155 := p5_1.getD (Int.toNat p5_5) (0 : Int)
            bif (decide (p5_6 < (p5_2.length : Int))) then
              bif decide ((0 : Int) ≤ p5_6) then
                bif decide (p5_6 < (p5_2.length : Int)) then
                  (runs_edges_Xor_1_l1 k p5_0 p5_1 p5_2 p5_3 p5_4 p5_5 p5_6 (min v155 (p5_2.getD (Int.toNat p5_6) (0 : Int)))).bind fun y160 =>
                  (runs_edges_Xor_1_l2 k y160.1 y160.2.1 y160.2.2.1 y160.2.2.2.1 y160.2.2.2.2.1 y160.2.2.2.2.2.1 y160.2.2.2.2.2.2.1 y160.2.2.2.2.2.2.2).bind fun y161 =>
                  (runs_Xor_1 k (decide ((y161.2.2.2.2.2.1.tmod 2) = 1)) (decide ((y161.2.2.2.2.2.2.1.tmod 2) = 1))).bind fun y166 =>
                  bif (y166 == y161.2.2.2.1) then
                    runs_edges_Xor_1_l0 k y161.1 y161.2.1 y161.2.2.1 y161.2.2.2.1 y161.2.2.2.2.1 y161.2.2.2.2.2.1 y161.2.2.2.2.2.2.1
                  else
                    bif y161.2.2.2.1 then
                      let v168 := IntKind.wrap .u16 y161.2.2.2.2.1
                      let v170 := IntKind.wrap .i64 ((IntKind.wrap .i64 (y161.2.2.2.2.2.2.2 - y161.2.2.2.2.1)) - 1)
                      bif decide ((List.length y161.1 + List.length [(v168, (IntKind.wrap .u16 v170))]) * 4 ≤ 140737488355328) then
                        bif decide (List.length y161.1 + List.length [(v168, (IntKind.wrap .u16 v170))] ≤ 140737488355328) then
                          runs_edges_Xor_1_l0 k (y161.1 ++ [(v168, (IntKind.wrap .u16 v170))]) y161.2.1 y161.2.2.1 y166 y161.2.2.2.2.2.2.2 y161.2.2.2.2.2.1 y161.2.2.2.2.2.2.1
                        else none
                      else none
                    else
                      runs_edges_Xor_1_l0 k y161.1 y161.2.1 y161.2.2.1 y166 y161.2.2.2.2.2.2.2 y161.2.2.2.2.2.1 y161.2.2.2.2.2.2.1
                else none
              else none
            else
              (runs_edges_Xor_1_l1 k p5_0 p5_1 p5_2 p5_3 p5_4 p5_5 p5_6 v155).bind fun y173 =>
              (runs_edges_Xor_1_l2 k y173.1 y173.2.1 y173.2.2.1 y173.2.2.2.1 y173.2.2.2.2.1 y173.2.2.2.2.2.1 y173.2.2.2.2.2.2.1 y173.2.2.2.2.2.2.2).bind fun y174 =>
              (runs_Xor_1 k (decide ((y174.2.2.2.2.2.1.tmod 2) = 1)) (decide ((y174.2.2.2.2.2.2.1.tmod 2) = 1))).bind fun y179 =>
              bif (y179 == y174.2.2.2.1) then
                runs_edges_Xor_1_l0 k y174.1 y174.2.1 y174.2.2.1 y174.2.2.2.1 y174.2.2.2.2.1 y174.2.2.2.2.2.1 y174.2.2.2.2.2.2.1
              else
                bif y174.2.2.2.1 then
                  let v181 := IntKind.wrap .u16 y174.2.2.2.2.1
                  let v183 := IntKind.wrap .i64 ((IntKind.wrap .i64 (y174.2.2.2.2.2.2.2 - y174.2.2.2.2.1)) - 1)
                  bif decide ((List.length y174.1 + List.length [(v181, (IntKind.wrap .u16 v183))]) * 4 ≤ 140737488355328) then
                    bif decide (List.length y174.1 + List.length [(v181, (IntKind.wrap .u16 v183))] ≤ 140737488355328) then
                      runs_edges_Xor_1_l0 k (y174.1 ++ [(v181, (IntKind.wrap .u16 v183))]) y174.2.1 y174.2.2.1 y179 y174.2.2.2.2.2.2.2 y174.2.2.2.2.2.1 y174.2.2.2.2.2.2.1
                    else none
                  else none
                else
                  runs_edges_Xor_1_l0 k y174.1 y174.2.1 y174.2.2.1 y179 y174.2.2.2.2.2.2.2 y174.2.2.2.2.2.1 y174.2.2.2.2.2.2.1
          else none
        else none
      else
        bif (decide (p5_6 < (p5_2.length : Int))) then
          bif decide ((0 : Int) ≤ p5_6) then
            bif decide (p5_6 < (p5_2.length : Int)) then
              (runs_edges_Xor_1_l1 k p5_0 p5_1 p5_2 p5_3 p5_4 p5_5 p5_6 (min 65537 (p5_2.getD (Int.toNat p5_6) (0 : Int)))).bind fun y190 =>
              (runs_edges_Xor_1_l2 k y190.1 y190.2.1 y190.2.2.1 y190.2.2.2.1 y190.2.2.2.2.1 y190.2.2.2.2.2.1 y190.2.2.2.2.2.2.1 y190.2.2.2.2.2.2.2).bind fun y191 =>
              (runs_Xor_1 k (decide ((y191.2.2.2.2.2.1.tmod 2) = 1)) (decide ((y191.2.2.2.2.2.2.1.tmod 2) = 1))).bind fun y196 =>
              bif (y196 == y191.2.2.2.1) then
                runs_edges_Xor_1_l0 k y191.1 y191.2.1 y191.2.2.1 y191.2.2.2.1 y191.2.2.2.2.1 y191.2.2.2.2.2.1 y191.2.2.2.2.2.2.1
              else
                bif y191.2.2.2.1 then
                  let v198 := IntKind.wrap .u16 y191.2.2.2.2.1
                  let v200 := IntKind.wrap .i64 ((IntKind.wrap .i64 (y191.2.2.2.2.2.2.2 - y191.2.2.2.2.1)) - 1)
                  bif decide ((List.length y191.1 + List.length [(v198, (IntKind.wrap .u16 v200))]) * 4 ≤ 140737488355328) then
                    bif decide (List.length y191.1 + List.length [(v198, (IntKind.wrap .u16 v200))] ≤ 140737488355328) then
                      runs_edges_Xor_1_l0 k (y191.1 ++ [(v198, (IntKind.wrap .u16 v200))]) y191.2.1 y191.2.2.1 y196 y191.2.2.2.2.2.2.2 y191.2.2.2.2.2.1 y191.2.2.2.2.2.2.1
                    else none
                  else none
                else
                  runs_edges_Xor_1_l0 k y191.1 y191.2.1 y191.2.2.1 y196 y191.2.2.2.2.2.2.2 y191.2.2.2.2.2.1 y191.2.2.2.2.2.2.1
            else none
          else none
        else
          (runs_edges_Xor_1_l1 k p5_0 p5_1 p5_2 p5_3 p5_4 p5_5 p5_6 65537).bind fun y203 =>
          (runs_edges_Xor_1_l2 k y203.1 y203.2.1 y203.2.2.1 y203.2.2.2.1 y203.2.2.2.2.1 y203.2.2.2.2.2.1 y203.2.2.2.2.2.2.1 y203.2.2.2.2.2.2.2).bind fun y204 =>
          (runs_Xor_1 k (decide ((y204.2.2.2.2.2.1.tmod 2) = 1)) (decide ((y204.2.2.2.2.2.2.1.tmod 2) = 1))).bind fun y209 =>
          bif (y209 == y204.2.2.2.1) then
            runs_edges_Xor_1_l0 k y204.1 y204.2.1 y204.2.2.1 y204.2.2.2.1 y204.2.2.2.2.1 y204.2.2.2.2.2.1 y204.2.2.2.2.2.2.1
          else
            bif y204.2.2.2.1 then
              let v211 := IntKind.wrap .u16 y204.2.2.2.2.1
              let v213 := IntKind.wrap .i64 ((IntKind.wrap .i64 (y204.2.2.2.2.2.2.2 - y204.2.2.2.2.1)) - 1)
              bif decide ((List.length y204.1 + List.length [(v211, (IntKind.wrap .u16 v213))]) * 4 ≤ 140737488355328) then
                bif decide (List.length y204.1 + List.length [(v211, (IntKind.wrap .u16 v213))] ≤ 140737488355328) then
                  runs_edges_Xor_1_l0 k (y204.1 ++ [(v211, (IntKind.wrap .u16 v213))]) y204.2.1 y204.2.2.1 y209 y204.2.2.2.2.2.2.2 y204.2.2.2.2.2.1 y204.2.2.2.2.2.2.1
                else none
              else none
            else
              runs_edges_Xor_1_l0 k y204.1 y204.2.1 y204.2.2.1 y209 y204.2.2.2.2.2.2.2 y204.2.2.2.2.2.1 y204.2.2.2.2.2.2.1
    else
      bif (decide (p5_6 < (p5_2.length : Int))) then
        bif (decide (p5_5 < (p5_1.length : Int))) then
          bif decide ((0 : Int) ≤ p5_5) then
            bif decide (p5_5 < (p5_1.length : Int)) then
              let v220 := p5_1.getD (Int.toNat p5_5) (0 : Int)
              bif (decide (p5_6 < (p5_2.length : Int))) then
                bif decide ((0 : Int) ≤ p5_6) then
                  bif decide (p5_6 < (p5_2.length : Int)) then
                    (runs_edges_Xor_1_l1 k p5_0 p5_1 p5_2 p5_3 p5_4 p5_5 p5_6 (min v220 (p5_2.getD (Int.toNat p5_6) (0 : Int)))).bind fun y225 =>
                    (runs_edges_Xor_1_l2 k y225.1 y225.2.1 y225.2.2.1 y225.2.2.2.1 y225.2.2.2.2.1 y225.2.2.2.2.2.1 y225.2.2.2.2.2.2.1 y225.2.2.2.2.2.2.2).bind fun y226 =>
                    (runs_Xor_1 k (decide ((y226.2.2.2.2.2.1.tmod 2) = 1)) (decide ((y226.2.2.2.2.2.2.1.tmod 2) = 1))).bind fun y231 =>
                    bif (y231 == y226.2.2.2.1) then
                      runs_edges_Xor_1_l0 k y226.1 y226.2.1 y226.2.2.1 y226.2.2.2.1 y226.2.2.2.2.1 y226.2.2.2.2.2.1 y226.2.2.2.2.2.2.1
                    else
                      bif y226.2.2.2.1 then
                        let v233 := IntKind.wrap .u16 y226.2.2.2.2.1
                        let v235 := IntKind.wrap .i64 ((IntKind.wrap .i64 (y226.2.2.2.2.2.2.2 - y226.2.2.2.2.1)) - 1)
                        bif decide ((List.length y226.1 + List.length [(v233, (IntKind.wrap .u16 v235))]) * 4 ≤ 140737488355328) then
                          bif decide (List.length y226.1 + List.length [(v233, (IntKind.wrap .u16 v235))] ≤ 140737488355328) then
                            runs_edges_Xor_1_l0 k (y226.1 ++ [(v233, (IntKind.wrap .u16 v235))]) y226.2.1 y226.2.2.1 y231 y226.2.2.2.2.2.2.2 y226.2.2.2.2.2.1 y226.2.2.2.2.2.2.1
                          else none
                        else none
                      else
                        runs_edges_Xor_1_l0 k y226.1 y226.2.1 y226.2.2.1 y231 y226.2.2.2.2.2.2.2 y226.2.2.2.2.2.1 y226.2.2.2.2.2.2.1
                  else none
                else none
              else
                (runs_edges_Xor_1_l1 k p5_0 p5_1 p5_2 p5_3 p5_4 p5_5 p5_6 v220).bind fun y238 =>
                (runs_edges_Xor_1_l2 k y238.1 y238.2.1 y238.2.2.1 y238.2.2.2.1 y238.2.2.2.2.1 y238.2.2.2.2.2.1 y238.2.2.2.2.2.2.1 y238.2.2.2.2.2.2.2).bind fun y239 =>
                (runs_Xor_1 k (decide ((y239.2.2.2.2.2.1.tmod 2) = 1)) (decide ((y239.2.2.2.2.2.2.1.tmod 2) = 1))).bind fun y244 =>
                bif (y244 == y239.2.2.2.1) then
                  runs_edges_Xor_1_l0 k y239.1 y239.2.1 y239.2.2.1 y239.2.2.2.1 y239.2.2.2.2.1 y239.2.2.2.2.2.1 y239.2.2.2.2.2.2.1
                else
                  bif y239.2.2.2.1 then
                    let v246 := IntKind.wrap .u16 y239.2.2.2.2.1
                    let v248 := IntKind.wrap .i64 ((IntKind.wrap .i64 (y239.2.2.2.2.2.2.2 - y239.2.2.2.2.1)) - 1)
                    bif decide ((List.length y239.1 + List.length [(v246, (IntKind.wrap .u16 v248))]) * 4 ≤ 140737488355328) then
                      bif decide (List.length y239.1 + List.length [(v246, (IntKind.wrap .u16 v248))] ≤ 140737488355328) then
                        runs_edges_Xor_1_l0 k (y239.1 ++ [(v246, (IntKind.wrap .u16 v248))]) y239.2.1 y239.2.2.1 y244 y239.2.2.2.2.2.2.2 y239.2.2.2.2.2.1 y239.2.2.2.2.2.2.1
                      else none
                    else none
                  else
                    runs_edges_Xor_1_l0 k y239.1 y239.2.1 y239.2.2.1 y244 y239.2.2.2.2.2.2.2 y239.2.2.2.2.2.1 y239.2.2.2.2.2.2.1
            else none
          else none
        else
          bif (decide (p5_6 < (p5_2.length : Int))) then
            bif decide ((0 : Int) ≤ p5_6) then
              bif decide (p5_6 < (p5_2.length : Int)) then
                (runs_edges_Xor_1_l1 k p5_0 p5_1 p5_2 p5_3 p5_4 p5_5 p5_6 (min 65537 (p5_2.getD (Int.toNat p5_6) (0 : Int)))).bind fun y255 =>
                (runs_edges_Xor_1_l2 k y255.1 y255.2.1 y255.2.2.1 y255.2.2.2.1 y255.2.2.2.2.1 y255.2.2.2.2.2.1 y255.2.2.2.2.2.2.1 y255.2.2.2.2.2.2.2).bind fun y256 =>
                (runs_Xor_1 k (decide ((y256.2.2.2.2.2.1.tmod 2) = 1)) (decide ((y256.2.2.2.2.2.2.1.tmod 2) = 1))).bind fun y261 =>
                bif (y261 == y256.2.2.2.1) then
                  runs_edges_Xor_1_l0 k y256.1 y256.2.1 y256.2.2.1 y256.2.2.2.1 y256.2.2.2.2.1 y256.2.2.2.2.2.1 y256.2.2.2.2.2.2.1
                else
                  bif y256.2.2.2.1 then
                    let v263 := IntKind.wrap .u16 y256.2.2.2.2.1
                    let v265 := IntKind.wrap .i64 ((IntKind.wrap .i64 (y256.2.2.2.2.2.2.2 - y256.2.2.2.2.1)) - 1)
                    bif decide ((List.length y256.1 + List.length [(v263, (IntKind.wrap .u16 v265))]) * 4 ≤ 140737488355328) then
                      bif decide (List.length y256.1 + List.length [(v263, (IntKind.wrap .u16 v265))] ≤ 140737488355328) then
                        runs_edges_Xor_1_l0 k (y256.1 ++ [(v263, (IntKind.wrap .u16 v265))]) y256.2.1 y256.2.2.1 y261 y256.2.2.2.2.2.2.2 y256.2.2.2.2.2.1 y256.2.2.2.2.2.2.1
                      else none
                    else none
                  else
                    runs_edges_Xor_1_l0 k y256.1 y256.2.1 y256.2.2.1 y261 y256.2.2.2.2.2.2.2 y256.2.2.2.2.2.1 y256.2.2.2.2.2.2.1
              else none
            else none
          else
            (runs_edges_Xor_1_l1 k p5_0 p5_1 p5_2 p5_3 p5_4 p5_5 p5_6 65537).bind fun y268 =>
            (runs_edges_Xor_1_l2 k y268.1 y268.2.1 y268.2.2.1 y268.2.2.2.1 y268.2.2.2.2.1 y268.2.2.2.2.2.1 y268.2.2.2.2.2.2.1 y268.2.2.2.2.2.2.2).bind fun y269 =>
            (runs_Xor_1 k (decide ((y269.2.2.2.2.2.1.tmod 2) = 1)) (decide ((y269.2.2.2.2.2.2.1.tmod 2) = 1))).bind fun y274 =>
            bif (y274 == y269.2.2.2.1) then
              runs_edges_Xor_1_l0 k y269.1 y269.2.1 y269.2.2.1 y269.2.2.2.1 y269.2.2.2.2.1 y269.2.2.2.2.2.1 y269.2.2.2.2.2.2.1
            else
              bif y269.2.2.2.1 then
                let v276 := IntKind.wrap .u16 y269.2.2.2.2.1
                let v278 := IntKind.wrap .i64 ((IntKind.wrap .i64 (y269.2.2.2.2.2.2.2 - y269.2.2.2.2.1)) - 1)
                bif decide ((List.length y269.1 + List.length [(v276, (IntKind.wrap .u16 v278))]) * 4 ≤ 140737488355328) then
                  bif decide (List.length y269.1 + List.length [(v276, (IntKind.wrap .u16 v278))] ≤ 140737488355328) then
                    runs_edges_Xor_1_l0 k (y269.1 ++ [(v276, (IntKind.wrap .u16 v278))]) y269.2.1 y269.2.2.1 y274 y269.2.2.2.2.2.2.2 y269.2.2.2.2.2.1 y269.2.2.2.2.2.2.1
                  else none
                else none
              else
                runs_edges_Xor_1_l0 k y269.1 y269.2.1 y269.2.2.1 y274 y269.2.2.2.2.2.2.2 y269.2.2.2.2.2.1 y269.2.2.2.2.2.2.1
      else
        some p5_0
noncomputable def runs_edges_Xor_1 (k : Nat) (a0 : (List Int)) (a1 : (List Int)) : Option ((List (Int × Int))) :=
  (runs_edges_Xor_1_l0 k [] a0 a1 false 0 0 0).bind fun y281 =>
  some y281

noncomputable def runs_Xor (k : Nat) (a0 : (List (Int × Int))) (a1 : (List (Int × Int))) : Option ((List (Int × Int))) :=
  (runs_row k a0).bind fun y1 =>
  (runs_row k a1).bind fun y2 =>
  (runs_edges_Xor_1 k y1 y2).bind fun y3 =>
  some y3

noncomputable def words_And_1 (k : Nat) (a0 : Int) (a1 : Int) : Option (Int) :=
  some (bitsI .and .u64 a0 a1)

noncomputable def words_each_And_1_l0 : Nat → (List Int) → (List Int) → (List Int) → Int → Int → Option ((List Int))
  | 0, _, _, _, _, _ => none
  | k + 1, p4_0, p4_1, p4_2, p4_3, p4_4 =>
    bif (decide (p4_4 < p4_3)) then
      bif decide ((0 : Int) ≤ p4_4) then
        bif decide (p4_4 < (p4_1.length : Int)) then
          bif decide ((0 : Int) ≤ p4_4) then
            bif decide (p4_4 < (p4_2.length : Int)) then
              (words_And_1 k (p4_1.getD (Int.toNat p4_4) (0 : Int)) (p4_2.getD (Int.toNat p4_4) (0 : Int))).bind fun y13 =>
              bif decide ((0 : Int) ≤ p4_4) then
                bif decide (p4_4 < (p4_0.length : Int)) then
                  words_each_And_1_l0 k (p4_0.set (Int.toNat p4_4) y13) p4_1 p4_2 p4_3 (IntKind.wrap .i64 (p4_4 + 1))
                else none
              else none
            else none
          else none
        else none
      else none
    else
      some p4_0
noncomputable def words_each_And_1 (k : Nat) (a0 : (List Int)) (a1 : (List Int)) : Option ((List Int)) :=
  bif decide (1024 ≤ 1024) then
    (words_each_And_1_l0 k (List.replicate (Int.toNat 1024) (0 : Int)) a0 a1 (min (min (a0.length : Int) (a1.length : Int)) 1024) 0).bind fun y16 =>
    some y16
  else none

noncomputable def words_And (k : Nat) (a0 : (List Int)) (a1 : (List Int)) : Option ((List Int)) :=
  (words_each_And_1 k a0 a1).bind fun y1 =>
  some y1

noncomputable def words_Or_1 (k : Nat) (a0 : Int) (a1 : Int) : Option (Int) :=
  some (bitsI .or .u64 a0 a1)

noncomputable def words_each_Or_1_l0 : Nat → (List Int) → (List Int) → (List Int) → Int → Int → Option ((List Int))
  | 0, _, _, _, _, _ => none
  | k + 1, p4_0, p4_1, p4_2, p4_3, p4_4 =>
    bif (decide (p4_4 < p4_3)) then
      bif decide ((0 : Int) ≤ p4_4) then
        bif decide (p4_4 < (p4_1.length : Int)) then
          bif decide ((0 : Int) ≤ p4_4) then
            bif decide (p4_4 < (p4_2.length : Int)) then
              (words_Or_1 k (p4_1.getD (Int.toNat p4_4) (0 : Int)) (p4_2.getD (Int.toNat p4_4) (0 : Int))).bind fun y13 =>
              bif decide ((0 : Int) ≤ p4_4) then
                bif decide (p4_4 < (p4_0.length : Int)) then
                  words_each_Or_1_l0 k (p4_0.set (Int.toNat p4_4) y13) p4_1 p4_2 p4_3 (IntKind.wrap .i64 (p4_4 + 1))
                else none
              else none
            else none
          else none
        else none
      else none
    else
      some p4_0
noncomputable def words_each_Or_1 (k : Nat) (a0 : (List Int)) (a1 : (List Int)) : Option ((List Int)) :=
  bif decide (1024 ≤ 1024) then
    (words_each_Or_1_l0 k (List.replicate (Int.toNat 1024) (0 : Int)) a0 a1 (min (min (a0.length : Int) (a1.length : Int)) 1024) 0).bind fun y16 =>
    some y16
  else none

noncomputable def words_Or (k : Nat) (a0 : (List Int)) (a1 : (List Int)) : Option ((List Int)) :=
  (words_each_Or_1 k a0 a1).bind fun y1 =>
  some y1

noncomputable def words_AndNot_1 (k : Nat) (a0 : Int) (a1 : Int) : Option (Int) :=
  some (bitsI .andNot .u64 a0 a1)

noncomputable def words_each_AndNot_1_l0 : Nat → (List Int) → (List Int) → (List Int) → Int → Int → Option ((List Int))
  | 0, _, _, _, _, _ => none
  | k + 1, p4_0, p4_1, p4_2, p4_3, p4_4 =>
    bif (decide (p4_4 < p4_3)) then
      bif decide ((0 : Int) ≤ p4_4) then
        bif decide (p4_4 < (p4_1.length : Int)) then
          bif decide ((0 : Int) ≤ p4_4) then
            bif decide (p4_4 < (p4_2.length : Int)) then
              (words_AndNot_1 k (p4_1.getD (Int.toNat p4_4) (0 : Int)) (p4_2.getD (Int.toNat p4_4) (0 : Int))).bind fun y13 =>
              bif decide ((0 : Int) ≤ p4_4) then
                bif decide (p4_4 < (p4_0.length : Int)) then
                  words_each_AndNot_1_l0 k (p4_0.set (Int.toNat p4_4) y13) p4_1 p4_2 p4_3 (IntKind.wrap .i64 (p4_4 + 1))
                else none
              else none
            else none
          else none
        else none
      else none
    else
      some p4_0
noncomputable def words_each_AndNot_1 (k : Nat) (a0 : (List Int)) (a1 : (List Int)) : Option ((List Int)) :=
  bif decide (1024 ≤ 1024) then
    (words_each_AndNot_1_l0 k (List.replicate (Int.toNat 1024) (0 : Int)) a0 a1 (min (min (a0.length : Int) (a1.length : Int)) 1024) 0).bind fun y16 =>
    some y16
  else none

noncomputable def words_AndNot (k : Nat) (a0 : (List Int)) (a1 : (List Int)) : Option ((List Int)) :=
  (words_each_AndNot_1 k a0 a1).bind fun y1 =>
  some y1

noncomputable def words_Xor_1 (k : Nat) (a0 : Int) (a1 : Int) : Option (Int) :=
  some (bitsI .xor .u64 a0 a1)

noncomputable def words_each_Xor_1_l0 : Nat → (List Int) → (List Int) → (List Int) → Int → Int → Option ((List Int))
  | 0, _, _, _, _, _ => none
  | k + 1, p4_0, p4_1, p4_2, p4_3, p4_4 =>
    bif (decide (p4_4 < p4_3)) then
      bif decide ((0 : Int) ≤ p4_4) then
        bif decide (p4_4 < (p4_1.length : Int)) then
          bif decide ((0 : Int) ≤ p4_4) then
            bif decide (p4_4 < (p4_2.length : Int)) then
              (words_Xor_1 k (p4_1.getD (Int.toNat p4_4) (0 : Int)) (p4_2.getD (Int.toNat p4_4) (0 : Int))).bind fun y13 =>
              bif decide ((0 : Int) ≤ p4_4) then
                bif decide (p4_4 < (p4_0.length : Int)) then
                  words_each_Xor_1_l0 k (p4_0.set (Int.toNat p4_4) y13) p4_1 p4_2 p4_3 (IntKind.wrap .i64 (p4_4 + 1))
                else none
              else none
            else none
          else none
        else none
      else none
    else
      some p4_0
noncomputable def words_each_Xor_1 (k : Nat) (a0 : (List Int)) (a1 : (List Int)) : Option ((List Int)) :=
  bif decide (1024 ≤ 1024) then
    (words_each_Xor_1_l0 k (List.replicate (Int.toNat 1024) (0 : Int)) a0 a1 (min (min (a0.length : Int) (a1.length : Int)) 1024) 0).bind fun y16 =>
    some y16
  else none

noncomputable def words_Xor (k : Nat) (a0 : (List Int)) (a1 : (List Int)) : Option ((List Int)) :=
  (words_each_Xor_1 k a0 a1).bind fun y1 =>
  some y1

noncomputable def runs_List_l1 : Nat → (List Int) → Int → Int → Int → (List (Int × Int)) → Int → Int → Option ((List Int) × (List (Int × Int)) × Int × Int)
  | 0, _, _, _, _, _, _, _ => none
  | k + 1, p7_0, p7_1, p7_2, p7_3, p7_4, p7_5, p7_6 =>
    (runs_end k (p7_1, p7_2)).bind fun y11 =>
    bif (decide (p7_3 < (min y11 65536))) then
      bif decide ((List.length p7_0 + List.length [(IntKind.wrap .u16 p7_3)]) * 2 ≤ 140737488355328) then
        bif decide (List.length p7_0 + List.length [(IntKind.wrap .u16 p7_3)] ≤ 140737488355328) then
          runs_List_l1 k (p7_0 ++ [(IntKind.wrap .u16 p7_3)]) p7_1 p7_2 (IntKind.wrap .i64 (p7_3 + 1)) p7_4 p7_5 p7_6
        else none
      else none
    else
      some (p7_0, p7_4, p7_5, p7_6)
noncomputable def runs_List_l0 : Nat → (List Int) → (List (Int × Int)) → Int → Int → Option ((List Int))
  | 0, _, _, _, _ => none
  | k + 1, p4_0, p4_1, p4_2, p4_3 =>
    bif (decide (p4_3 < p4_2)) then
      bif decide ((0 : Int) ≤ p4_3) then
        bif decide (p4_3 < (p4_1.length : Int)) then
          let v20 := p4_1.getD (Int.toNat p4_3) ((0 : Int), (0 : Int))
          (runs_List_l1 k p4_0 v20.1 v20.2 (IntKind.wrap .i64 v20.1) p4_1 p4_2 p4_3).bind fun y22 =>
          runs_List_l0 k y22.1 y22.2.1 y22.2.2.1 (IntKind.wrap .i64 (y22.2.2.2 + 1))
        else none
      else none
    else
      some p4_0
noncomputable def runs_List (k : Nat) (a0 : (List (Int × Int))) : Option ((List Int)) :=
  (runs_List_l0 k [] a0 (a0.length : Int) 0).bind fun y24 =>
  some y24

noncomputable def math_bits_TrailingZeros64 (k : Nat) (a0 : Int) : Option (Int) :=
  bif (decide (a0 = 0)) then
    some 64
  else
    let v4 := IntKind.wrap .u64 ((bitsI .and .u64 a0 (IntKind.wrap .u64 (0 - a0))) * 285870213051353865)
    bif Nat.beq 64 (List.length deBruijn64) then
      bif decide ((0 : Int) ≤ (shrI .u64 v4 58)) then
        bif decide ((shrI .u64 v4 58) < 64) then
          some (IntKind.wrap .i64 (deBruijn64.getD (Int.toNat (shrI .u64 v4 58)) (0 : Int)))
        else none
      else none
    else none

noncomputable def words_List_l1 : Nat → (List Int) → (List Int) → Int → Int → Int → Int → Option ((List Int) × (List Int) × Int × Int)
  | 0, _, _, _, _, _, _ => none
  | k + 1, p7_0, p7_1, p7_2, p7_3, p7_4, p7_5 =>
    bif (!(decide (p7_3 = 0))) then
      (math_bits_TrailingZeros64 k p7_3).bind fun y15 =>
      let v16 := IntKind.wrap .i64 ((IntKind.wrap .i64 (64 * p7_2)) + y15)
      bif decide ((List.length p7_0 + List.length [(IntKind.wrap .u16 v16)]) * 2 ≤ 140737488355328) then
        bif decide (List.length p7_0 + List.length [(IntKind.wrap .u16 v16)] ≤ 140737488355328) then
          words_List_l1 k (p7_0 ++ [(IntKind.wrap .u16 v16)]) p7_1 p7_2 (bitsI .and .u64 p7_3 (IntKind.wrap .u64 (p7_3 - 1))) p7_4 p7_5
        else none
      else none
    else
      some (p7_0, p7_1, p7_4, p7_5)
noncomputable def words_List_l0 : Nat → (List Int) → (List Int) → Int → Int → Option ((List Int))
  | 0, _, _, _, _ => none
  | k + 1, p4_0, p4_1, p4_2, p4_3 =>
    bif (decide (p4_3 < p4_2)) then
      bif decide ((0 : Int) ≤ p4_3) then
        bif decide (p4_3 < (p4_1.length : Int)) then
          (words_List_l1 k p4_0 p4_1 p4_3 (p4_1.getD (Int.toNat p4_3) (0 : Int)) p4_2 p4_3).bind fun y25 =>
          words_List_l0 k y25.1 y25.2.1 y25.2.2.1 (IntKind.wrap .i64 (y25.2.2.2 + 1))
        else none
      else none
    else
      some p4_0
noncomputable def words_List (k : Nat) (a0 : (List Int)) : Option ((List Int)) :=
  (words_List_l0 k [] a0 (min (a0.length : Int) 1024) 0).bind fun y27 =>
  some y27

noncomputable def isinglassref04_Same_l0 : Nat → (List Int) → (List Int) → Int → Option ((Bool) ⊕ (Unit))
  | 0, _, _, _ => none
  | k + 1, p5_0, p5_1, p5_2 =>
    bif (decide (p5_2 < (p5_0.length : Int))) then
      bif decide ((0 : Int) ≤ p5_2) then
        bif decide (p5_2 < (p5_0.length : Int)) then
          bif decide ((0 : Int) ≤ p5_2) then
            bif decide (p5_2 < (p5_1.length : Int)) then
              bif (!(decide ((p5_0.getD (Int.toNat p5_2) (0 : Int)) = (p5_1.getD (Int.toNat p5_2) (0 : Int))))) then
                some (.inl false)
              else
                isinglassref04_Same_l0 k p5_0 p5_1 (IntKind.wrap .i64 (p5_2 + 1))
            else none
          else none
        else none
      else none
    else
      some (.inr ())
noncomputable def isinglassref04_Same (k : Nat) (a0 : (List Int)) (a1 : (List Int)) : Option (Bool) :=
  bif (!(decide ((a0.length : Int) = (a1.length : Int)))) then
    some false
  else
    (isinglassref04_Same_l0 k a0 a1 0).bind fun y16 =>
    (match y16 with
    | .inl y17 =>
      some y17
    | .inr y18 =>
      some true)

noncomputable def math_bits_OnesCount64 (k : Nat) (a0 : Int) : Option (Int) :=
  let v4 := IntKind.wrap .u64 ((bitsI .and .u64 (shrI .u64 a0 1) 6148914691236517205) + (bitsI .and .u64 a0 6148914691236517205))
  let v8 := IntKind.wrap .u64 ((bitsI .and .u64 (shrI .u64 v4 2) 3689348814741910323) + (bitsI .and .u64 v4 3689348814741910323))
  let v11 := bitsI .and .u64 (IntKind.wrap .u64 ((shrI .u64 v8 4) + v8)) 1085102592571150095
  let v13 := IntKind.wrap .u64 (v11 + (shrI .u64 v11 8))
  let v15 := IntKind.wrap .u64 (v13 + (shrI .u64 v13 16))
  some (bitsI .and .i64 (IntKind.wrap .i64 (IntKind.wrap .u64 (v15 + (shrI .u64 v15 32)))) 127)

noncomputable def words_Runs_l0 : Nat → Int → Int → (List Int) → Int → Int → Option (Int)
  | 0, _, _, _, _, _ => none
  | k + 1, p4_0, p4_1, p4_2, p4_3, p4_4 =>
    bif (decide (p4_4 < p4_3)) then
      bif decide ((0 : Int) ≤ p4_4) then
        bif decide (p4_4 < (p4_2.length : Int)) then
          let v12 := p4_2.getD (Int.toNat p4_4) (0 : Int)
          (math_bits_OnesCount64 k (bitsI .andNot .u64 v12 (bitsI .or .u64 (shlI .u64 v12 1) p4_1))).bind fun y16 =>
          words_Runs_l0 k (IntKind.wrap .i64 (p4_0 + y16)) (shrI .u64 v12 63) p4_2 p4_3 (IntKind.wrap .i64 (p4_4 + 1))
        else none
      else none
    else
      some p4_0
noncomputable def words_Runs (k : Nat) (a0 : (List Int)) : Option (Int) :=
  (words_Runs_l0 k 0 0 a0 (a0.length : Int) 0).bind fun y20 =>
  some y20

noncomputable def runs_Len_l0 : Nat → Int → (List (Int × Int)) → Int → Int → Option (Int)
  | 0, _, _, _, _ => none
  | k + 1, p4_0, p4_1, p4_2, p4_3 =>
    bif (decide (p4_3 < p4_2)) then
      bif decide ((0 : Int) ≤ p4_3) then
        bif decide (p4_3 < (p4_1.length : Int)) then
          runs_Len_l0 k (IntKind.wrap .i64 (p4_0 + (IntKind.wrap .i64 ((IntKind.wrap .i64 (p4_1.getD (Int.toNat p4_3) ((0 : Int), (0 : Int))).2) + 1)))) p4_1 p4_2 (IntKind.wrap .i64 (p4_3 + 1))
        else none
      else none
    else
      some p4_0
noncomputable def runs_Len (k : Nat) (a0 : (List (Int × Int))) : Option (Int) :=
  (runs_Len_l0 k 0 a0 (a0.length : Int) 0).bind fun y14 =>
  some y14

noncomputable def words_Len_l0 : Nat → Int → (List Int) → Int → Int → Option (Int)
  | 0, _, _, _, _ => none
  | k + 1, p4_0, p4_1, p4_2, p4_3 =>
    bif (decide (p4_3 < p4_2)) then
      bif decide ((0 : Int) ≤ p4_3) then
        bif decide (p4_3 < (p4_1.length : Int)) then
          (math_bits_OnesCount64 k (p4_1.getD (Int.toNat p4_3) (0 : Int))).bind fun y9 =>
          words_Len_l0 k (IntKind.wrap .i64 (p4_0 + y9)) p4_1 p4_2 (IntKind.wrap .i64 (p4_3 + 1))
        else none
      else none
    else
      some p4_0
noncomputable def words_Len (k : Nat) (a0 : (List Int)) : Option (Int) :=
  (words_Len_l0 k 0 a0 (a0.length : Int) 0).bind fun y12 =>
  some y12

noncomputable def isinglasslaw06_RunsWords_l0 : Nat → (List (List (Int × Int))) → (List (List Int)) → Int → Option ((Bool) ⊕ (Unit))
  | 0, _, _, _ => none
  | k + 1, p8_0, p8_1, p8_2 =>
    bif (decide (p8_2 < 4)) then
      bif decide ((0 : Int) ≤ p8_2) then
        bif decide (p8_2 < 4) then
          bif Nat.ble 4 p8_0.length then
            (runs_List k (p8_0.getD (Int.toNat p8_2) [])).bind fun y40 =>
            bif decide ((0 : Int) ≤ p8_2) then
              bif decide (p8_2 < 4) then
                bif Nat.ble 4 p8_1.length then
                  (words_List k (p8_1.getD (Int.toNat p8_2) [])).bind fun y42 =>
                  (isinglassref04_Same k y40 y42).bind fun y43 =>
                  bif !y43 then
                    some (.inl false)
                  else
                    bif decide ((0 : Int) ≤ p8_2) then
                      bif decide (p8_2 < 4) then
                        bif Nat.ble 4 p8_0.length then
                          bif decide ((0 : Int) ≤ p8_2) then
                            bif decide (p8_2 < 4) then
                              bif Nat.ble 4 p8_1.length then
                                (words_Runs k (p8_1.getD (Int.toNat p8_2) [])).bind fun y47 =>
                                bif (!(decide (((p8_0.getD (Int.toNat p8_2) []).length : Int) = y47))) then
                                  some (.inl false)
                                else
                                  bif decide ((0 : Int) ≤ p8_2) then
                                    bif decide (p8_2 < 4) then
                                      bif Nat.ble 4 p8_0.length then
                                        (runs_Len k (p8_0.getD (Int.toNat p8_2) [])).bind fun y50 =>
                                        bif decide ((0 : Int) ≤ p8_2) then
                                          bif decide (p8_2 < 4) then
                                            bif Nat.ble 4 p8_1.length then
                                              (words_Len k (p8_1.getD (Int.toNat p8_2) [])).bind fun y52 =>
                                              bif (!(decide (y50 = y52))) then
                                                some (.inl false)
                                              else
                                                isinglasslaw06_RunsWords_l0 k p8_0 p8_1 (IntKind.wrap .i64 (p8_2 + 1))
                                            else none
                                          else none
                                        else none
                                      else none
                                    else none
                                  else none
                              else none
                            else none
                          else none
                        else none
                      else none
                    else none
                else none
              else none
            else none
          else none
        else none
      else none
    else
      some (.inr ())
noncomputable def isinglasslaw06_RunsWords (k : Nat) (a0 : (List (Int × Int))) (a1 : (List (Int × Int))) : Option (Bool) :=
  bif (decide ((500 : Int) < (a0.length : Int))) then
    (isinglasslaw06_known k).bind fun y3 =>
    some y3
  else
    bif (decide ((500 : Int) < (a1.length : Int))) then
      (isinglasslaw06_known k).bind fun y6 =>
      some y6
    else
      (isinglassref06_May k a0).bind fun y7 =>
      bif !y7 then
        (isinglasslaw06_known k).bind fun y8 =>
        some y8
      else
        (isinglassref06_May k a1).bind fun y9 =>
        bif !y9 then
          (isinglasslaw06_known k).bind fun y10 =>
          some y10
        else
          (isinglasslaw06_of k a0).bind fun y11 =>
          (isinglasslaw06_of k a1).bind fun y12 =>
          (runs_And k a0 a1).bind fun y13 =>
          (runs_Or k a0 a1).bind fun y14 =>
          (runs_AndNot k a0 a1).bind fun y15 =>
          (runs_Xor k a0 a1).bind fun y16 =>
          bif Nat.beq 4 (List.length (List.replicate 4 ([] : (List (Int × Int))))) then
            (words_And k y11 y12).bind fun y17 =>
            (words_Or k y11 y12).bind fun y18 =>
            (words_AndNot k y11 y12).bind fun y19 =>
            (words_Xor k y11 y12).bind fun y20 =>
            bif Nat.beq 4 (List.length (List.replicate 4 ([] : (List Int)))) then
              (isinglasslaw06_RunsWords_l0 k [y13, y14, y15, y16] [y17, y18, y19, y20] 0).bind fun y55 =>
              (match y55 with
              | .inl y56 =>
                some y56
              | .inr y57 =>
                (isinglasslaw06_known k).bind fun y58 =>
                some y58)
            else none
          else none

end Go.Rx.Tryd

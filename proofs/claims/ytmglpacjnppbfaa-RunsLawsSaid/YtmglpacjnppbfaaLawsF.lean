/- Printed by gen.py: the pure functions. -/
import Derived.Test.YtmglpacjnppbfaaCore
namespace Go.Rx.Try
set_option linter.unusedVariables false
def runs_Of_l0 : Nat → (List (Int × Int)) → (List Int) → (List Int) → Int → Int → Option ((List (Int × Int)))
  | 0, _, _, _, _, _ => none
  | k + 1, p4_0, p4_1, p4_2, p4_3, p4_4 =>
    bif (decide (p4_4 < p4_3)) then
      bif decide ((0 : Int) ≤ p4_4) then
        bif decide (p4_4 < (p4_2.length : Int)) then
          let v20 := p4_2.getD (Int.toNat p4_4) (0 : Int)
          bif (decide ((0 : Int) < p4_4)) then
            let v22 := IntKind.wrap .i64 (p4_4 - 1)
            bif decide ((0 : Int) ≤ v22) then
              bif decide (v22 < (p4_1.length : Int)) then
                bif (decide (v20 = (IntKind.wrap .u16 ((p4_1.getD (Int.toNat v22) (0 : Int)) + 1)))) then
                  let v27 := IntKind.wrap .i64 ((p4_0.length : Int) - 1)
                  bif decide ((0 : Int) ≤ v27) then
                    bif decide (v27 < (p4_0.length : Int)) then
                      bif decide ((0 : Int) ≤ v27) then
                        bif decide (v27 < (p4_0.length : Int)) then
                          runs_Of_l0 k (p4_0.set (Int.toNat v27) (((p4_0.getD (Int.toNat v27) ((0 : Int), (0 : Int)))).1, (IntKind.wrap .u16 ((p4_0.getD (Int.toNat v27) ((0 : Int), (0 : Int))).2 + 1)))) p4_1 p4_2 p4_3 (IntKind.wrap .i64 (p4_4 + 1))
                        else none
                      else none
                    else none
                  else none
                else
                  bif decide ((List.length p4_0 + List.length [(v20, ((0, 0)).2)]) * 4 ≤ 140737488355328) then
                    bif decide (List.length p4_0 + List.length [(v20, ((0, 0)).2)] ≤ 140737488355328) then
                      runs_Of_l0 k (p4_0 ++ [(v20, ((0, 0)).2)]) p4_1 p4_2 p4_3 (IntKind.wrap .i64 (p4_4 + 1))
                    else none
                  else none
              else none
            else none
          else
            bif decide ((List.length p4_0 + List.length [(v20, ((0, 0)).2)]) * 4 ≤ 140737488355328) then
              bif decide (List.length p4_0 + List.length [(v20, ((0, 0)).2)] ≤ 140737488355328) then
                runs_Of_l0 k (p4_0 ++ [(v20, ((0, 0)).2)]) p4_1 p4_2 p4_3 (IntKind.wrap .i64 (p4_4 + 1))
              else none
            else none
        else none
      else none
    else
      some p4_0
def runs_Of (k : Nat) (a0 : (List Int)) : Option ((List (Int × Int))) :=
  (runs_Of_l0 k [] a0 a0 (a0.length : Int) 0).bind fun y36 =>
  some y36

def slices_Clone_Run (k : Nat) (a0 : (List (Int × Int))) : Option ((List (Int × Int))) :=
  match a0 with
  | [] => some []
  | x :: l =>
    bif decide ((List.length ([] : List (Int × Int)) + List.length (x :: l)) * 4 ≤ 140737488355328) then
      bif decide (List.length ([] : List (Int × Int)) + List.length (x :: l) ≤ 140737488355328) then
        some (([] : List (Int × Int)) ++ (x :: l))
      else none
    else none

def runs_end (k : Nat) (a0 : (Int × Int)) : Option (Int) :=
  some (IntKind.wrap .i64 ((IntKind.wrap .i64 ((IntKind.wrap .i64 a0.1) + (IntKind.wrap .i64 a0.2))) + 1))

def runs_row_l0 : Nat → (List Int) → (List (Int × Int)) → Int → Int → Option ((List Int))
  | 0, _, _, _, _ => none
  | k + 1, p4_0, p4_1, p4_2, p4_3 =>
    bif (decide (p4_3 < p4_2)) then
      bif decide ((0 : Int) ≤ p4_3) then
        bif decide (p4_3 < (p4_1.length : Int)) then
          let v9 := p4_1.getD (Int.toNat p4_3) ((0 : Int), (0 : Int))
          (runs_end k v9).bind fun y11 =>
          bif decide ((List.length p4_0 + List.length [(IntKind.wrap .i64 v9.1), y11]) * 8 ≤ 140737488355328) then
            bif decide (List.length p4_0 + List.length [(IntKind.wrap .i64 v9.1), y11] ≤ 140737488355328) then
              runs_row_l0 k (p4_0 ++ [(IntKind.wrap .i64 v9.1), y11]) p4_1 p4_2 (IntKind.wrap .i64 (p4_3 + 1))
            else none
          else none
        else none
      else none
    else
      some p4_0
def runs_row (k : Nat) (a0 : (List (Int × Int))) : Option ((List Int)) :=
  (runs_row_l0 k [] a0 (a0.length : Int) 0).bind fun y14 =>
  some y14

def runs_Flip_1 (k : Nat) (a0 : Bool) (a1 : Bool) : Option (Bool) :=
  some (!(a0 == a1))

def runs_edges_Flip_1_l1 : Nat → (List (Int × Int)) → (List Int) → (List Int) → Bool → Int → Int → Int → Int → Option ((List (Int × Int)) × (List Int) × (List Int) × Bool × Int × Int × Int × Int)
  | 0, _, _, _, _, _, _, _, _ => none
  | k + 1, p11_0, p11_1, p11_2, p11_3, p11_4, p11_5, p11_6, p11_7 =>
    bif (decide (p11_5 < (p11_1.length : Int))) then
      bif decide ((0 : Int) ≤ p11_5) then
        bif decide (p11_5 < (p11_1.length : Int)) then
          bif (decide ((p11_1.getD (Int.toNat p11_5) (0 : Int)) ≤ p11_7)) then
            runs_edges_Flip_1_l1 k p11_0 p11_1 p11_2 p11_3 p11_4 (IntKind.wrap .i64 (p11_5 + 1)) p11_6 p11_7
          else
            some (p11_0, p11_1, p11_2, p11_3, p11_4, p11_5, p11_6, p11_7)
        else none
      else none
    else
      some (p11_0, p11_1, p11_2, p11_3, p11_4, p11_5, p11_6, p11_7)
def runs_edges_Flip_1_l2 : Nat → (List (Int × Int)) → (List Int) → (List Int) → Bool → Int → Int → Int → Int → Option ((List (Int × Int)) × (List Int) × (List Int) × Bool × Int × Int × Int × Int)
  | 0, _, _, _, _, _, _, _, _ => none
  | k + 1, p13_0, p13_1, p13_2, p13_3, p13_4, p13_5, p13_6, p13_7 =>
    bif (decide (p13_6 < (p13_2.length : Int))) then
      bif decide ((0 : Int) ≤ p13_6) then
        bif decide (p13_6 < (p13_2.length : Int)) then
          bif (decide ((p13_2.getD (Int.toNat p13_6) (0 : Int)) ≤ p13_7)) then
            runs_edges_Flip_1_l2 k p13_0 p13_1 p13_2 p13_3 p13_4 p13_5 (IntKind.wrap .i64 (p13_6 + 1)) p13_7
          else
            some (p13_0, p13_1, p13_2, p13_3, p13_4, p13_5, p13_6, p13_7)
        else none
      else none
    else
      some (p13_0, p13_1, p13_2, p13_3, p13_4, p13_5, p13_6, p13_7)
def runs_edges_Flip_1_l0 : Nat → (List (Int × Int)) → (List Int) → (List Int) → Bool → Int → Int → Int → Option ((List (Int × Int)))
  | 0, _, _, _, _, _, _, _ => none
  | k + 1, p5_0, p5_1, p5_2, p5_3, p5_4, p5_5, p5_6 =>
    bif (decide (p5_5 < (p5_1.length : Int))) then
      bif (decide (p5_5 < (p5_1.length : Int))) then
        bif decide ((0 : Int) ≤ p5_5) then
          bif decide (p5_5 < (p5_1.length : Int)) then
            let v155 := p5_1.getD (Int.toNat p5_5) (0 : Int)
            bif (decide (p5_6 < (p5_2.length : Int))) then
              bif decide ((0 : Int) ≤ p5_6) then
                bif decide (p5_6 < (p5_2.length : Int)) then
                  (runs_edges_Flip_1_l1 k p5_0 p5_1 p5_2 p5_3 p5_4 p5_5 p5_6 (min v155 (p5_2.getD (Int.toNat p5_6) (0 : Int)))).bind fun y160 =>
                  (runs_edges_Flip_1_l2 k y160.1 y160.2.1 y160.2.2.1 y160.2.2.2.1 y160.2.2.2.2.1 y160.2.2.2.2.2.1 y160.2.2.2.2.2.2.1 y160.2.2.2.2.2.2.2).bind fun y161 =>
                  (runs_Flip_1 k (decide ((y161.2.2.2.2.2.1.tmod 2) = 1)) (decide ((y161.2.2.2.2.2.2.1.tmod 2) = 1))).bind fun y166 =>
                  bif (y166 == y161.2.2.2.1) then
                    runs_edges_Flip_1_l0 k y161.1 y161.2.1 y161.2.2.1 y161.2.2.2.1 y161.2.2.2.2.1 y161.2.2.2.2.2.1 y161.2.2.2.2.2.2.1
                  else
                    bif y161.2.2.2.1 then
                      let v168 := IntKind.wrap .u16 y161.2.2.2.2.1
                      let v170 := IntKind.wrap .i64 ((IntKind.wrap .i64 (y161.2.2.2.2.2.2.2 - y161.2.2.2.2.1)) - 1)
                      bif decide ((List.length y161.1 + List.length [(v168, (IntKind.wrap .u16 v170))]) * 4 ≤ 140737488355328) then
                        bif decide (List.length y161.1 + List.length [(v168, (IntKind.wrap .u16 v170))] ≤ 140737488355328) then
                          runs_edges_Flip_1_l0 k (y161.1 ++ [(v168, (IntKind.wrap .u16 v170))]) y161.2.1 y161.2.2.1 y166 y161.2.2.2.2.2.2.2 y161.2.2.2.2.2.1 y161.2.2.2.2.2.2.1
                        else none
                      else none
                    else
                      runs_edges_Flip_1_l0 k y161.1 y161.2.1 y161.2.2.1 y166 y161.2.2.2.2.2.2.2 y161.2.2.2.2.2.1 y161.2.2.2.2.2.2.1
                else none
              else none
            else
              (runs_edges_Flip_1_l1 k p5_0 p5_1 p5_2 p5_3 p5_4 p5_5 p5_6 v155).bind fun y173 =>
              (runs_edges_Flip_1_l2 k y173.1 y173.2.1 y173.2.2.1 y173.2.2.2.1 y173.2.2.2.2.1 y173.2.2.2.2.2.1 y173.2.2.2.2.2.2.1 y173.2.2.2.2.2.2.2).bind fun y174 =>
              (runs_Flip_1 k (decide ((y174.2.2.2.2.2.1.tmod 2) = 1)) (decide ((y174.2.2.2.2.2.2.1.tmod 2) = 1))).bind fun y179 =>
              bif (y179 == y174.2.2.2.1) then
                runs_edges_Flip_1_l0 k y174.1 y174.2.1 y174.2.2.1 y174.2.2.2.1 y174.2.2.2.2.1 y174.2.2.2.2.2.1 y174.2.2.2.2.2.2.1
              else
                bif y174.2.2.2.1 then
                  let v181 := IntKind.wrap .u16 y174.2.2.2.2.1
                  let v183 := IntKind.wrap .i64 ((IntKind.wrap .i64 (y174.2.2.2.2.2.2.2 - y174.2.2.2.2.1)) - 1)
                  bif decide ((List.length y174.1 + List.length [(v181, (IntKind.wrap .u16 v183))]) * 4 ≤ 140737488355328) then
                    bif decide (List.length y174.1 + List.length [(v181, (IntKind.wrap .u16 v183))] ≤ 140737488355328) then
                      runs_edges_Flip_1_l0 k (y174.1 ++ [(v181, (IntKind.wrap .u16 v183))]) y174.2.1 y174.2.2.1 y179 y174.2.2.2.2.2.2.2 y174.2.2.2.2.2.1 y174.2.2.2.2.2.2.1
                    else none
                  else none
                else
                  runs_edges_Flip_1_l0 k y174.1 y174.2.1 y174.2.2.1 y179 y174.2.2.2.2.2.2.2 y174.2.2.2.2.2.1 y174.2.2.2.2.2.2.1
          else none
        else none
      else
        bif (decide (p5_6 < (p5_2.length : Int))) then
          bif decide ((0 : Int) ≤ p5_6) then
            bif decide (p5_6 < (p5_2.length : Int)) then
              (runs_edges_Flip_1_l1 k p5_0 p5_1 p5_2 p5_3 p5_4 p5_5 p5_6 (min 65537 (p5_2.getD (Int.toNat p5_6) (0 : Int)))).bind fun y190 =>
              (runs_edges_Flip_1_l2 k y190.1 y190.2.1 y190.2.2.1 y190.2.2.2.1 y190.2.2.2.2.1 y190.2.2.2.2.2.1 y190.2.2.2.2.2.2.1 y190.2.2.2.2.2.2.2).bind fun y191 =>
              (runs_Flip_1 k (decide ((y191.2.2.2.2.2.1.tmod 2) = 1)) (decide ((y191.2.2.2.2.2.2.1.tmod 2) = 1))).bind fun y196 =>
              bif (y196 == y191.2.2.2.1) then
                runs_edges_Flip_1_l0 k y191.1 y191.2.1 y191.2.2.1 y191.2.2.2.1 y191.2.2.2.2.1 y191.2.2.2.2.2.1 y191.2.2.2.2.2.2.1
              else
                bif y191.2.2.2.1 then
                  let v198 := IntKind.wrap .u16 y191.2.2.2.2.1
                  let v200 := IntKind.wrap .i64 ((IntKind.wrap .i64 (y191.2.2.2.2.2.2.2 - y191.2.2.2.2.1)) - 1)
                  bif decide ((List.length y191.1 + List.length [(v198, (IntKind.wrap .u16 v200))]) * 4 ≤ 140737488355328) then
                    bif decide (List.length y191.1 + List.length [(v198, (IntKind.wrap .u16 v200))] ≤ 140737488355328) then
                      runs_edges_Flip_1_l0 k (y191.1 ++ [(v198, (IntKind.wrap .u16 v200))]) y191.2.1 y191.2.2.1 y196 y191.2.2.2.2.2.2.2 y191.2.2.2.2.2.1 y191.2.2.2.2.2.2.1
                    else none
                  else none
                else
                  runs_edges_Flip_1_l0 k y191.1 y191.2.1 y191.2.2.1 y196 y191.2.2.2.2.2.2.2 y191.2.2.2.2.2.1 y191.2.2.2.2.2.2.1
            else none
          else none
        else
          (runs_edges_Flip_1_l1 k p5_0 p5_1 p5_2 p5_3 p5_4 p5_5 p5_6 65537).bind fun y203 =>
          (runs_edges_Flip_1_l2 k y203.1 y203.2.1 y203.2.2.1 y203.2.2.2.1 y203.2.2.2.2.1 y203.2.2.2.2.2.1 y203.2.2.2.2.2.2.1 y203.2.2.2.2.2.2.2).bind fun y204 =>
          (runs_Flip_1 k (decide ((y204.2.2.2.2.2.1.tmod 2) = 1)) (decide ((y204.2.2.2.2.2.2.1.tmod 2) = 1))).bind fun y209 =>
          bif (y209 == y204.2.2.2.1) then
            runs_edges_Flip_1_l0 k y204.1 y204.2.1 y204.2.2.1 y204.2.2.2.1 y204.2.2.2.2.1 y204.2.2.2.2.2.1 y204.2.2.2.2.2.2.1
          else
            bif y204.2.2.2.1 then
              let v211 := IntKind.wrap .u16 y204.2.2.2.2.1
              let v213 := IntKind.wrap .i64 ((IntKind.wrap .i64 (y204.2.2.2.2.2.2.2 - y204.2.2.2.2.1)) - 1)
              bif decide ((List.length y204.1 + List.length [(v211, (IntKind.wrap .u16 v213))]) * 4 ≤ 140737488355328) then
                bif decide (List.length y204.1 + List.length [(v211, (IntKind.wrap .u16 v213))] ≤ 140737488355328) then
                  runs_edges_Flip_1_l0 k (y204.1 ++ [(v211, (IntKind.wrap .u16 v213))]) y204.2.1 y204.2.2.1 y209 y204.2.2.2.2.2.2.2 y204.2.2.2.2.2.1 y204.2.2.2.2.2.2.1
                else none
              else none
            else
              runs_edges_Flip_1_l0 k y204.1 y204.2.1 y204.2.2.1 y209 y204.2.2.2.2.2.2.2 y204.2.2.2.2.2.1 y204.2.2.2.2.2.2.1
    else
      bif (decide (p5_6 < (p5_2.length : Int))) then
        bif (decide (p5_5 < (p5_1.length : Int))) then
          bif decide ((0 : Int) ≤ p5_5) then
            bif decide (p5_5 < (p5_1.length : Int)) then
              let v220 := p5_1.getD (Int.toNat p5_5) (0 : Int)
              bif (decide (p5_6 < (p5_2.length : Int))) then
                bif decide ((0 : Int) ≤ p5_6) then
                  bif decide (p5_6 < (p5_2.length : Int)) then
                    (runs_edges_Flip_1_l1 k p5_0 p5_1 p5_2 p5_3 p5_4 p5_5 p5_6 (min v220 (p5_2.getD (Int.toNat p5_6) (0 : Int)))).bind fun y225 =>
                    (runs_edges_Flip_1_l2 k y225.1 y225.2.1 y225.2.2.1 y225.2.2.2.1 y225.2.2.2.2.1 y225.2.2.2.2.2.1 y225.2.2.2.2.2.2.1 y225.2.2.2.2.2.2.2).bind fun y226 =>
                    (runs_Flip_1 k (decide ((y226.2.2.2.2.2.1.tmod 2) = 1)) (decide ((y226.2.2.2.2.2.2.1.tmod 2) = 1))).bind fun y231 =>
                    bif (y231 == y226.2.2.2.1) then
                      runs_edges_Flip_1_l0 k y226.1 y226.2.1 y226.2.2.1 y226.2.2.2.1 y226.2.2.2.2.1 y226.2.2.2.2.2.1 y226.2.2.2.2.2.2.1
                    else
                      bif y226.2.2.2.1 then
                        let v233 := IntKind.wrap .u16 y226.2.2.2.2.1
                        let v235 := IntKind.wrap .i64 ((IntKind.wrap .i64 (y226.2.2.2.2.2.2.2 - y226.2.2.2.2.1)) - 1)
                        bif decide ((List.length y226.1 + List.length [(v233, (IntKind.wrap .u16 v235))]) * 4 ≤ 140737488355328) then
                          bif decide (List.length y226.1 + List.length [(v233, (IntKind.wrap .u16 v235))] ≤ 140737488355328) then
                            runs_edges_Flip_1_l0 k (y226.1 ++ [(v233, (IntKind.wrap .u16 v235))]) y226.2.1 y226.2.2.1 y231 y226.2.2.2.2.2.2.2 y226.2.2.2.2.2.1 y226.2.2.2.2.2.2.1
                          else none
                        else none
                      else
                        runs_edges_Flip_1_l0 k y226.1 y226.2.1 y226.2.2.1 y231 y226.2.2.2.2.2.2.2 y226.2.2.2.2.2.1 y226.2.2.2.2.2.2.1
                  else none
                else none
              else
                (runs_edges_Flip_1_l1 k p5_0 p5_1 p5_2 p5_3 p5_4 p5_5 p5_6 v220).bind fun y238 =>
                (runs_edges_Flip_1_l2 k y238.1 y238.2.1 y238.2.2.1 y238.2.2.2.1 y238.2.2.2.2.1 y238.2.2.2.2.2.1 y238.2.2.2.2.2.2.1 y238.2.2.2.2.2.2.2).bind fun y239 =>
                (runs_Flip_1 k (decide ((y239.2.2.2.2.2.1.tmod 2) = 1)) (decide ((y239.2.2.2.2.2.2.1.tmod 2) = 1))).bind fun y244 =>
                bif (y244 == y239.2.2.2.1) then
                  runs_edges_Flip_1_l0 k y239.1 y239.2.1 y239.2.2.1 y239.2.2.2.1 y239.2.2.2.2.1 y239.2.2.2.2.2.1 y239.2.2.2.2.2.2.1
                else
                  bif y239.2.2.2.1 then
                    let v246 := IntKind.wrap .u16 y239.2.2.2.2.1
                    let v248 := IntKind.wrap .i64 ((IntKind.wrap .i64 (y239.2.2.2.2.2.2.2 - y239.2.2.2.2.1)) - 1)
                    bif decide ((List.length y239.1 + List.length [(v246, (IntKind.wrap .u16 v248))]) * 4 ≤ 140737488355328) then
                      bif decide (List.length y239.1 + List.length [(v246, (IntKind.wrap .u16 v248))] ≤ 140737488355328) then
                        runs_edges_Flip_1_l0 k (y239.1 ++ [(v246, (IntKind.wrap .u16 v248))]) y239.2.1 y239.2.2.1 y244 y239.2.2.2.2.2.2.2 y239.2.2.2.2.2.1 y239.2.2.2.2.2.2.1
                      else none
                    else none
                  else
                    runs_edges_Flip_1_l0 k y239.1 y239.2.1 y239.2.2.1 y244 y239.2.2.2.2.2.2.2 y239.2.2.2.2.2.1 y239.2.2.2.2.2.2.1
            else none
          else none
        else
          bif (decide (p5_6 < (p5_2.length : Int))) then
            bif decide ((0 : Int) ≤ p5_6) then
              bif decide (p5_6 < (p5_2.length : Int)) then
                (runs_edges_Flip_1_l1 k p5_0 p5_1 p5_2 p5_3 p5_4 p5_5 p5_6 (min 65537 (p5_2.getD (Int.toNat p5_6) (0 : Int)))).bind fun y255 =>
                (runs_edges_Flip_1_l2 k y255.1 y255.2.1 y255.2.2.1 y255.2.2.2.1 y255.2.2.2.2.1 y255.2.2.2.2.2.1 y255.2.2.2.2.2.2.1 y255.2.2.2.2.2.2.2).bind fun y256 =>
                (runs_Flip_1 k (decide ((y256.2.2.2.2.2.1.tmod 2) = 1)) (decide ((y256.2.2.2.2.2.2.1.tmod 2) = 1))).bind fun y261 =>
                bif (y261 == y256.2.2.2.1) then
                  runs_edges_Flip_1_l0 k y256.1 y256.2.1 y256.2.2.1 y256.2.2.2.1 y256.2.2.2.2.1 y256.2.2.2.2.2.1 y256.2.2.2.2.2.2.1
                else
                  bif y256.2.2.2.1 then
                    let v263 := IntKind.wrap .u16 y256.2.2.2.2.1
                    let v265 := IntKind.wrap .i64 ((IntKind.wrap .i64 (y256.2.2.2.2.2.2.2 - y256.2.2.2.2.1)) - 1)
                    bif decide ((List.length y256.1 + List.length [(v263, (IntKind.wrap .u16 v265))]) * 4 ≤ 140737488355328) then
                      bif decide (List.length y256.1 + List.length [(v263, (IntKind.wrap .u16 v265))] ≤ 140737488355328) then
                        runs_edges_Flip_1_l0 k (y256.1 ++ [(v263, (IntKind.wrap .u16 v265))]) y256.2.1 y256.2.2.1 y261 y256.2.2.2.2.2.2.2 y256.2.2.2.2.2.1 y256.2.2.2.2.2.2.1
                      else none
                    else none
                  else
                    runs_edges_Flip_1_l0 k y256.1 y256.2.1 y256.2.2.1 y261 y256.2.2.2.2.2.2.2 y256.2.2.2.2.2.1 y256.2.2.2.2.2.2.1
              else none
            else none
          else
            (runs_edges_Flip_1_l1 k p5_0 p5_1 p5_2 p5_3 p5_4 p5_5 p5_6 65537).bind fun y268 =>
            (runs_edges_Flip_1_l2 k y268.1 y268.2.1 y268.2.2.1 y268.2.2.2.1 y268.2.2.2.2.1 y268.2.2.2.2.2.1 y268.2.2.2.2.2.2.1 y268.2.2.2.2.2.2.2).bind fun y269 =>
            (runs_Flip_1 k (decide ((y269.2.2.2.2.2.1.tmod 2) = 1)) (decide ((y269.2.2.2.2.2.2.1.tmod 2) = 1))).bind fun y274 =>
            bif (y274 == y269.2.2.2.1) then
              runs_edges_Flip_1_l0 k y269.1 y269.2.1 y269.2.2.1 y269.2.2.2.1 y269.2.2.2.2.1 y269.2.2.2.2.2.1 y269.2.2.2.2.2.2.1
            else
              bif y269.2.2.2.1 then
                let v276 := IntKind.wrap .u16 y269.2.2.2.2.1
                let v278 := IntKind.wrap .i64 ((IntKind.wrap .i64 (y269.2.2.2.2.2.2.2 - y269.2.2.2.2.1)) - 1)
                bif decide ((List.length y269.1 + List.length [(v276, (IntKind.wrap .u16 v278))]) * 4 ≤ 140737488355328) then
                  bif decide (List.length y269.1 + List.length [(v276, (IntKind.wrap .u16 v278))] ≤ 140737488355328) then
                    runs_edges_Flip_1_l0 k (y269.1 ++ [(v276, (IntKind.wrap .u16 v278))]) y269.2.1 y269.2.2.1 y274 y269.2.2.2.2.2.2.2 y269.2.2.2.2.2.1 y269.2.2.2.2.2.2.1
                  else none
                else none
              else
                runs_edges_Flip_1_l0 k y269.1 y269.2.1 y269.2.2.1 y274 y269.2.2.2.2.2.2.2 y269.2.2.2.2.2.1 y269.2.2.2.2.2.2.1
      else
        some p5_0
def runs_edges_Flip_1 (k : Nat) (a0 : (List Int)) (a1 : (List Int)) : Option ((List (Int × Int))) :=
  (runs_edges_Flip_1_l0 k [] a0 a1 false 0 0 0).bind fun y281 =>
  some y281

def runs_Flip (k : Nat) (a0 : (List (Int × Int))) (a1 : Int) (a2 : Int) : Option ((List (Int × Int))) :=
  bif (decide ((min a2 65536) ≤ (max a1 0))) then
    (slices_Clone_Run k a0).bind fun y4 =>
    some y4
  else
    (runs_row k a0).bind fun y5 =>
    (runs_edges_Flip_1 k y5 [(max a1 0), (min a2 65536)]).bind fun y6 =>
    some y6

def runs_Select_l0 : Nat → (List (Int × Int)) → Int → (List (Int × Int)) → Int → Int → Option ((List (Int × Int)) × Int)
  | 0, _, _, _, _, _ => none
  | k + 1, p3_0, p3_1, p3_2, p3_3, p3_4 =>
    bif (decide (p3_4 < p3_3)) then
      bif decide ((0 : Int) ≤ p3_4) then
        bif decide (p3_4 < (p3_2.length : Int)) then
          let v12 := p3_2.getD (Int.toNat p3_4) ((0 : Int), (0 : Int))
          bif (decide (p3_1 ≤ (IntKind.wrap .i64 v12.2))) then
            some (p3_0, p3_1)
          else
            bif decide ((1 : Int) ≤ (p3_0.length : Int)) then
              runs_Select_l0 k (p3_0.drop (Int.toNat 1)) (IntKind.wrap .i64 (p3_1 - (IntKind.wrap .i64 ((IntKind.wrap .i64 v12.2) + 1)))) p3_2 p3_3 (IntKind.wrap .i64 (p3_4 + 1))
            else none
        else none
      else none
    else
      some (p3_0, p3_1)
def runs_Select (k : Nat) (a0 : (List (Int × Int))) (a1 : Int) : Option (Int × Bool) :=
  (runs_Select_l0 k a0 a1 a0 (a0.length : Int) 0).bind fun y20 =>
  bif (decide (y20.2 < 0)) then
    some (0, false)
  else
    bif (decide ((y20.1.length : Int) = 0)) then
      some (0, false)
    else
      bif decide ((0 : Int) < (y20.1.length : Int)) then
        some ((IntKind.wrap .u16 ((y20.1.getD (Int.toNat 0) ((0 : Int), (0 : Int))).1 + (IntKind.wrap .u16 y20.2))), true)
      else none

def runs_Rank_l0 : Nat → Int → Int → (List (Int × Int)) → Int → Int → Option (Int)
  | 0, _, _, _, _, _ => none
  | k + 1, p5_0, p5_1, p5_2, p5_3, p5_4 =>
    bif (decide (p5_4 < p5_3)) then
      bif decide ((0 : Int) ≤ p5_4) then
        bif decide (p5_4 < (p5_2.length : Int)) then
          let v14 := p5_2.getD (Int.toNat p5_4) ((0 : Int), (0 : Int))
          runs_Rank_l0 k p5_0 (IntKind.wrap .i64 (p5_1 + (min (max (IntKind.wrap .i64 (p5_0 - (IntKind.wrap .i64 v14.1))) 0) (IntKind.wrap .i64 ((IntKind.wrap .i64 v14.2) + 1))))) p5_2 p5_3 (IntKind.wrap .i64 (p5_4 + 1))
        else none
      else none
    else
      some p5_1
def runs_Rank (k : Nat) (a0 : (List (Int × Int))) (a1 : Int) : Option (Int) :=
  (runs_Rank_l0 k (max a1 0) 0 a0 (a0.length : Int) 0).bind fun y23 =>
  some y23

def runs_May_l0 : Nat → Int → (List (Int × Int)) → Int → Int → Option ((Bool) ⊕ (Unit))
  | 0, _, _, _, _ => none
  | k + 1, p4_0, p4_1, p4_2, p4_3 =>
    bif (decide (p4_3 < p4_2)) then
      bif decide ((0 : Int) ≤ p4_3) then
        bif decide (p4_3 < (p4_1.length : Int)) then
          let v12 := p4_1.getD (Int.toNat p4_3) ((0 : Int), (0 : Int))
          bif (decide ((IntKind.wrap .i64 v12.1) < p4_0)) then
            some (.inl false)
          else
            (runs_end k v12).bind fun y15 =>
            bif (decide ((65536 : Int) < y15)) then
              some (.inl false)
            else
              (runs_end k v12).bind fun y17 =>
              runs_May_l0 k (IntKind.wrap .i64 (y17 + 1)) p4_1 p4_2 (IntKind.wrap .i64 (p4_3 + 1))
        else none
      else none
    else
      some (.inr ())
def runs_May (k : Nat) (a0 : (List (Int × Int))) : Option (Bool) :=
  (runs_May_l0 k 0 a0 (a0.length : Int) 0).bind fun y20 =>
  (match y20 with
  | .inl y21 =>
    some y21
  | .inr y22 =>
    some true)

def isinglasslaw06_known (k : Nat) : Option (Bool) :=
  (runs_Of k [1, 2, 3, 7]).bind fun y1 =>
  (runs_Flip k [(1, 2)] 0 3).bind fun y2 =>
  (runs_Select k y1 3).bind fun y3 =>
  bif (decide ((y1.length : Int) = 2)) then
    bif decide ((0 : Int) < (y1.length : Int)) then
      let v6 := y1.getD (Int.toNat 0) ((0 : Int), (0 : Int))
      bif (decide (v6.1 = 1) && (decide (v6.2 = 2))) then
        bif decide ((1 : Int) < (y1.length : Int)) then
          let v8 := y1.getD (Int.toNat 1) ((0 : Int), (0 : Int))
          bif (decide (v8.1 = 7) && (decide (v8.2 = (((0, 0)).2)))) then
            bif (decide ((y2.length : Int) = 2)) then
              bif decide ((0 : Int) < (y2.length : Int)) then
                let v12 := y2.getD (Int.toNat 0) ((0 : Int), (0 : Int))
                bif (decide (v12.1 = (((0, 0)).1)) && (decide (v12.2 = (((0, 0)).2)))) then
                  bif decide ((1 : Int) < (y2.length : Int)) then
                    let v14 := y2.getD (Int.toNat 1) ((0 : Int), (0 : Int))
                    bif (decide (v14.1 = 3) && (decide (v14.2 = (((0, 0)).2)))) then
                      bif (decide (y3.1 = 7)) then
                        bif y3.2 then
                          (runs_Rank k y1 3).bind fun y17 =>
                          bif (decide (y17 = 2)) then
                            (runs_May k [(1, ((0, 0)).2), (2, ((0, 0)).2)]).bind fun y19 =>
                            bif !y19 then
                              (runs_May k [(65535, ((0, 0)).2)]).bind fun y20 =>
                              some y20
                            else
                              some false
                          else
                            some false
                        else
                          some false
                      else
                        some false
                    else
                      some false
                  else none
                else
                  some false
              else none
            else
              some false
          else
            some false
        else none
      else
        some false
    else none
  else
    some false

def runs_Or_1 (k : Nat) (a0 : Bool) (a1 : Bool) : Option (Bool) :=
  bif a0 then
    some true
  else
    some a1

def runs_edges_Or_1_l1 : Nat → (List (Int × Int)) → (List Int) → (List Int) → Bool → Int → Int → Int → Int → Option ((List (Int × Int)) × (List Int) × (List Int) × Bool × Int × Int × Int × Int)
  | 0, _, _, _, _, _, _, _, _ => none
  | k + 1, p11_0, p11_1, p11_2, p11_3, p11_4, p11_5, p11_6, p11_7 =>
    bif (decide (p11_5 < (p11_1.length : Int))) then
      bif decide ((0 : Int) ≤ p11_5) then
        bif decide (p11_5 < (p11_1.length : Int)) then
          bif (decide ((p11_1.getD (Int.toNat p11_5) (0 : Int)) ≤ p11_7)) then
            runs_edges_Or_1_l1 k p11_0 p11_1 p11_2 p11_3 p11_4 (IntKind.wrap .i64 (p11_5 + 1)) p11_6 p11_7
          else
            some (p11_0, p11_1, p11_2, p11_3, p11_4, p11_5, p11_6, p11_7)
        else none
      else none
    else
      some (p11_0, p11_1, p11_2, p11_3, p11_4, p11_5, p11_6, p11_7)
def runs_edges_Or_1_l2 : Nat → (List (Int × Int)) → (List Int) → (List Int) → Bool → Int → Int → Int → Int → Option ((List (Int × Int)) × (List Int) × (List Int) × Bool × Int × Int × Int × Int)
  | 0, _, _, _, _, _, _, _, _ => none
  | k + 1, p13_0, p13_1, p13_2, p13_3, p13_4, p13_5, p13_6, p13_7 =>
    bif (decide (p13_6 < (p13_2.length : Int))) then
      bif decide ((0 : Int) ≤ p13_6) then
        bif decide (p13_6 < (p13_2.length : Int)) then
          bif (decide ((p13_2.getD (Int.toNat p13_6) (0 : Int)) ≤ p13_7)) then
            runs_edges_Or_1_l2 k p13_0 p13_1 p13_2 p13_3 p13_4 p13_5 (IntKind.wrap .i64 (p13_6 + 1)) p13_7
          else
            some (p13_0, p13_1, p13_2, p13_3, p13_4, p13_5, p13_6, p13_7)
        else none
      else none
    else
      some (p13_0, p13_1, p13_2, p13_3, p13_4, p13_5, p13_6, p13_7)
def runs_edges_Or_1_l0 : Nat → (List (Int × Int)) → (List Int) → (List Int) → Bool → Int → Int → Int → Option ((List (Int × Int)))
  | 0, _, _, _, _, _, _, _ => none
  | k + 1, p5_0, p5_1, p5_2, p5_3, p5_4, p5_5, p5_6 =>
    bif (decide (p5_5 < (p5_1.length : Int))) then
      bif (decide (p5_5 < (p5_1.length : Int))) then
        bif decide ((0 : Int) ≤ p5_5) then
          bif decide (p5_5 < (p5_1.length : Int)) then
            let v155 := p5_1.getD (Int.toNat p5_5) (0 : Int)
            bif (decide (p5_6 < (p5_2.length : Int))) then
              bif decide ((0 : Int) ≤ p5_6) then
                bif decide (p5_6 < (p5_2.length : Int)) then
                  (runs_edges_Or_1_l1 k p5_0 p5_1 p5_2 p5_3 p5_4 p5_5 p5_6 (min v155 (p5_2.getD (Int.toNat p5_6) (0 : Int)))).bind fun y160 =>
                  (runs_edges_Or_1_l2 k y160.1 y160.2.1 y160.2.2.1 y160.2.2.2.1 y160.2.2.2.2.1 y160.2.2.2.2.2.1 y160.2.2.2.2.2.2.1 y160.2.2.2.2.2.2.2).bind fun y161 =>
                  (runs_Or_1 k (decide ((y161.2.2.2.2.2.1.tmod 2) = 1)) (decide ((y161.2.2.2.2.2.2.1.tmod 2) = 1))).bind fun y166 =>
                  bif (y166 == y161.2.2.2.1) then
                    runs_edges_Or_1_l0 k y161.1 y161.2.1 y161.2.2.1 y161.2.2.2.1 y161.2.2.2.2.1 y161.2.2.2.2.2.1 y161.2.2.2.2.2.2.1
                  else
                    bif y161.2.2.2.1 then
                      let v168 := IntKind.wrap .u16 y161.2.2.2.2.1
                      let v170 := IntKind.wrap .i64 ((IntKind.wrap .i64 (y161.2.2.2.2.2.2.2 - y161.2.2.2.2.1)) - 1)
                      bif decide ((List.length y161.1 + List.length [(v168, (IntKind.wrap .u16 v170))]) * 4 ≤ 140737488355328) then
                        bif decide (List.length y161.1 + List.length [(v168, (IntKind.wrap .u16 v170))] ≤ 140737488355328) then
                          runs_edges_Or_1_l0 k (y161.1 ++ [(v168, (IntKind.wrap .u16 v170))]) y161.2.1 y161.2.2.1 y166 y161.2.2.2.2.2.2.2 y161.2.2.2.2.2.1 y161.2.2.2.2.2.2.1
                        else none
                      else none
                    else
                      runs_edges_Or_1_l0 k y161.1 y161.2.1 y161.2.2.1 y166 y161.2.2.2.2.2.2.2 y161.2.2.2.2.2.1 y161.2.2.2.2.2.2.1
                else none
              else none
            else
              (runs_edges_Or_1_l1 k p5_0 p5_1 p5_2 p5_3 p5_4 p5_5 p5_6 v155).bind fun y173 =>
              (runs_edges_Or_1_l2 k y173.1 y173.2.1 y173.2.2.1 y173.2.2.2.1 y173.2.2.2.2.1 y173.2.2.2.2.2.1 y173.2.2.2.2.2.2.1 y173.2.2.2.2.2.2.2).bind fun y174 =>
              (runs_Or_1 k (decide ((y174.2.2.2.2.2.1.tmod 2) = 1)) (decide ((y174.2.2.2.2.2.2.1.tmod 2) = 1))).bind fun y179 =>
              bif (y179 == y174.2.2.2.1) then
                runs_edges_Or_1_l0 k y174.1 y174.2.1 y174.2.2.1 y174.2.2.2.1 y174.2.2.2.2.1 y174.2.2.2.2.2.1 y174.2.2.2.2.2.2.1
              else
                bif y174.2.2.2.1 then
                  let v181 := IntKind.wrap .u16 y174.2.2.2.2.1
                  let v183 := IntKind.wrap .i64 ((IntKind.wrap .i64 (y174.2.2.2.2.2.2.2 - y174.2.2.2.2.1)) - 1)
                  bif decide ((List.length y174.1 + List.length [(v181, (IntKind.wrap .u16 v183))]) * 4 ≤ 140737488355328) then
                    bif decide (List.length y174.1 + List.length [(v181, (IntKind.wrap .u16 v183))] ≤ 140737488355328) then
                      runs_edges_Or_1_l0 k (y174.1 ++ [(v181, (IntKind.wrap .u16 v183))]) y174.2.1 y174.2.2.1 y179 y174.2.2.2.2.2.2.2 y174.2.2.2.2.2.1 y174.2.2.2.2.2.2.1
                    else none
                  else none
                else
                  runs_edges_Or_1_l0 k y174.1 y174.2.1 y174.2.2.1 y179 y174.2.2.2.2.2.2.2 y174.2.2.2.2.2.1 y174.2.2.2.2.2.2.1
          else none
        else none
      else
        bif (decide (p5_6 < (p5_2.length : Int))) then
          bif decide ((0 : Int) ≤ p5_6) then
            bif decide (p5_6 < (p5_2.length : Int)) then
              (runs_edges_Or_1_l1 k p5_0 p5_1 p5_2 p5_3 p5_4 p5_5 p5_6 (min 65537 (p5_2.getD (Int.toNat p5_6) (0 : Int)))).bind fun y190 =>
              (runs_edges_Or_1_l2 k y190.1 y190.2.1 y190.2.2.1 y190.2.2.2.1 y190.2.2.2.2.1 y190.2.2.2.2.2.1 y190.2.2.2.2.2.2.1 y190.2.2.2.2.2.2.2).bind fun y191 =>
              (runs_Or_1 k (decide ((y191.2.2.2.2.2.1.tmod 2) = 1)) (decide ((y191.2.2.2.2.2.2.1.tmod 2) = 1))).bind fun y196 =>
              bif (y196 == y191.2.2.2.1) then
                runs_edges_Or_1_l0 k y191.1 y191.2.1 y191.2.2.1 y191.2.2.2.1 y191.2.2.2.2.1 y191.2.2.2.2.2.1 y191.2.2.2.2.2.2.1
              else
                bif y191.2.2.2.1 then
                  let v198 := IntKind.wrap .u16 y191.2.2.2.2.1
                  let v200 := IntKind.wrap .i64 ((IntKind.wrap .i64 (y191.2.2.2.2.2.2.2 - y191.2.2.2.2.1)) - 1)
                  bif decide ((List.length y191.1 + List.length [(v198, (IntKind.wrap .u16 v200))]) * 4 ≤ 140737488355328) then
                    bif decide (List.length y191.1 + List.length [(v198, (IntKind.wrap .u16 v200))] ≤ 140737488355328) then
                      runs_edges_Or_1_l0 k (y191.1 ++ [(v198, (IntKind.wrap .u16 v200))]) y191.2.1 y191.2.2.1 y196 y191.2.2.2.2.2.2.2 y191.2.2.2.2.2.1 y191.2.2.2.2.2.2.1
                    else none
                  else none
                else
                  runs_edges_Or_1_l0 k y191.1 y191.2.1 y191.2.2.1 y196 y191.2.2.2.2.2.2.2 y191.2.2.2.2.2.1 y191.2.2.2.2.2.2.1
            else none
          else none
        else
          (runs_edges_Or_1_l1 k p5_0 p5_1 p5_2 p5_3 p5_4 p5_5 p5_6 65537).bind fun y203 =>
          (runs_edges_Or_1_l2 k y203.1 y203.2.1 y203.2.2.1 y203.2.2.2.1 y203.2.2.2.2.1 y203.2.2.2.2.2.1 y203.2.2.2.2.2.2.1 y203.2.2.2.2.2.2.2).bind fun y204 =>
          (runs_Or_1 k (decide ((y204.2.2.2.2.2.1.tmod 2) = 1)) (decide ((y204.2.2.2.2.2.2.1.tmod 2) = 1))).bind fun y209 =>
          bif (y209 == y204.2.2.2.1) then
            runs_edges_Or_1_l0 k y204.1 y204.2.1 y204.2.2.1 y204.2.2.2.1 y204.2.2.2.2.1 y204.2.2.2.2.2.1 y204.2.2.2.2.2.2.1
          else
            bif y204.2.2.2.1 then
              let v211 := IntKind.wrap .u16 y204.2.2.2.2.1
              let v213 := IntKind.wrap .i64 ((IntKind.wrap .i64 (y204.2.2.2.2.2.2.2 - y204.2.2.2.2.1)) - 1)
              bif decide ((List.length y204.1 + List.length [(v211, (IntKind.wrap .u16 v213))]) * 4 ≤ 140737488355328) then
                bif decide (List.length y204.1 + List.length [(v211, (IntKind.wrap .u16 v213))] ≤ 140737488355328) then
                  runs_edges_Or_1_l0 k (y204.1 ++ [(v211, (IntKind.wrap .u16 v213))]) y204.2.1 y204.2.2.1 y209 y204.2.2.2.2.2.2.2 y204.2.2.2.2.2.1 y204.2.2.2.2.2.2.1
                else none
              else none
            else
              runs_edges_Or_1_l0 k y204.1 y204.2.1 y204.2.2.1 y209 y204.2.2.2.2.2.2.2 y204.2.2.2.2.2.1 y204.2.2.2.2.2.2.1
    else
      bif (decide (p5_6 < (p5_2.length : Int))) then
        bif (decide (p5_5 < (p5_1.length : Int))) then
          bif decide ((0 : Int) ≤ p5_5) then
            bif decide (p5_5 < (p5_1.length : Int)) then
              let v220 := p5_1.getD (Int.toNat p5_5) (0 : Int)
              bif (decide (p5_6 < (p5_2.length : Int))) then
                bif decide ((0 : Int) ≤ p5_6) then
                  bif decide (p5_6 < (p5_2.length : Int)) then
                    (runs_edges_Or_1_l1 k p5_0 p5_1 p5_2 p5_3 p5_4 p5_5 p5_6 (min v220 (p5_2.getD (Int.toNat p5_6) (0 : Int)))).bind fun y225 =>
                    (runs_edges_Or_1_l2 k y225.1 y225.2.1 y225.2.2.1 y225.2.2.2.1 y225.2.2.2.2.1 y225.2.2.2.2.2.1 y225.2.2.2.2.2.2.1 y225.2.2.2.2.2.2.2).bind fun y226 =>
                    (runs_Or_1 k (decide ((y226.2.2.2.2.2.1.tmod 2) = 1)) (decide ((y226.2.2.2.2.2.2.1.tmod 2) = 1))).bind fun y231 =>
                    bif (y231 == y226.2.2.2.1) then
                      runs_edges_Or_1_l0 k y226.1 y226.2.1 y226.2.2.1 y226.2.2.2.1 y226.2.2.2.2.1 y226.2.2.2.2.2.1 y226.2.2.2.2.2.2.1
                    else
                      bif y226.2.2.2.1 then
                        let v233 := IntKind.wrap .u16 y226.2.2.2.2.1
                        let v235 := IntKind.wrap .i64 ((IntKind.wrap .i64 (y226.2.2.2.2.2.2.2 - y226.2.2.2.2.1)) - 1)
                        bif decide ((List.length y226.1 + List.length [(v233, (IntKind.wrap .u16 v235))]) * 4 ≤ 140737488355328) then
                          bif decide (List.length y226.1 + List.length [(v233, (IntKind.wrap .u16 v235))] ≤ 140737488355328) then
                            runs_edges_Or_1_l0 k (y226.1 ++ [(v233, (IntKind.wrap .u16 v235))]) y226.2.1 y226.2.2.1 y231 y226.2.2.2.2.2.2.2 y226.2.2.2.2.2.1 y226.2.2.2.2.2.2.1
                          else none
                        else none
                      else
                        runs_edges_Or_1_l0 k y226.1 y226.2.1 y226.2.2.1 y231 y226.2.2.2.2.2.2.2 y226.2.2.2.2.2.1 y226.2.2.2.2.2.2.1
                  else none
                else none
              else
                (runs_edges_Or_1_l1 k p5_0 p5_1 p5_2 p5_3 p5_4 p5_5 p5_6 v220).bind fun y238 =>
                (runs_edges_Or_1_l2 k y238.1 y238.2.1 y238.2.2.1 y238.2.2.2.1 y238.2.2.2.2.1 y238.2.2.2.2.2.1 y238.2.2.2.2.2.2.1 y238.2.2.2.2.2.2.2).bind fun y239 =>
                (runs_Or_1 k (decide ((y239.2.2.2.2.2.1.tmod 2) = 1)) (decide ((y239.2.2.2.2.2.2.1.tmod 2) = 1))).bind fun y244 =>
                bif (y244 == y239.2.2.2.1) then
                  runs_edges_Or_1_l0 k y239.1 y239.2.1 y239.2.2.1 y239.2.2.2.1 y239.2.2.2.2.1 y239.2.2.2.2.2.1 y239.2.2.2.2.2.2.1
                else
                  bif y239.2.2.2.1 then
                    let v246 := IntKind.wrap .u16 y239.2.2.2.2.1
                    let v248 := IntKind.wrap .i64 ((IntKind.wrap .i64 (y239.2.2.2.2.2.2.2 - y239.2.2.2.2.1)) - 1)
                    bif decide ((List.length y239.1 + List.length [(v246, (IntKind.wrap .u16 v248))]) * 4 ≤ 140737488355328) then
                      bif decide (List.length y239.1 + List.length [(v246, (IntKind.wrap .u16 v248))] ≤ 140737488355328) then
                        runs_edges_Or_1_l0 k (y239.1 ++ [(v246, (IntKind.wrap .u16 v248))]) y239.2.1 y239.2.2.1 y244 y239.2.2.2.2.2.2.2 y239.2.2.2.2.2.1 y239.2.2.2.2.2.2.1
                      else none
                    else none
                  else
                    runs_edges_Or_1_l0 k y239.1 y239.2.1 y239.2.2.1 y244 y239.2.2.2.2.2.2.2 y239.2.2.2.2.2.1 y239.2.2.2.2.2.2.1
            else none
          else none
        else
          bif (decide (p5_6 < (p5_2.length : Int))) then
            bif decide ((0 : Int) ≤ p5_6) then
              bif decide (p5_6 < (p5_2.length : Int)) then
                (runs_edges_Or_1_l1 k p5_0 p5_1 p5_2 p5_3 p5_4 p5_5 p5_6 (min 65537 (p5_2.getD (Int.toNat p5_6) (0 : Int)))).bind fun y255 =>
                (runs_edges_Or_1_l2 k y255.1 y255.2.1 y255.2.2.1 y255.2.2.2.1 y255.2.2.2.2.1 y255.2.2.2.2.2.1 y255.2.2.2.2.2.2.1 y255.2.2.2.2.2.2.2).bind fun y256 =>
                (runs_Or_1 k (decide ((y256.2.2.2.2.2.1.tmod 2) = 1)) (decide ((y256.2.2.2.2.2.2.1.tmod 2) = 1))).bind fun y261 =>
                bif (y261 == y256.2.2.2.1) then
                  runs_edges_Or_1_l0 k y256.1 y256.2.1 y256.2.2.1 y256.2.2.2.1 y256.2.2.2.2.1 y256.2.2.2.2.2.1 y256.2.2.2.2.2.2.1
                else
                  bif y256.2.2.2.1 then
                    let v263 := IntKind.wrap .u16 y256.2.2.2.2.1
                    let v265 := IntKind.wrap .i64 ((IntKind.wrap .i64 (y256.2.2.2.2.2.2.2 - y256.2.2.2.2.1)) - 1)
                    bif decide ((List.length y256.1 + List.length [(v263, (IntKind.wrap .u16 v265))]) * 4 ≤ 140737488355328) then
                      bif decide (List.length y256.1 + List.length [(v263, (IntKind.wrap .u16 v265))] ≤ 140737488355328) then
                        runs_edges_Or_1_l0 k (y256.1 ++ [(v263, (IntKind.wrap .u16 v265))]) y256.2.1 y256.2.2.1 y261 y256.2.2.2.2.2.2.2 y256.2.2.2.2.2.1 y256.2.2.2.2.2.2.1
                      else none
                    else none
                  else
                    runs_edges_Or_1_l0 k y256.1 y256.2.1 y256.2.2.1 y261 y256.2.2.2.2.2.2.2 y256.2.2.2.2.2.1 y256.2.2.2.2.2.2.1
              else none
            else none
          else
            (runs_edges_Or_1_l1 k p5_0 p5_1 p5_2 p5_3 p5_4 p5_5 p5_6 65537).bind fun y268 =>
            (runs_edges_Or_1_l2 k y268.1 y268.2.1 y268.2.2.1 y268.2.2.2.1 y268.2.2.2.2.1 y268.2.2.2.2.2.1 y268.2.2.2.2.2.2.1 y268.2.2.2.2.2.2.2).bind fun y269 =>
            (runs_Or_1 k (decide ((y269.2.2.2.2.2.1.tmod 2) = 1)) (decide ((y269.2.2.2.2.2.2.1.tmod 2) = 1))).bind fun y274 =>
            bif (y274 == y269.2.2.2.1) then
              runs_edges_Or_1_l0 k y269.1 y269.2.1 y269.2.2.1 y269.2.2.2.1 y269.2.2.2.2.1 y269.2.2.2.2.2.1 y269.2.2.2.2.2.2.1
            else
              bif y269.2.2.2.1 then
                let v276 := IntKind.wrap .u16 y269.2.2.2.2.1
                let v278 := IntKind.wrap .i64 ((IntKind.wrap .i64 (y269.2.2.2.2.2.2.2 - y269.2.2.2.2.1)) - 1)
                bif decide ((List.length y269.1 + List.length [(v276, (IntKind.wrap .u16 v278))]) * 4 ≤ 140737488355328) then
                  bif decide (List.length y269.1 + List.length [(v276, (IntKind.wrap .u16 v278))] ≤ 140737488355328) then
                    runs_edges_Or_1_l0 k (y269.1 ++ [(v276, (IntKind.wrap .u16 v278))]) y269.2.1 y269.2.2.1 y274 y269.2.2.2.2.2.2.2 y269.2.2.2.2.2.1 y269.2.2.2.2.2.2.1
                  else none
                else none
              else
                runs_edges_Or_1_l0 k y269.1 y269.2.1 y269.2.2.1 y274 y269.2.2.2.2.2.2.2 y269.2.2.2.2.2.1 y269.2.2.2.2.2.2.1
      else
        some p5_0
def runs_edges_Or_1 (k : Nat) (a0 : (List Int)) (a1 : (List Int)) : Option ((List (Int × Int))) :=
  (runs_edges_Or_1_l0 k [] a0 a1 false 0 0 0).bind fun y281 =>
  some y281

def runs_Or (k : Nat) (a0 : (List (Int × Int))) (a1 : (List (Int × Int))) : Option ((List (Int × Int))) :=
  (runs_row k a0).bind fun y1 =>
  (runs_row k a1).bind fun y2 =>
  (runs_edges_Or_1 k y1 y2).bind fun y3 =>
  some y3

def isinglasslaw06_RunsTouch (k : Nat) (a0 : Int) (a1 : Int) (a2 : Int) : Option (Bool) :=
  let v4 := IntKind.wrap .i64 ((IntKind.wrap .i64 ((IntKind.wrap .i64 a0) + (IntKind.wrap .i64 a1))) + 1)
  bif (decide ((65536 : Int) ≤ (IntKind.wrap .i64 ((IntKind.wrap .i64 (v4 + 1)) + (IntKind.wrap .i64 a2))))) then
    (isinglasslaw06_known k).bind fun y9 =>
    some y9
  else
    let v11 := IntKind.wrap .i64 (v4 + 1)
    (runs_Or k [(a0, a1)] [((IntKind.wrap .u16 v4), a2)]).bind fun y13 =>
    (runs_Or k [((IntKind.wrap .u16 v11), a2)] [(a0, a1)]).bind fun y14 =>
    bif (decide ((y13.length : Int) = 1)) then
      bif decide ((0 : Int) < (y13.length : Int)) then
        let v17 := y13.getD (Int.toNat 0) ((0 : Int), (0 : Int))
        bif (decide (v17.1 = a0) && (decide (v17.2 = (IntKind.wrap .u16 ((IntKind.wrap .u16 (a1 + a2)) + 1))))) then
          bif (decide ((y14.length : Int) = 2)) then
            bif decide ((0 : Int) < (y14.length : Int)) then
              let v23 := y14.getD (Int.toNat 0) ((0 : Int), (0 : Int))
              bif decide ((0 : Int) < ([(a0, a1)].length : Int)) then
                let v24 := [(a0, a1)].getD (Int.toNat 0) ((0 : Int), (0 : Int))
                bif (decide (v23.1 = v24.1) && (decide (v23.2 = v24.2))) then
                  bif decide ((1 : Int) < (y14.length : Int)) then
                    let v26 := y14.getD (Int.toNat 1) ((0 : Int), (0 : Int))
                    bif decide ((0 : Int) < ([((IntKind.wrap .u16 v11), a2)].length : Int)) then
                      let v27 := [((IntKind.wrap .u16 v11), a2)].getD (Int.toNat 0) ((0 : Int), (0 : Int))
                      bif (decide (v26.1 = v27.1) && (decide (v26.2 = v27.2))) then
                        (runs_May k y14).bind fun y29 =>
                        bif y29 then
                          bif decide ((0 : Int) < ([(a0, a1)].length : Int)) then
                            bif decide ((0 : Int) < ([((IntKind.wrap .u16 v4), a2)].length : Int)) then
                              (runs_May k [([(a0, a1)].getD (Int.toNat 0) ((0 : Int), (0 : Int))), ([((IntKind.wrap .u16 v4), a2)].getD (Int.toNat 0) ((0 : Int), (0 : Int)))]).bind fun y32 =>
                              bif !y32 then
                                (isinglasslaw06_known k).bind fun y33 =>
                                some y33
                              else
                                some false
                            else none
                          else none
                        else
                          some false
                      else
                        some false
                    else none
                  else none
                else
                  some false
              else none
            else none
          else
            some false
        else
          some false
      else none
    else
      some false

def runs_AndNot_1 (k : Nat) (a0 : Bool) (a1 : Bool) : Option (Bool) :=
  bif a0 then
    some (!a1)
  else
    some false

def runs_edges_AndNot_1_l1 : Nat → (List (Int × Int)) → (List Int) → (List Int) → Bool → Int → Int → Int → Int → Option ((List (Int × Int)) × (List Int) × (List Int) × Bool × Int × Int × Int × Int)
  | 0, _, _, _, _, _, _, _, _ => none
  | k + 1, p11_0, p11_1, p11_2, p11_3, p11_4, p11_5, p11_6, p11_7 =>
    bif (decide (p11_5 < (p11_1.length : Int))) then
      bif decide ((0 : Int) ≤ p11_5) then
        bif decide (p11_5 < (p11_1.length : Int)) then
          bif (decide ((p11_1.getD (Int.toNat p11_5) (0 : Int)) ≤ p11_7)) then
            runs_edges_AndNot_1_l1 k p11_0 p11_1 p11_2 p11_3 p11_4 (IntKind.wrap .i64 (p11_5 + 1)) p11_6 p11_7
          else
            some (p11_0, p11_1, p11_2, p11_3, p11_4, p11_5, p11_6, p11_7)
        else none
      else none
    else
      some (p11_0, p11_1, p11_2, p11_3, p11_4, p11_5, p11_6, p11_7)
def runs_edges_AndNot_1_l2 : Nat → (List (Int × Int)) → (List Int) → (List Int) → Bool → Int → Int → Int → Int → Option ((List (Int × Int)) × (List Int) × (List Int) × Bool × Int × Int × Int × Int)
  | 0, _, _, _, _, _, _, _, _ => none
  | k + 1, p13_0, p13_1, p13_2, p13_3, p13_4, p13_5, p13_6, p13_7 =>
    bif (decide (p13_6 < (p13_2.length : Int))) then
      bif decide ((0 : Int) ≤ p13_6) then
        bif decide (p13_6 < (p13_2.length : Int)) then
          bif (decide ((p13_2.getD (Int.toNat p13_6) (0 : Int)) ≤ p13_7)) then
            runs_edges_AndNot_1_l2 k p13_0 p13_1 p13_2 p13_3 p13_4 p13_5 (IntKind.wrap .i64 (p13_6 + 1)) p13_7
          else
            some (p13_0, p13_1, p13_2, p13_3, p13_4, p13_5, p13_6, p13_7)
        else none
      else none
    else
      some (p13_0, p13_1, p13_2, p13_3, p13_4, p13_5, p13_6, p13_7)
def runs_edges_AndNot_1_l0 : Nat → (List (Int × Int)) → (List Int) → (List Int) → Bool → Int → Int → Int → Option ((List (Int × Int)))
  | 0, _, _, _, _, _, _, _ => none
  | k + 1, p5_0, p5_1, p5_2, p5_3, p5_4, p5_5, p5_6 =>
    bif (decide (p5_5 < (p5_1.length : Int))) then
      bif (decide (p5_5 < (p5_1.length : Int))) then
        bif decide ((0 : Int) ≤ p5_5) then
          bif decide (p5_5 < (p5_1.length : Int)) then
            let v155 := p5_1.getD (Int.toNat p5_5) (0 : Int)
            bif (decide (p5_6 < (p5_2.length : Int))) then
              bif decide ((0 : Int) ≤ p5_6) then
                bif decide (p5_6 < (p5_2.length : Int)) then
                  (runs_edges_AndNot_1_l1 k p5_0 p5_1 p5_2 p5_3 p5_4 p5_5 p5_6 (min v155 (p5_2.getD (Int.toNat p5_6) (0 : Int)))).bind fun y160 =>
                  (runs_edges_AndNot_1_l2 k y160.1 y160.2.1 y160.2.2.1 y160.2.2.2.1 y160.2.2.2.2.1 y160.2.2.2.2.2.1 y160.2.2.2.2.2.2.1 y160.2.2.2.2.2.2.2).bind fun y161 =>
                  (runs_AndNot_1 k (decide ((y161.2.2.2.2.2.1.tmod 2) = 1)) (decide ((y161.2.2.2.2.2.2.1.tmod 2) = 1))).bind fun y166 =>
                  bif (y166 == y161.2.2.2.1) then
                    runs_edges_AndNot_1_l0 k y161.1 y161.2.1 y161.2.2.1 y161.2.2.2.1 y161.2.2.2.2.1 y161.2.2.2.2.2.1 y161.2.2.2.2.2.2.1
                  else
                    bif y161.2.2.2.1 then
                      let v168 := IntKind.wrap .u16 y161.2.2.2.2.1
                      let v170 := IntKind.wrap .i64 ((IntKind.wrap .i64 (y161.2.2.2.2.2.2.2 - y161.2.2.2.2.1)) - 1)
                      bif decide ((List.length y161.1 + List.length [(v168, (IntKind.wrap .u16 v170))]) * 4 ≤ 140737488355328) then
                        bif decide (List.length y161.1 + List.length [(v168, (IntKind.wrap .u16 v170))] ≤ 140737488355328) then
                          runs_edges_AndNot_1_l0 k (y161.1 ++ [(v168, (IntKind.wrap .u16 v170))]) y161.2.1 y161.2.2.1 y166 y161.2.2.2.2.2.2.2 y161.2.2.2.2.2.1 y161.2.2.2.2.2.2.1
                        else none
                      else none
                    else
                      runs_edges_AndNot_1_l0 k y161.1 y161.2.1 y161.2.2.1 y166 y161.2.2.2.2.2.2.2 y161.2.2.2.2.2.1 y161.2.2.2.2.2.2.1
                else none
              else none
            else
              (runs_edges_AndNot_1_l1 k p5_0 p5_1 p5_2 p5_3 p5_4 p5_5 p5_6 v155).bind fun y173 =>
              (runs_edges_AndNot_1_l2 k y173.1 y173.2.1 y173.2.2.1 y173.2.2.2.1 y173.2.2.2.2.1 y173.2.2.2.2.2.1 y173.2.2.2.2.2.2.1 y173.2.2.2.2.2.2.2).bind fun y174 =>
              (runs_AndNot_1 k (decide ((y174.2.2.2.2.2.1.tmod 2) = 1)) (decide ((y174.2.2.2.2.2.2.1.tmod 2) = 1))).bind fun y179 =>
              bif (y179 == y174.2.2.2.1) then
                runs_edges_AndNot_1_l0 k y174.1 y174.2.1 y174.2.2.1 y174.2.2.2.1 y174.2.2.2.2.1 y174.2.2.2.2.2.1 y174.2.2.2.2.2.2.1
              else
                bif y174.2.2.2.1 then
                  let v181 := IntKind.wrap .u16 y174.2.2.2.2.1
                  let v183 := IntKind.wrap .i64 ((IntKind.wrap .i64 (y174.2.2.2.2.2.2.2 - y174.2.2.2.2.1)) - 1)
                  bif decide ((List.length y174.1 + List.length [(v181, (IntKind.wrap .u16 v183))]) * 4 ≤ 140737488355328) then
                    bif decide (List.length y174.1 + List.length [(v181, (IntKind.wrap .u16 v183))] ≤ 140737488355328) then
                      runs_edges_AndNot_1_l0 k (y174.1 ++ [(v181, (IntKind.wrap .u16 v183))]) y174.2.1 y174.2.2.1 y179 y174.2.2.2.2.2.2.2 y174.2.2.2.2.2.1 y174.2.2.2.2.2.2.1
                    else none
                  else none
                else
                  runs_edges_AndNot_1_l0 k y174.1 y174.2.1 y174.2.2.1 y179 y174.2.2.2.2.2.2.2 y174.2.2.2.2.2.1 y174.2.2.2.2.2.2.1
          else none
        else none
      else
        bif (decide (p5_6 < (p5_2.length : Int))) then
          bif decide ((0 : Int) ≤ p5_6) then
            bif decide (p5_6 < (p5_2.length : Int)) then
              (runs_edges_AndNot_1_l1 k p5_0 p5_1 p5_2 p5_3 p5_4 p5_5 p5_6 (min 65537 (p5_2.getD (Int.toNat p5_6) (0 : Int)))).bind fun y190 =>
              (runs_edges_AndNot_1_l2 k y190.1 y190.2.1 y190.2.2.1 y190.2.2.2.1 y190.2.2.2.2.1 y190.2.2.2.2.2.1 y190.2.2.2.2.2.2.1 y190.2.2.2.2.2.2.2).bind fun y191 =>
              (runs_AndNot_1 k (decide ((y191.2.2.2.2.2.1.tmod 2) = 1)) (decide ((y191.2.2.2.2.2.2.1.tmod 2) = 1))).bind fun y196 =>
              bif (y196 == y191.2.2.2.1) then
                runs_edges_AndNot_1_l0 k y191.1 y191.2.1 y191.2.2.1 y191.2.2.2.1 y191.2.2.2.2.1 y191.2.2.2.2.2.1 y191.2.2.2.2.2.2.1
              else
                bif y191.2.2.2.1 then
                  let v198 := IntKind.wrap .u16 y191.2.2.2.2.1
                  let v200 := IntKind.wrap .i64 ((IntKind.wrap .i64 (y191.2.2.2.2.2.2.2 - y191.2.2.2.2.1)) - 1)
                  bif decide ((List.length y191.1 + List.length [(v198, (IntKind.wrap .u16 v200))]) * 4 ≤ 140737488355328) then
                    bif decide (List.length y191.1 + List.length [(v198, (IntKind.wrap .u16 v200))] ≤ 140737488355328) then
                      runs_edges_AndNot_1_l0 k (y191.1 ++ [(v198, (IntKind.wrap .u16 v200))]) y191.2.1 y191.2.2.1 y196 y191.2.2.2.2.2.2.2 y191.2.2.2.2.2.1 y191.2.2.2.2.2.2.1
                    else none
                  else none
                else
                  runs_edges_AndNot_1_l0 k y191.1 y191.2.1 y191.2.2.1 y196 y191.2.2.2.2.2.2.2 y191.2.2.2.2.2.1 y191.2.2.2.2.2.2.1
            else none
          else none
        else
          (runs_edges_AndNot_1_l1 k p5_0 p5_1 p5_2 p5_3 p5_4 p5_5 p5_6 65537).bind fun y203 =>
          (runs_edges_AndNot_1_l2 k y203.1 y203.2.1 y203.2.2.1 y203.2.2.2.1 y203.2.2.2.2.1 y203.2.2.2.2.2.1 y203.2.2.2.2.2.2.1 y203.2.2.2.2.2.2.2).bind fun y204 =>
          (runs_AndNot_1 k (decide ((y204.2.2.2.2.2.1.tmod 2) = 1)) (decide ((y204.2.2.2.2.2.2.1.tmod 2) = 1))).bind fun y209 =>
          bif (y209 == y204.2.2.2.1) then
            runs_edges_AndNot_1_l0 k y204.1 y204.2.1 y204.2.2.1 y204.2.2.2.1 y204.2.2.2.2.1 y204.2.2.2.2.2.1 y204.2.2.2.2.2.2.1
          else
            bif y204.2.2.2.1 then
              let v211 := IntKind.wrap .u16 y204.2.2.2.2.1
              let v213 := IntKind.wrap .i64 ((IntKind.wrap .i64 (y204.2.2.2.2.2.2.2 - y204.2.2.2.2.1)) - 1)
              bif decide ((List.length y204.1 + List.length [(v211, (IntKind.wrap .u16 v213))]) * 4 ≤ 140737488355328) then
                bif decide (List.length y204.1 + List.length [(v211, (IntKind.wrap .u16 v213))] ≤ 140737488355328) then
                  runs_edges_AndNot_1_l0 k (y204.1 ++ [(v211, (IntKind.wrap .u16 v213))]) y204.2.1 y204.2.2.1 y209 y204.2.2.2.2.2.2.2 y204.2.2.2.2.2.1 y204.2.2.2.2.2.2.1
                else none
              else none
            else
              runs_edges_AndNot_1_l0 k y204.1 y204.2.1 y204.2.2.1 y209 y204.2.2.2.2.2.2.2 y204.2.2.2.2.2.1 y204.2.2.2.2.2.2.1
    else
      bif (decide (p5_6 < (p5_2.length : Int))) then
        bif (decide (p5_5 < (p5_1.length : Int))) then
          bif decide ((0 : Int) ≤ p5_5) then
            bif decide (p5_5 < (p5_1.length : Int)) then
              let v220 := p5_1.getD (Int.toNat p5_5) (0 : Int)
              bif (decide (p5_6 < (p5_2.length : Int))) then
                bif decide ((0 : Int) ≤ p5_6) then
                  bif decide (p5_6 < (p5_2.length : Int)) then
                    (runs_edges_AndNot_1_l1 k p5_0 p5_1 p5_2 p5_3 p5_4 p5_5 p5_6 (min v220 (p5_2.getD (Int.toNat p5_6) (0 : Int)))).bind fun y225 =>
                    (runs_edges_AndNot_1_l2 k y225.1 y225.2.1 y225.2.2.1 y225.2.2.2.1 y225.2.2.2.2.1 y225.2.2.2.2.2.1 y225.2.2.2.2.2.2.1 y225.2.2.2.2.2.2.2).bind fun y226 =>
                    (runs_AndNot_1 k (decide ((y226.2.2.2.2.2.1.tmod 2) = 1)) (decide ((y226.2.2.2.2.2.2.1.tmod 2) = 1))).bind fun y231 =>
                    bif (y231 == y226.2.2.2.1) then
                      runs_edges_AndNot_1_l0 k y226.1 y226.2.1 y226.2.2.1 y226.2.2.2.1 y226.2.2.2.2.1 y226.2.2.2.2.2.1 y226.2.2.2.2.2.2.1
                    else
                      bif y226.2.2.2.1 then
                        let v233 := IntKind.wrap .u16 y226.2.2.2.2.1
                        let v235 := IntKind.wrap .i64 ((IntKind.wrap .i64 (y226.2.2.2.2.2.2.2 - y226.2.2.2.2.1)) - 1)
                        bif decide ((List.length y226.1 + List.length [(v233, (IntKind.wrap .u16 v235))]) * 4 ≤ 140737488355328) then
                          bif decide (List.length y226.1 + List.length [(v233, (IntKind.wrap .u16 v235))] ≤ 140737488355328) then
                            runs_edges_AndNot_1_l0 k (y226.1 ++ [(v233, (IntKind.wrap .u16 v235))]) y226.2.1 y226.2.2.1 y231 y226.2.2.2.2.2.2.2 y226.2.2.2.2.2.1 y226.2.2.2.2.2.2.1
                          else none
                        else none
                      else
                        runs_edges_AndNot_1_l0 k y226.1 y226.2.1 y226.2.2.1 y231 y226.2.2.2.2.2.2.2 y226.2.2.2.2.2.1 y226.2.2.2.2.2.2.1
                  else none
                else none
              else
                (runs_edges_AndNot_1_l1 k p5_0 p5_1 p5_2 p5_3 p5_4 p5_5 p5_6 v220).bind fun y238 =>
                (runs_edges_AndNot_1_l2 k y238.1 y238.2.1 y238.2.2.1 y238.2.2.2.1 y238.2.2.2.2.1 y238.2.2.2.2.2.1 y238.2.2.2.2.2.2.1 y238.2.2.2.2.2.2.2).bind fun y239 =>
                (runs_AndNot_1 k (decide ((y239.2.2.2.2.2.1.tmod 2) = 1)) (decide ((y239.2.2.2.2.2.2.1.tmod 2) = 1))).bind fun y244 =>
                bif (y244 == y239.2.2.2.1) then
                  runs_edges_AndNot_1_l0 k y239.1 y239.2.1 y239.2.2.1 y239.2.2.2.1 y239.2.2.2.2.1 y239.2.2.2.2.2.1 y239.2.2.2.2.2.2.1
                else
                  bif y239.2.2.2.1 then
                    let v246 := IntKind.wrap .u16 y239.2.2.2.2.1
                    let v248 := IntKind.wrap .i64 ((IntKind.wrap .i64 (y239.2.2.2.2.2.2.2 - y239.2.2.2.2.1)) - 1)
                    bif decide ((List.length y239.1 + List.length [(v246, (IntKind.wrap .u16 v248))]) * 4 ≤ 140737488355328) then
                      bif decide (List.length y239.1 + List.length [(v246, (IntKind.wrap .u16 v248))] ≤ 140737488355328) then
                        runs_edges_AndNot_1_l0 k (y239.1 ++ [(v246, (IntKind.wrap .u16 v248))]) y239.2.1 y239.2.2.1 y244 y239.2.2.2.2.2.2.2 y239.2.2.2.2.2.1 y239.2.2.2.2.2.2.1
                      else none
                    else none
                  else
                    runs_edges_AndNot_1_l0 k y239.1 y239.2.1 y239.2.2.1 y244 y239.2.2.2.2.2.2.2 y239.2.2.2.2.2.1 y239.2.2.2.2.2.2.1
            else none
          else none
        else
          bif (decide (p5_6 < (p5_2.length : Int))) then
            bif decide ((0 : Int) ≤ p5_6) then
              bif decide (p5_6 < (p5_2.length : Int)) then
                (runs_edges_AndNot_1_l1 k p5_0 p5_1 p5_2 p5_3 p5_4 p5_5 p5_6 (min 65537 (p5_2.getD (Int.toNat p5_6) (0 : Int)))).bind fun y255 =>
                (runs_edges_AndNot_1_l2 k y255.1 y255.2.1 y255.2.2.1 y255.2.2.2.1 y255.2.2.2.2.1 y255.2.2.2.2.2.1 y255.2.2.2.2.2.2.1 y255.2.2.2.2.2.2.2).bind fun y256 =>
                (runs_AndNot_1 k (decide ((y256.2.2.2.2.2.1.tmod 2) = 1)) (decide ((y256.2.2.2.2.2.2.1.tmod 2) = 1))).bind fun y261 =>
                bif (y261 == y256.2.2.2.1) then
                  runs_edges_AndNot_1_l0 k y256.1 y256.2.1 y256.2.2.1 y256.2.2.2.1 y256.2.2.2.2.1 y256.2.2.2.2.2.1 y256.2.2.2.2.2.2.1
                else
                  bif y256.2.2.2.1 then
                    let v263 := IntKind.wrap .u16 y256.2.2.2.2.1
                    let v265 := IntKind.wrap .i64 ((IntKind.wrap .i64 (y256.2.2.2.2.2.2.2 - y256.2.2.2.2.1)) - 1)
                    bif decide ((List.length y256.1 + List.length [(v263, (IntKind.wrap .u16 v265))]) * 4 ≤ 140737488355328) then
                      bif decide (List.length y256.1 + List.length [(v263, (IntKind.wrap .u16 v265))] ≤ 140737488355328) then
                        runs_edges_AndNot_1_l0 k (y256.1 ++ [(v263, (IntKind.wrap .u16 v265))]) y256.2.1 y256.2.2.1 y261 y256.2.2.2.2.2.2.2 y256.2.2.2.2.2.1 y256.2.2.2.2.2.2.1
                      else none
                    else none
                  else
                    runs_edges_AndNot_1_l0 k y256.1 y256.2.1 y256.2.2.1 y261 y256.2.2.2.2.2.2.2 y256.2.2.2.2.2.1 y256.2.2.2.2.2.2.1
              else none
            else none
          else
            (runs_edges_AndNot_1_l1 k p5_0 p5_1 p5_2 p5_3 p5_4 p5_5 p5_6 65537).bind fun y268 =>
            (runs_edges_AndNot_1_l2 k y268.1 y268.2.1 y268.2.2.1 y268.2.2.2.1 y268.2.2.2.2.1 y268.2.2.2.2.2.1 y268.2.2.2.2.2.2.1 y268.2.2.2.2.2.2.2).bind fun y269 =>
            (runs_AndNot_1 k (decide ((y269.2.2.2.2.2.1.tmod 2) = 1)) (decide ((y269.2.2.2.2.2.2.1.tmod 2) = 1))).bind fun y274 =>
            bif (y274 == y269.2.2.2.1) then
              runs_edges_AndNot_1_l0 k y269.1 y269.2.1 y269.2.2.1 y269.2.2.2.1 y269.2.2.2.2.1 y269.2.2.2.2.2.1 y269.2.2.2.2.2.2.1
            else
              bif y269.2.2.2.1 then
                let v276 := IntKind.wrap .u16 y269.2.2.2.2.1
                let v278 := IntKind.wrap .i64 ((IntKind.wrap .i64 (y269.2.2.2.2.2.2.2 - y269.2.2.2.2.1)) - 1)
                bif decide ((List.length y269.1 + List.length [(v276, (IntKind.wrap .u16 v278))]) * 4 ≤ 140737488355328) then
                  bif decide (List.length y269.1 + List.length [(v276, (IntKind.wrap .u16 v278))] ≤ 140737488355328) then
                    runs_edges_AndNot_1_l0 k (y269.1 ++ [(v276, (IntKind.wrap .u16 v278))]) y269.2.1 y269.2.2.1 y274 y269.2.2.2.2.2.2.2 y269.2.2.2.2.2.1 y269.2.2.2.2.2.2.1
                  else none
                else none
              else
                runs_edges_AndNot_1_l0 k y269.1 y269.2.1 y269.2.2.1 y274 y269.2.2.2.2.2.2.2 y269.2.2.2.2.2.1 y269.2.2.2.2.2.2.1
      else
        some p5_0
def runs_edges_AndNot_1 (k : Nat) (a0 : (List Int)) (a1 : (List Int)) : Option ((List (Int × Int))) :=
  (runs_edges_AndNot_1_l0 k [] a0 a1 false 0 0 0).bind fun y281 =>
  some y281

def runs_AndNot (k : Nat) (a0 : (List (Int × Int))) (a1 : (List (Int × Int))) : Option ((List (Int × Int))) :=
  (runs_row k a0).bind fun y1 =>
  (runs_row k a1).bind fun y2 =>
  (runs_edges_AndNot_1 k y1 y2).bind fun y3 =>
  some y3

def runs_And_1 (k : Nat) (a0 : Bool) (a1 : Bool) : Option (Bool) :=
  bif a0 then
    some a1
  else
    some false

def runs_edges_And_1_l1 : Nat → (List (Int × Int)) → (List Int) → (List Int) → Bool → Int → Int → Int → Int → Option ((List (Int × Int)) × (List Int) × (List Int) × Bool × Int × Int × Int × Int)
  | 0, _, _, _, _, _, _, _, _ => none
  | k + 1, p11_0, p11_1, p11_2, p11_3, p11_4, p11_5, p11_6, p11_7 =>
    bif (decide (p11_5 < (p11_1.length : Int))) then
      bif decide ((0 : Int) ≤ p11_5) then
        bif decide (p11_5 < (p11_1.length : Int)) then
          bif (decide ((p11_1.getD (Int.toNat p11_5) (0 : Int)) ≤ p11_7)) then
            runs_edges_And_1_l1 k p11_0 p11_1 p11_2 p11_3 p11_4 (IntKind.wrap .i64 (p11_5 + 1)) p11_6 p11_7
          else
            some (p11_0, p11_1, p11_2, p11_3, p11_4, p11_5, p11_6, p11_7)
        else none
      else none
    else
      some (p11_0, p11_1, p11_2, p11_3, p11_4, p11_5, p11_6, p11_7)
def runs_edges_And_1_l2 : Nat → (List (Int × Int)) → (List Int) → (List Int) → Bool → Int → Int → Int → Int → Option ((List (Int × Int)) × (List Int) × (List Int) × Bool × Int × Int × Int × Int)
  | 0, _, _, _, _, _, _, _, _ => none
  | k + 1, p13_0, p13_1, p13_2, p13_3, p13_4, p13_5, p13_6, p13_7 =>
    bif (decide (p13_6 < (p13_2.length : Int))) then
      bif decide ((0 : Int) ≤ p13_6) then
        bif decide (p13_6 < (p13_2.length : Int)) then
          bif (decide ((p13_2.getD (Int.toNat p13_6) (0 : Int)) ≤ p13_7)) then
            runs_edges_And_1_l2 k p13_0 p13_1 p13_2 p13_3 p13_4 p13_5 (IntKind.wrap .i64 (p13_6 + 1)) p13_7
          else
            some (p13_0, p13_1, p13_2, p13_3, p13_4, p13_5, p13_6, p13_7)
        else none
      else none
    else
      some (p13_0, p13_1, p13_2, p13_3, p13_4, p13_5, p13_6, p13_7)
def runs_edges_And_1_l0 : Nat → (List (Int × Int)) → (List Int) → (List Int) → Bool → Int → Int → Int → Option ((List (Int × Int)))
  | 0, _, _, _, _, _, _, _ => none
  | k + 1, p5_0, p5_1, p5_2, p5_3, p5_4, p5_5, p5_6 =>
    bif (decide (p5_5 < (p5_1.length : Int))) then
      bif (decide (p5_5 < (p5_1.length : Int))) then
        bif decide ((0 : Int) ≤ p5_5) then
          bif decide (p5_5 < (p5_1.length : Int)) then
            let v155 := p5_1.getD (Int.toNat p5_5) (0 : Int)
            bif (decide (p5_6 < (p5_2.length : Int))) then
              bif decide ((0 : Int) ≤ p5_6) then
                bif decide (p5_6 < (p5_2.length : Int)) then
                  (runs_edges_And_1_l1 k p5_0 p5_1 p5_2 p5_3 p5_4 p5_5 p5_6 (min v155 (p5_2.getD (Int.toNat p5_6) (0 : Int)))).bind fun y160 =>
                  (runs_edges_And_1_l2 k y160.1 y160.2.1 y160.2.2.1 y160.2.2.2.1 y160.2.2.2.2.1 y160.2.2.2.2.2.1 y160.2.2.2.2.2.2.1 y160.2.2.2.2.2.2.2).bind fun y161 =>
                  (runs_And_1 k (decide ((y161.2.2.2.2.2.1.tmod 2) = 1)) (decide ((y161.2.2.2.2.2.2.1.tmod 2) = 1))).bind fun y166 =>
                  bif (y166 == y161.2.2.2.1) then
                    runs_edges_And_1_l0 k y161.1 y161.2.1 y161.2.2.1 y161.2.2.2.1 y161.2.2.2.2.1 y161.2.2.2.2.2.1 y161.2.2.2.2.2.2.1
                  else
                    bif y161.2.2.2.1 then
                      let v168 := IntKind.wrap .u16 y161.2.2.2.2.1
                      let v170 := IntKind.wrap .i64 ((IntKind.wrap .i64 (y161.2.2.2.2.2.2.2 - y161.2.2.2.2.1)) - 1)
                      bif decide ((List.length y161.1 + List.length [(v168, (IntKind.wrap .u16 v170))]) * 4 ≤ 140737488355328) then
                        bif decide (List.length y161.1 + List.length [(v168, (IntKind.wrap .u16 v170))] ≤ 140737488355328) then
                          runs_edges_And_1_l0 k (y161.1 ++ [(v168, (IntKind.wrap .u16 v170))]) y161.2.1 y161.2.2.1 y166 y161.2.2.2.2.2.2.2 y161.2.2.2.2.2.1 y161.2.2.2.2.2.2.1
                        else none
                      else none
                    else
                      runs_edges_And_1_l0 k y161.1 y161.2.1 y161.2.2.1 y166 y161.2.2.2.2.2.2.2 y161.2.2.2.2.2.1 y161.2.2.2.2.2.2.1
                else none
              else none
            else
              (runs_edges_And_1_l1 k p5_0 p5_1 p5_2 p5_3 p5_4 p5_5 p5_6 v155).bind fun y173 =>
              (runs_edges_And_1_l2 k y173.1 y173.2.1 y173.2.2.1 y173.2.2.2.1 y173.2.2.2.2.1 y173.2.2.2.2.2.1 y173.2.2.2.2.2.2.1 y173.2.2.2.2.2.2.2).bind fun y174 =>
              (runs_And_1 k (decide ((y174.2.2.2.2.2.1.tmod 2) = 1)) (decide ((y174.2.2.2.2.2.2.1.tmod 2) = 1))).bind fun y179 =>
              bif (y179 == y174.2.2.2.1) then
                runs_edges_And_1_l0 k y174.1 y174.2.1 y174.2.2.1 y174.2.2.2.1 y174.2.2.2.2.1 y174.2.2.2.2.2.1 y174.2.2.2.2.2.2.1
              else
                bif y174.2.2.2.1 then
                  let v181 := IntKind.wrap .u16 y174.2.2.2.2.1
                  let v183 := IntKind.wrap .i64 ((IntKind.wrap .i64 (y174.2.2.2.2.2.2.2 - y174.2.2.2.2.1)) - 1)
                  bif decide ((List.length y174.1 + List.length [(v181, (IntKind.wrap .u16 v183))]) * 4 ≤ 140737488355328) then
                    bif decide (List.length y174.1 + List.length [(v181, (IntKind.wrap .u16 v183))] ≤ 140737488355328) then
                      runs_edges_And_1_l0 k (y174.1 ++ [(v181, (IntKind.wrap .u16 v183))]) y174.2.1 y174.2.2.1 y179 y174.2.2.2.2.2.2.2 y174.2.2.2.2.2.1 y174.2.2.2.2.2.2.1
                    else none
                  else none
                else
                  runs_edges_And_1_l0 k y174.1 y174.2.1 y174.2.2.1 y179 y174.2.2.2.2.2.2.2 y174.2.2.2.2.2.1 y174.2.2.2.2.2.2.1
          else none
        else none
      else
        bif (decide (p5_6 < (p5_2.length : Int))) then
          bif decide ((0 : Int) ≤ p5_6) then
            bif decide (p5_6 < (p5_2.length : Int)) then
              (runs_edges_And_1_l1 k p5_0 p5_1 p5_2 p5_3 p5_4 p5_5 p5_6 (min 65537 (p5_2.getD (Int.toNat p5_6) (0 : Int)))).bind fun y190 =>
              (runs_edges_And_1_l2 k y190.1 y190.2.1 y190.2.2.1 y190.2.2.2.1 y190.2.2.2.2.1 y190.2.2.2.2.2.1 y190.2.2.2.2.2.2.1 y190.2.2.2.2.2.2.2).bind fun y191 =>
              (runs_And_1 k (decide ((y191.2.2.2.2.2.1.tmod 2) = 1)) (decide ((y191.2.2.2.2.2.2.1.tmod 2) = 1))).bind fun y196 =>
              bif (y196 == y191.2.2.2.1) then
                runs_edges_And_1_l0 k y191.1 y191.2.1 y191.2.2.1 y191.2.2.2.1 y191.2.2.2.2.1 y191.2.2.2.2.2.1 y191.2.2.2.2.2.2.1
              else
                bif y191.2.2.2.1 then
                  let v198 := IntKind.wrap .u16 y191.2.2.2.2.1
                  let v200 := IntKind.wrap .i64 ((IntKind.wrap .i64 (y191.2.2.2.2.2.2.2 - y191.2.2.2.2.1)) - 1)
                  bif decide ((List.length y191.1 + List.length [(v198, (IntKind.wrap .u16 v200))]) * 4 ≤ 140737488355328) then
                    bif decide (List.length y191.1 + List.length [(v198, (IntKind.wrap .u16 v200))] ≤ 140737488355328) then
                      runs_edges_And_1_l0 k (y191.1 ++ [(v198, (IntKind.wrap .u16 v200))]) y191.2.1 y191.2.2.1 y196 y191.2.2.2.2.2.2.2 y191.2.2.2.2.2.1 y191.2.2.2.2.2.2.1
                    else none
                  else none
                else
                  runs_edges_And_1_l0 k y191.1 y191.2.1 y191.2.2.1 y196 y191.2.2.2.2.2.2.2 y191.2.2.2.2.2.1 y191.2.2.2.2.2.2.1
            else none
          else none
        else
          (runs_edges_And_1_l1 k p5_0 p5_1 p5_2 p5_3 p5_4 p5_5 p5_6 65537).bind fun y203 =>
          (runs_edges_And_1_l2 k y203.1 y203.2.1 y203.2.2.1 y203.2.2.2.1 y203.2.2.2.2.1 y203.2.2.2.2.2.1 y203.2.2.2.2.2.2.1 y203.2.2.2.2.2.2.2).bind fun y204 =>
          (runs_And_1 k (decide ((y204.2.2.2.2.2.1.tmod 2) = 1)) (decide ((y204.2.2.2.2.2.2.1.tmod 2) = 1))).bind fun y209 =>
          bif (y209 == y204.2.2.2.1) then
            runs_edges_And_1_l0 k y204.1 y204.2.1 y204.2.2.1 y204.2.2.2.1 y204.2.2.2.2.1 y204.2.2.2.2.2.1 y204.2.2.2.2.2.2.1
          else
            bif y204.2.2.2.1 then
              let v211 := IntKind.wrap .u16 y204.2.2.2.2.1
              let v213 := IntKind.wrap .i64 ((IntKind.wrap .i64 (y204.2.2.2.2.2.2.2 - y204.2.2.2.2.1)) - 1)
              bif decide ((List.length y204.1 + List.length [(v211, (IntKind.wrap .u16 v213))]) * 4 ≤ 140737488355328) then
                bif decide (List.length y204.1 + List.length [(v211, (IntKind.wrap .u16 v213))] ≤ 140737488355328) then
                  runs_edges_And_1_l0 k (y204.1 ++ [(v211, (IntKind.wrap .u16 v213))]) y204.2.1 y204.2.2.1 y209 y204.2.2.2.2.2.2.2 y204.2.2.2.2.2.1 y204.2.2.2.2.2.2.1
                else none
              else none
            else
              runs_edges_And_1_l0 k y204.1 y204.2.1 y204.2.2.1 y209 y204.2.2.2.2.2.2.2 y204.2.2.2.2.2.1 y204.2.2.2.2.2.2.1
    else
      bif (decide (p5_6 < (p5_2.length : Int))) then
        bif (decide (p5_5 < (p5_1.length : Int))) then
          bif decide ((0 : Int) ≤ p5_5) then
            bif decide (p5_5 < (p5_1.length : Int)) then
              let v220 := p5_1.getD (Int.toNat p5_5) (0 : Int)
              bif (decide (p5_6 < (p5_2.length : Int))) then
                bif decide ((0 : Int) ≤ p5_6) then
                  bif decide (p5_6 < (p5_2.length : Int)) then
                    (runs_edges_And_1_l1 k p5_0 p5_1 p5_2 p5_3 p5_4 p5_5 p5_6 (min v220 (p5_2.getD (Int.toNat p5_6) (0 : Int)))).bind fun y225 =>
                    (runs_edges_And_1_l2 k y225.1 y225.2.1 y225.2.2.1 y225.2.2.2.1 y225.2.2.2.2.1 y225.2.2.2.2.2.1 y225.2.2.2.2.2.2.1 y225.2.2.2.2.2.2.2).bind fun y226 =>
                    (runs_And_1 k (decide ((y226.2.2.2.2.2.1.tmod 2) = 1)) (decide ((y226.2.2.2.2.2.2.1.tmod 2) = 1))).bind fun y231 =>
                    bif (y231 == y226.2.2.2.1) then
                      runs_edges_And_1_l0 k y226.1 y226.2.1 y226.2.2.1 y226.2.2.2.1 y226.2.2.2.2.1 y226.2.2.2.2.2.1 y226.2.2.2.2.2.2.1
                    else
                      bif y226.2.2.2.1 then
                        let v233 := IntKind.wrap .u16 y226.2.2.2.2.1
                        let v235 := IntKind.wrap .i64 ((IntKind.wrap .i64 (y226.2.2.2.2.2.2.2 - y226.2.2.2.2.1)) - 1)
                        bif decide ((List.length y226.1 + List.length [(v233, (IntKind.wrap .u16 v235))]) * 4 ≤ 140737488355328) then
                          bif decide (List.length y226.1 + List.length [(v233, (IntKind.wrap .u16 v235))] ≤ 140737488355328) then
                            runs_edges_And_1_l0 k (y226.1 ++ [(v233, (IntKind.wrap .u16 v235))]) y226.2.1 y226.2.2.1 y231 y226.2.2.2.2.2.2.2 y226.2.2.2.2.2.1 y226.2.2.2.2.2.2.1
                          else none
                        else none
                      else
                        runs_edges_And_1_l0 k y226.1 y226.2.1 y226.2.2.1 y231 y226.2.2.2.2.2.2.2 y226.2.2.2.2.2.1 y226.2.2.2.2.2.2.1
                  else none
                else none
              else
                (runs_edges_And_1_l1 k p5_0 p5_1 p5_2 p5_3 p5_4 p5_5 p5_6 v220).bind fun y238 =>
                (runs_edges_And_1_l2 k y238.1 y238.2.1 y238.2.2.1 y238.2.2.2.1 y238.2.2.2.2.1 y238.2.2.2.2.2.1 y238.2.2.2.2.2.2.1 y238.2.2.2.2.2.2.2).bind fun y239 =>
                (runs_And_1 k (decide ((y239.2.2.2.2.2.1.tmod 2) = 1)) (decide ((y239.2.2.2.2.2.2.1.tmod 2) = 1))).bind fun y244 =>
                bif (y244 == y239.2.2.2.1) then
                  runs_edges_And_1_l0 k y239.1 y239.2.1 y239.2.2.1 y239.2.2.2.1 y239.2.2.2.2.1 y239.2.2.2.2.2.1 y239.2.2.2.2.2.2.1
                else
                  bif y239.2.2.2.1 then
                    let v246 := IntKind.wrap .u16 y239.2.2.2.2.1
                    let v248 := IntKind.wrap .i64 ((IntKind.wrap .i64 (y239.2.2.2.2.2.2.2 - y239.2.2.2.2.1)) - 1)
                    bif decide ((List.length y239.1 + List.length [(v246, (IntKind.wrap .u16 v248))]) * 4 ≤ 140737488355328) then
                      bif decide (List.length y239.1 + List.length [(v246, (IntKind.wrap .u16 v248))] ≤ 140737488355328) then
                        runs_edges_And_1_l0 k (y239.1 ++ [(v246, (IntKind.wrap .u16 v248))]) y239.2.1 y239.2.2.1 y244 y239.2.2.2.2.2.2.2 y239.2.2.2.2.2.1 y239.2.2.2.2.2.2.1
                      else none
                    else none
                  else
                    runs_edges_And_1_l0 k y239.1 y239.2.1 y239.2.2.1 y244 y239.2.2.2.2.2.2.2 y239.2.2.2.2.2.1 y239.2.2.2.2.2.2.1
            else none
          else none
        else
          bif (decide (p5_6 < (p5_2.length : Int))) then
            bif decide ((0 : Int) ≤ p5_6) then
              bif decide (p5_6 < (p5_2.length : Int)) then
                (runs_edges_And_1_l1 k p5_0 p5_1 p5_2 p5_3 p5_4 p5_5 p5_6 (min 65537 (p5_2.getD (Int.toNat p5_6) (0 : Int)))).bind fun y255 =>
                (runs_edges_And_1_l2 k y255.1 y255.2.1 y255.2.2.1 y255.2.2.2.1 y255.2.2.2.2.1 y255.2.2.2.2.2.1 y255.2.2.2.2.2.2.1 y255.2.2.2.2.2.2.2).bind fun y256 =>
                (runs_And_1 k (decide ((y256.2.2.2.2.2.1.tmod 2) = 1)) (decide ((y256.2.2.2.2.2.2.1.tmod 2) = 1))).bind fun y261 =>
                bif (y261 == y256.2.2.2.1) then
                  runs_edges_And_1_l0 k y256.1 y256.2.1 y256.2.2.1 y256.2.2.2.1 y256.2.2.2.2.1 y256.2.2.2.2.2.1 y256.2.2.2.2.2.2.1
                else
                  bif y256.2.2.2.1 then
                    let v263 := IntKind.wrap .u16 y256.2.2.2.2.1
                    let v265 := IntKind.wrap .i64 ((IntKind.wrap .i64 (y256.2.2.2.2.2.2.2 - y256.2.2.2.2.1)) - 1)
                    bif decide ((List.length y256.1 + List.length [(v263, (IntKind.wrap .u16 v265))]) * 4 ≤ 140737488355328) then
                      bif decide (List.length y256.1 + List.length [(v263, (IntKind.wrap .u16 v265))] ≤ 140737488355328) then
                        runs_edges_And_1_l0 k (y256.1 ++ [(v263, (IntKind.wrap .u16 v265))]) y256.2.1 y256.2.2.1 y261 y256.2.2.2.2.2.2.2 y256.2.2.2.2.2.1 y256.2.2.2.2.2.2.1
                      else none
                    else none
                  else
                    runs_edges_And_1_l0 k y256.1 y256.2.1 y256.2.2.1 y261 y256.2.2.2.2.2.2.2 y256.2.2.2.2.2.1 y256.2.2.2.2.2.2.1
              else none
            else none
          else
            (runs_edges_And_1_l1 k p5_0 p5_1 p5_2 p5_3 p5_4 p5_5 p5_6 65537).bind fun y268 =>
            (runs_edges_And_1_l2 k y268.1 y268.2.1 y268.2.2.1 y268.2.2.2.1 y268.2.2.2.2.1 y268.2.2.2.2.2.1 y268.2.2.2.2.2.2.1 y268.2.2.2.2.2.2.2).bind fun y269 =>
            (runs_And_1 k (decide ((y269.2.2.2.2.2.1.tmod 2) = 1)) (decide ((y269.2.2.2.2.2.2.1.tmod 2) = 1))).bind fun y274 =>
            bif (y274 == y269.2.2.2.1) then
              runs_edges_And_1_l0 k y269.1 y269.2.1 y269.2.2.1 y269.2.2.2.1 y269.2.2.2.2.1 y269.2.2.2.2.2.1 y269.2.2.2.2.2.2.1
            else
              bif y269.2.2.2.1 then
                let v276 := IntKind.wrap .u16 y269.2.2.2.2.1
                let v278 := IntKind.wrap .i64 ((IntKind.wrap .i64 (y269.2.2.2.2.2.2.2 - y269.2.2.2.2.1)) - 1)
                bif decide ((List.length y269.1 + List.length [(v276, (IntKind.wrap .u16 v278))]) * 4 ≤ 140737488355328) then
                  bif decide (List.length y269.1 + List.length [(v276, (IntKind.wrap .u16 v278))] ≤ 140737488355328) then
                    runs_edges_And_1_l0 k (y269.1 ++ [(v276, (IntKind.wrap .u16 v278))]) y269.2.1 y269.2.2.1 y274 y269.2.2.2.2.2.2.2 y269.2.2.2.2.2.1 y269.2.2.2.2.2.2.1
                  else none
                else none
              else
                runs_edges_And_1_l0 k y269.1 y269.2.1 y269.2.2.1 y274 y269.2.2.2.2.2.2.2 y269.2.2.2.2.2.1 y269.2.2.2.2.2.2.1
      else
        some p5_0
def runs_edges_And_1 (k : Nat) (a0 : (List Int)) (a1 : (List Int)) : Option ((List (Int × Int))) :=
  (runs_edges_And_1_l0 k [] a0 a1 false 0 0 0).bind fun y281 =>
  some y281

def runs_And (k : Nat) (a0 : (List (Int × Int))) (a1 : (List (Int × Int))) : Option ((List (Int × Int))) :=
  (runs_row k a0).bind fun y1 =>
  (runs_row k a1).bind fun y2 =>
  (runs_edges_And_1 k y1 y2).bind fun y3 =>
  some y3

def runs_Xor_1 (k : Nat) (a0 : Bool) (a1 : Bool) : Option (Bool) :=
  some (!(a0 == a1))

def runs_edges_Xor_1_l1 : Nat → (List (Int × Int)) → (List Int) → (List Int) → Bool → Int → Int → Int → Int → Option ((List (Int × Int)) × (List Int) × (List Int) × Bool × Int × Int × Int × Int)
  | 0, _, _, _, _, _, _, _, _ => none
  | k + 1, p11_0, p11_1, p11_2, p11_3, p11_4, p11_5, p11_6, p11_7 =>
    bif (decide (p11_5 < (p11_1.length : Int))) then
      bif decide ((0 : Int) ≤ p11_5) then
        bif decide (p11_5 < (p11_1.length : Int)) then
          bif (decide ((p11_1.getD (Int.toNat p11_5) (0 : Int)) ≤ p11_7)) then
            runs_edges_Xor_1_l1 k p11_0 p11_1 p11_2 p11_3 p11_4 (IntKind.wrap .i64 (p11_5 + 1)) p11_6 p11_7
          else
            some (p11_0, p11_1, p11_2, p11_3, p11_4, p11_5, p11_6, p11_7)
        else none
      else none
    else
      some (p11_0, p11_1, p11_2, p11_3, p11_4, p11_5, p11_6, p11_7)
def runs_edges_Xor_1_l2 : Nat → (List (Int × Int)) → (List Int) → (List Int) → Bool → Int → Int → Int → Int → Option ((List (Int × Int)) × (List Int) × (List Int) × Bool × Int × Int × Int × Int)
  | 0, _, _, _, _, _, _, _, _ => none
  | k + 1, p13_0, p13_1, p13_2, p13_3, p13_4, p13_5, p13_6, p13_7 =>
    bif (decide (p13_6 < (p13_2.length : Int))) then
      bif decide ((0 : Int) ≤ p13_6) then
        bif decide (p13_6 < (p13_2.length : Int)) then
          bif (decide ((p13_2.getD (Int.toNat p13_6) (0 : Int)) ≤ p13_7)) then
            runs_edges_Xor_1_l2 k p13_0 p13_1 p13_2 p13_3 p13_4 p13_5 (IntKind.wrap .i64 (p13_6 + 1)) p13_7
          else
            some (p13_0, p13_1, p13_2, p13_3, p13_4, p13_5, p13_6, p13_7)
        else none
      else none
    else
      some (p13_0, p13_1, p13_2, p13_3, p13_4, p13_5, p13_6, p13_7)
def runs_edges_Xor_1_l0 : Nat → (List (Int × Int)) → (List Int) → (List Int) → Bool → Int → Int → Int → Option ((List (Int × Int)))
  | 0, _, _, _, _, _, _, _ => none
  | k + 1, p5_0, p5_1, p5_2, p5_3, p5_4, p5_5, p5_6 =>
    bif (decide (p5_5 < (p5_1.length : Int))) then
      bif (decide (p5_5 < (p5_1.length : Int))) then
        bif decide ((0 : Int) ≤ p5_5) then
          bif decide (p5_5 < (p5_1.length : Int)) then
            let v155 := p5_1.getD (Int.toNat p5_5) (0 : Int)
            bif (decide (p5_6 < (p5_2.length : Int))) then
              bif decide ((0 : Int) ≤ p5_6) then
                bif decide (p5_6 < (p5_2.length : Int)) then
                  (runs_edges_Xor_1_l1 k p5_0 p5_1 p5_2 p5_3 p5_4 p5_5 p5_6 (min v155 (p5_2.getD (Int.toNat p5_6) (0 : Int)))).bind fun y160 =>
                  (runs_edges_Xor_1_l2 k y160.1 y160.2.1 y160.2.2.1 y160.2.2.2.1 y160.2.2.2.2.1 y160.2.2.2.2.2.1 y160.2.2.2.2.2.2.1 y160.2.2.2.2.2.2.2).bind fun y161 =>
                  (runs_Xor_1 k (decide ((y161.2.2.2.2.2.1.tmod 2) = 1)) (decide ((y161.2.2.2.2.2.2.1.tmod 2) = 1))).bind fun y166 =>
                  bif (y166 == y161.2.2.2.1) then
                    runs_edges_Xor_1_l0 k y161.1 y161.2.1 y161.2.2.1 y161.2.2.2.1 y161.2.2.2.2.1 y161.2.2.2.2.2.1 y161.2.2.2.2.2.2.1
                  else
                    bif y161.2.2.2.1 then
                      let v168 := IntKind.wrap .u16 y161.2.2.2.2.1
                      let v170 := IntKind.wrap .i64 ((IntKind.wrap .i64 (y161.2.2.2.2.2.2.2 - y161.2.2.2.2.1)) - 1)
                      bif decide ((List.length y161.1 + List.length [(v168, (IntKind.wrap .u16 v170))]) * 4 ≤ 140737488355328) then
                        bif decide (List.length y161.1 + List.length [(v168, (IntKind.wrap .u16 v170))] ≤ 140737488355328) then
                          runs_edges_Xor_1_l0 k (y161.1 ++ [(v168, (IntKind.wrap .u16 v170))]) y161.2.1 y161.2.2.1 y166 y161.2.2.2.2.2.2.2 y161.2.2.2.2.2.1 y161.2.2.2.2.2.2.1
                        else none
                      else none
                    else
                      runs_edges_Xor_1_l0 k y161.1 y161.2.1 y161.2.2.1 y166 y161.2.2.2.2.2.2.2 y161.2.2.2.2.2.1 y161.2.2.2.2.2.2.1
                else none
              else none
            else
              (runs_edges_Xor_1_l1 k p5_0 p5_1 p5_2 p5_3 p5_4 p5_5 p5_6 v155).bind fun y173 =>
              (runs_edges_Xor_1_l2 k y173.1 y173.2.1 y173.2.2.1 y173.2.2.2.1 y173.2.2.2.2.1 y173.2.2.2.2.2.1 y173.2.2.2.2.2.2.1 y173.2.2.2.2.2.2.2).bind fun y174 =>
              (runs_Xor_1 k (decide ((y174.2.2.2.2.2.1.tmod 2) = 1)) (decide ((y174.2.2.2.2.2.2.1.tmod 2) = 1))).bind fun y179 =>
              bif (y179 == y174.2.2.2.1) then
                runs_edges_Xor_1_l0 k y174.1 y174.2.1 y174.2.2.1 y174.2.2.2.1 y174.2.2.2.2.1 y174.2.2.2.2.2.1 y174.2.2.2.2.2.2.1
              else
                bif y174.2.2.2.1 then
                  let v181 := IntKind.wrap .u16 y174.2.2.2.2.1
                  let v183 := IntKind.wrap .i64 ((IntKind.wrap .i64 (y174.2.2.2.2.2.2.2 - y174.2.2.2.2.1)) - 1)
                  bif decide ((List.length y174.1 + List.length [(v181, (IntKind.wrap .u16 v183))]) * 4 ≤ 140737488355328) then
                    bif decide (List.length y174.1 + List.length [(v181, (IntKind.wrap .u16 v183))] ≤ 140737488355328) then
                      runs_edges_Xor_1_l0 k (y174.1 ++ [(v181, (IntKind.wrap .u16 v183))]) y174.2.1 y174.2.2.1 y179 y174.2.2.2.2.2.2.2 y174.2.2.2.2.2.1 y174.2.2.2.2.2.2.1
                    else none
                  else none
                else
                  runs_edges_Xor_1_l0 k y174.1 y174.2.1 y174.2.2.1 y179 y174.2.2.2.2.2.2.2 y174.2.2.2.2.2.1 y174.2.2.2.2.2.2.1
          else none
        else none
      else
        bif (decide (p5_6 < (p5_2.length : Int))) then
          bif decide ((0 : Int) ≤ p5_6) then
            bif decide (p5_6 < (p5_2.length : Int)) then
              (runs_edges_Xor_1_l1 k p5_0 p5_1 p5_2 p5_3 p5_4 p5_5 p5_6 (min 65537 (p5_2.getD (Int.toNat p5_6) (0 : Int)))).bind fun y190 =>
              (runs_edges_Xor_1_l2 k y190.1 y190.2.1 y190.2.2.1 y190.2.2.2.1 y190.2.2.2.2.1 y190.2.2.2.2.2.1 y190.2.2.2.2.2.2.1 y190.2.2.2.2.2.2.2).bind fun y191 =>
              (runs_Xor_1 k (decide ((y191.2.2.2.2.2.1.tmod 2) = 1)) (decide ((y191.2.2.2.2.2.2.1.tmod 2) = 1))).bind fun y196 =>
              bif (y196 == y191.2.2.2.1) then
                runs_edges_Xor_1_l0 k y191.1 y191.2.1 y191.2.2.1 y191.2.2.2.1 y191.2.2.2.2.1 y191.2.2.2.2.2.1 y191.2.2.2.2.2.2.1
              else
                bif y191.2.2.2.1 then
                  let v198 := IntKind.wrap .u16 y191.2.2.2.2.1
                  let v200 := IntKind.wrap .i64 ((IntKind.wrap .i64 (y191.2.2.2.2.2.2.2 - y191.2.2.2.2.1)) - 1)
                  bif decide ((List.length y191.1 + List.length [(v198, (IntKind.wrap .u16 v200))]) * 4 ≤ 140737488355328) then
                    bif decide (List.length y191.1 + List.length [(v198, (IntKind.wrap .u16 v200))] ≤ 140737488355328) then
                      runs_edges_Xor_1_l0 k (y191.1 ++ [(v198, (IntKind.wrap .u16 v200))]) y191.2.1 y191.2.2.1 y196 y191.2.2.2.2.2.2.2 y191.2.2.2.2.2.1 y191.2.2.2.2.2.2.1
                    else none
                  else none
                else
                  runs_edges_Xor_1_l0 k y191.1 y191.2.1 y191.2.2.1 y196 y191.2.2.2.2.2.2.2 y191.2.2.2.2.2.1 y191.2.2.2.2.2.2.1
            else none
          else none
        else
          (runs_edges_Xor_1_l1 k p5_0 p5_1 p5_2 p5_3 p5_4 p5_5 p5_6 65537).bind fun y203 =>
          (runs_edges_Xor_1_l2 k y203.1 y203.2.1 y203.2.2.1 y203.2.2.2.1 y203.2.2.2.2.1 y203.2.2.2.2.2.1 y203.2.2.2.2.2.2.1 y203.2.2.2.2.2.2.2).bind fun y204 =>
          (runs_Xor_1 k (decide ((y204.2.2.2.2.2.1.tmod 2) = 1)) (decide ((y204.2.2.2.2.2.2.1.tmod 2) = 1))).bind fun y209 =>
          bif (y209 == y204.2.2.2.1) then
            runs_edges_Xor_1_l0 k y204.1 y204.2.1 y204.2.2.1 y204.2.2.2.1 y204.2.2.2.2.1 y204.2.2.2.2.2.1 y204.2.2.2.2.2.2.1
          else
            bif y204.2.2.2.1 then
              let v211 := IntKind.wrap .u16 y204.2.2.2.2.1
              let v213 := IntKind.wrap .i64 ((IntKind.wrap .i64 (y204.2.2.2.2.2.2.2 - y204.2.2.2.2.1)) - 1)
              bif decide ((List.length y204.1 + List.length [(v211, (IntKind.wrap .u16 v213))]) * 4 ≤ 140737488355328) then
                bif decide (List.length y204.1 + List.length [(v211, (IntKind.wrap .u16 v213))] ≤ 140737488355328) then
                  runs_edges_Xor_1_l0 k (y204.1 ++ [(v211, (IntKind.wrap .u16 v213))]) y204.2.1 y204.2.2.1 y209 y204.2.2.2.2.2.2.2 y204.2.2.2.2.2.1 y204.2.2.2.2.2.2.1
                else none
              else none
            else
              runs_edges_Xor_1_l0 k y204.1 y204.2.1 y204.2.2.1 y209 y204.2.2.2.2.2.2.2 y204.2.2.2.2.2.1 y204.2.2.2.2.2.2.1
    else
      bif (decide (p5_6 < (p5_2.length : Int))) then
        bif (decide (p5_5 < (p5_1.length : Int))) then
          bif decide ((0 : Int) ≤ p5_5) then
            bif decide (p5_5 < (p5_1.length : Int)) then
              let v220 := p5_1.getD (Int.toNat p5_5) (0 : Int)
              bif (decide (p5_6 < (p5_2.length : Int))) then
                bif decide ((0 : Int) ≤ p5_6) then
                  bif decide (p5_6 < (p5_2.length : Int)) then
                    (runs_edges_Xor_1_l1 k p5_0 p5_1 p5_2 p5_3 p5_4 p5_5 p5_6 (min v220 (p5_2.getD (Int.toNat p5_6) (0 : Int)))).bind fun y225 =>
                    (runs_edges_Xor_1_l2 k y225.1 y225.2.1 y225.2.2.1 y225.2.2.2.1 y225.2.2.2.2.1 y225.2.2.2.2.2.1 y225.2.2.2.2.2.2.1 y225.2.2.2.2.2.2.2).bind fun y226 =>
                    (runs_Xor_1 k (decide ((y226.2.2.2.2.2.1.tmod 2) = 1)) (decide ((y226.2.2.2.2.2.2.1.tmod 2) = 1))).bind fun y231 =>
                    bif (y231 == y226.2.2.2.1) then
                      runs_edges_Xor_1_l0 k y226.1 y226.2.1 y226.2.2.1 y226.2.2.2.1 y226.2.2.2.2.1 y226.2.2.2.2.2.1 y226.2.2.2.2.2.2.1
                    else
                      bif y226.2.2.2.1 then
                        let v233 := IntKind.wrap .u16 y226.2.2.2.2.1
                        let v235 := IntKind.wrap .i64 ((IntKind.wrap .i64 (y226.2.2.2.2.2.2.2 - y226.2.2.2.2.1)) - 1)
                        bif decide ((List.length y226.1 + List.length [(v233, (IntKind.wrap .u16 v235))]) * 4 ≤ 140737488355328) then
                          bif decide (List.length y226.1 + List.length [(v233, (IntKind.wrap .u16 v235))] ≤ 140737488355328) then
                            runs_edges_Xor_1_l0 k (y226.1 ++ [(v233, (IntKind.wrap .u16 v235))]) y226.2.1 y226.2.2.1 y231 y226.2.2.2.2.2.2.2 y226.2.2.2.2.2.1 y226.2.2.2.2.2.2.1
                          else none
                        else none
                      else
                        runs_edges_Xor_1_l0 k y226.1 y226.2.1 y226.2.2.1 y231 y226.2.2.2.2.2.2.2 y226.2.2.2.2.2.1 y226.2.2.2.2.2.2.1
                  else none
                else none
              else
                (runs_edges_Xor_1_l1 k p5_0 p5_1 p5_2 p5_3 p5_4 p5_5 p5_6 v220).bind fun y238 =>
                (runs_edges_Xor_1_l2 k y238.1 y238.2.1 y238.2.2.1 y238.2.2.2.1 y238.2.2.2.2.1 y238.2.2.2.2.2.1 y238.2.2.2.2.2.2.1 y238.2.2.2.2.2.2.2).bind fun y239 =>
                (runs_Xor_1 k (decide ((y239.2.2.2.2.2.1.tmod 2) = 1)) (decide ((y239.2.2.2.2.2.2.1.tmod 2) = 1))).bind fun y244 =>
                bif (y244 == y239.2.2.2.1) then
                  runs_edges_Xor_1_l0 k y239.1 y239.2.1 y239.2.2.1 y239.2.2.2.1 y239.2.2.2.2.1 y239.2.2.2.2.2.1 y239.2.2.2.2.2.2.1
                else
                  bif y239.2.2.2.1 then
                    let v246 := IntKind.wrap .u16 y239.2.2.2.2.1
                    let v248 := IntKind.wrap .i64 ((IntKind.wrap .i64 (y239.2.2.2.2.2.2.2 - y239.2.2.2.2.1)) - 1)
                    bif decide ((List.length y239.1 + List.length [(v246, (IntKind.wrap .u16 v248))]) * 4 ≤ 140737488355328) then
                      bif decide (List.length y239.1 + List.length [(v246, (IntKind.wrap .u16 v248))] ≤ 140737488355328) then
                        runs_edges_Xor_1_l0 k (y239.1 ++ [(v246, (IntKind.wrap .u16 v248))]) y239.2.1 y239.2.2.1 y244 y239.2.2.2.2.2.2.2 y239.2.2.2.2.2.1 y239.2.2.2.2.2.2.1
                      else none
                    else none
                  else
                    runs_edges_Xor_1_l0 k y239.1 y239.2.1 y239.2.2.1 y244 y239.2.2.2.2.2.2.2 y239.2.2.2.2.2.1 y239.2.2.2.2.2.2.1
            else none
          else none
        else
          bif (decide (p5_6 < (p5_2.length : Int))) then
            bif decide ((0 : Int) ≤ p5_6) then
              bif decide (p5_6 < (p5_2.length : Int)) then
                (runs_edges_Xor_1_l1 k p5_0 p5_1 p5_2 p5_3 p5_4 p5_5 p5_6 (min 65537 (p5_2.getD (Int.toNat p5_6) (0 : Int)))).bind fun y255 =>
                (runs_edges_Xor_1_l2 k y255.1 y255.2.1 y255.2.2.1 y255.2.2.2.1 y255.2.2.2.2.1 y255.2.2.2.2.2.1 y255.2.2.2.2.2.2.1 y255.2.2.2.2.2.2.2).bind fun y256 =>
                (runs_Xor_1 k (decide ((y256.2.2.2.2.2.1.tmod 2) = 1)) (decide ((y256.2.2.2.2.2.2.1.tmod 2) = 1))).bind fun y261 =>
                bif (y261 == y256.2.2.2.1) then
                  runs_edges_Xor_1_l0 k y256.1 y256.2.1 y256.2.2.1 y256.2.2.2.1 y256.2.2.2.2.1 y256.2.2.2.2.2.1 y256.2.2.2.2.2.2.1
                else
                  bif y256.2.2.2.1 then
                    let v263 := IntKind.wrap .u16 y256.2.2.2.2.1
                    let v265 := IntKind.wrap .i64 ((IntKind.wrap .i64 (y256.2.2.2.2.2.2.2 - y256.2.2.2.2.1)) - 1)
                    bif decide ((List.length y256.1 + List.length [(v263, (IntKind.wrap .u16 v265))]) * 4 ≤ 140737488355328) then
                      bif decide (List.length y256.1 + List.length [(v263, (IntKind.wrap .u16 v265))] ≤ 140737488355328) then
                        runs_edges_Xor_1_l0 k (y256.1 ++ [(v263, (IntKind.wrap .u16 v265))]) y256.2.1 y256.2.2.1 y261 y256.2.2.2.2.2.2.2 y256.2.2.2.2.2.1 y256.2.2.2.2.2.2.1
                      else none
                    else none
                  else
                    runs_edges_Xor_1_l0 k y256.1 y256.2.1 y256.2.2.1 y261 y256.2.2.2.2.2.2.2 y256.2.2.2.2.2.1 y256.2.2.2.2.2.2.1
              else none
            else none
          else
            (runs_edges_Xor_1_l1 k p5_0 p5_1 p5_2 p5_3 p5_4 p5_5 p5_6 65537).bind fun y268 =>
            (runs_edges_Xor_1_l2 k y268.1 y268.2.1 y268.2.2.1 y268.2.2.2.1 y268.2.2.2.2.1 y268.2.2.2.2.2.1 y268.2.2.2.2.2.2.1 y268.2.2.2.2.2.2.2).bind fun y269 =>
            (runs_Xor_1 k (decide ((y269.2.2.2.2.2.1.tmod 2) = 1)) (decide ((y269.2.2.2.2.2.2.1.tmod 2) = 1))).bind fun y274 =>
            bif (y274 == y269.2.2.2.1) then
              runs_edges_Xor_1_l0 k y269.1 y269.2.1 y269.2.2.1 y269.2.2.2.1 y269.2.2.2.2.1 y269.2.2.2.2.2.1 y269.2.2.2.2.2.2.1
            else
              bif y269.2.2.2.1 then
                let v276 := IntKind.wrap .u16 y269.2.2.2.2.1
                let v278 := IntKind.wrap .i64 ((IntKind.wrap .i64 (y269.2.2.2.2.2.2.2 - y269.2.2.2.2.1)) - 1)
                bif decide ((List.length y269.1 + List.length [(v276, (IntKind.wrap .u16 v278))]) * 4 ≤ 140737488355328) then
                  bif decide (List.length y269.1 + List.length [(v276, (IntKind.wrap .u16 v278))] ≤ 140737488355328) then
                    runs_edges_Xor_1_l0 k (y269.1 ++ [(v276, (IntKind.wrap .u16 v278))]) y269.2.1 y269.2.2.1 y274 y269.2.2.2.2.2.2.2 y269.2.2.2.2.2.1 y269.2.2.2.2.2.2.1
                  else none
                else none
              else
                runs_edges_Xor_1_l0 k y269.1 y269.2.1 y269.2.2.1 y274 y269.2.2.2.2.2.2.2 y269.2.2.2.2.2.1 y269.2.2.2.2.2.2.1
      else
        some p5_0
def runs_edges_Xor_1 (k : Nat) (a0 : (List Int)) (a1 : (List Int)) : Option ((List (Int × Int))) :=
  (runs_edges_Xor_1_l0 k [] a0 a1 false 0 0 0).bind fun y281 =>
  some y281

def runs_Xor (k : Nat) (a0 : (List (Int × Int))) (a1 : (List (Int × Int))) : Option ((List (Int × Int))) :=
  (runs_row k a0).bind fun y1 =>
  (runs_row k a1).bind fun y2 =>
  (runs_edges_Xor_1 k y1 y2).bind fun y3 =>
  some y3

def isinglassref06_Same_l0 : Nat → (List (Int × Int)) → (List (Int × Int)) → Int → Option ((Bool) ⊕ (Unit))
  | 0, _, _, _ => none
  | k + 1, p5_0, p5_1, p5_2 =>
    bif (decide (p5_2 < (p5_0.length : Int))) then
      bif decide ((0 : Int) ≤ p5_2) then
        bif decide (p5_2 < (p5_0.length : Int)) then
          let v12 := p5_0.getD (Int.toNat p5_2) ((0 : Int), (0 : Int))
          bif decide ((0 : Int) ≤ p5_2) then
            bif decide (p5_2 < (p5_1.length : Int)) then
              let v13 := p5_1.getD (Int.toNat p5_2) ((0 : Int), (0 : Int))
              bif (!(decide (v12.1 = v13.1) && (decide (v12.2 = v13.2)))) then
                some (.inl false)
              else
                isinglassref06_Same_l0 k p5_0 p5_1 (IntKind.wrap .i64 (p5_2 + 1))
            else none
          else none
        else none
      else none
    else
      some (.inr ())
def isinglassref06_Same (k : Nat) (a0 : (List (Int × Int))) (a1 : (List (Int × Int))) : Option (Bool) :=
  bif (!(decide ((a0.length : Int) = (a1.length : Int)))) then
    some false
  else
    (isinglassref06_Same_l0 k a0 a1 0).bind fun y16 =>
    (match y16 with
    | .inl y17 =>
      some y17
    | .inr y18 =>
      some true)

def runs_Len_l0 : Nat → Int → (List (Int × Int)) → Int → Int → Option (Int)
  | 0, _, _, _, _ => none
  | k + 1, p4_0, p4_1, p4_2, p4_3 =>
    bif (decide (p4_3 < p4_2)) then
      bif decide ((0 : Int) ≤ p4_3) then
        bif decide (p4_3 < (p4_1.length : Int)) then
          runs_Len_l0 k (IntKind.wrap .i64 (p4_0 + (IntKind.wrap .i64 ((IntKind.wrap .i64 (p4_1.getD (Int.toNat p4_3) ((0 : Int), (0 : Int))).2) + 1)))) p4_1 p4_2 (IntKind.wrap .i64 (p4_3 + 1))
        else none
      else none
    else
      some p4_0
def runs_Len (k : Nat) (a0 : (List (Int × Int))) : Option (Int) :=
  (runs_Len_l0 k 0 a0 (a0.length : Int) 0).bind fun y14 =>
  some y14

def runs_Has_1 (k : Nat) (a0 : (Int × Int)) (a1 : Int) : Option (Int) :=
  some (IntKind.wrap .i64 ((IntKind.wrap .i64 a0.1) - (IntKind.wrap .i64 a1)))

def slices_BinarySearchFunc_uint16_Has_1_l0 : Nat → (List (Int × Int)) → Int → Int → Int → Int → Option ((List (Int × Int)) × Int × Int × Int)
  | 0, _, _, _, _, _ => none
  | k + 1, p4_0, p4_1, p4_2, p4_3, p4_4 =>
    bif (decide (p4_3 < p4_4)) then
      let v12 := IntKind.wrap .i64 (p4_3 + p4_4)
      bif decide ((0 : Int) ≤ (IntKind.wrap .i64 (shrI .u64 (IntKind.wrap .u64 v12) 1))) then
        bif decide ((IntKind.wrap .i64 (shrI .u64 (IntKind.wrap .u64 v12) 1)) < (p4_0.length : Int)) then
          (runs_Has_1 k (p4_0.getD (Int.toNat (IntKind.wrap .i64 (shrI .u64 (IntKind.wrap .u64 v12) 1))) ((0 : Int), (0 : Int))) p4_1).bind fun y17 =>
          bif (decide (y17 < 0)) then
            slices_BinarySearchFunc_uint16_Has_1_l0 k p4_0 p4_1 p4_2 (IntKind.wrap .i64 ((IntKind.wrap .i64 (shrI .u64 (IntKind.wrap .u64 v12) 1)) + 1)) p4_4
          else
            slices_BinarySearchFunc_uint16_Has_1_l0 k p4_0 p4_1 p4_2 p4_3 (IntKind.wrap .i64 (shrI .u64 (IntKind.wrap .u64 v12) 1))
        else none
      else none
    else
      some (p4_0, p4_1, p4_2, p4_3)
def slices_BinarySearchFunc_uint16_Has_1 (k : Nat) (a0 : (List (Int × Int))) (a1 : Int) : Option (Int × Bool) :=
  (slices_BinarySearchFunc_uint16_Has_1_l0 k a0 a1 (a0.length : Int) 0 (a0.length : Int)).bind fun y20 =>
  bif (decide (y20.2.2.2 < y20.2.2.1)) then
    bif decide ((0 : Int) ≤ y20.2.2.2) then
      bif decide (y20.2.2.2 < (y20.1.length : Int)) then
        (runs_Has_1 k (y20.1.getD (Int.toNat y20.2.2.2) ((0 : Int), (0 : Int))) y20.2.1).bind fun y23 =>
        some (y20.2.2.2, (decide (y23 = 0)))
      else none
    else none
  else
    some (y20.2.2.2, false)

def runs_Has (k : Nat) (a0 : (List (Int × Int))) (a1 : Int) : Option (Bool) :=
  (slices_BinarySearchFunc_uint16_Has_1 k a0 a1).bind fun y1 =>
  bif y1.2 then
    some true
  else
    bif (decide ((0 : Int) < y1.1)) then
      let v4 := IntKind.wrap .i64 (y1.1 - 1)
      bif decide ((0 : Int) ≤ v4) then
        bif decide (v4 < (a0.length : Int)) then
          (runs_end k (a0.getD (Int.toNat v4) ((0 : Int), (0 : Int)))).bind fun y6 =>
          some (decide ((IntKind.wrap .i64 a1) < y6))
        else none
      else none
    else
      some false

def isinglasslaw06_RunsLaws_l0 : Nat → (List (Int × Int)) → Int → (List (Int × Int)) → (List (Int × Int)) → ((List (Int × Int)) × ((List (Int × Int)) × ((List (Int × Int)) × (List (Int × Int))))) → Int → Option ((Bool) ⊕ ((List (Int × Int)) × Int × (List (Int × Int)) × (List (Int × Int))))
  | 0, _, _, _, _, _, _ => none
  | k + 1, p8_0, p8_1, p8_2, p8_3, p8_4, p8_5 =>
    bif (decide (p8_5 < 4)) then
      bif decide (p8_5 = 0) then
        (runs_May k p8_4.1).bind fun y35 =>
        bif !y35 then
          some (.inl false)
        else
          isinglasslaw06_RunsLaws_l0 k p8_0 p8_1 p8_2 p8_3 p8_4 (IntKind.wrap .i64 (p8_5 + 1))
      else
        bif decide (p8_5 = 1) then
          (runs_May k p8_4.2.1).bind fun y37 =>
          bif !y37 then
            some (.inl false)
          else
            isinglasslaw06_RunsLaws_l0 k p8_0 p8_1 p8_2 p8_3 p8_4 (IntKind.wrap .i64 (p8_5 + 1))
        else
          bif decide (p8_5 = 2) then
            (runs_May k p8_4.2.2.1).bind fun y39 =>
            bif !y39 then
              some (.inl false)
            else
              isinglasslaw06_RunsLaws_l0 k p8_0 p8_1 p8_2 p8_3 p8_4 (IntKind.wrap .i64 (p8_5 + 1))
          else
            bif decide (p8_5 = 3) then
              (runs_May k p8_4.2.2.2).bind fun y41 =>
              bif !y41 then
                some (.inl false)
              else
                isinglasslaw06_RunsLaws_l0 k p8_0 p8_1 p8_2 p8_3 p8_4 (IntKind.wrap .i64 (p8_5 + 1))
            else
              none
    else
      some (.inr (p8_0, p8_1, p8_2, p8_3))
def isinglasslaw06_RunsLaws (k : Nat) (a0 : (List (Int × Int))) (a1 : (List (Int × Int))) (a2 : Int) (a3 : Int) (a4 : Int) : Option (Bool) :=
  bif (decide ((500 : Int) < (a0.length : Int))) then
    (isinglasslaw06_known k).bind fun y3 =>
    some y3
  else
    bif (decide ((500 : Int) < (a1.length : Int))) then
      (isinglasslaw06_known k).bind fun y6 =>
      some y6
    else
      (runs_May k a0).bind fun y7 =>
      bif !y7 then
        (isinglasslaw06_known k).bind fun y8 =>
        some y8
      else
        (runs_May k a1).bind fun y9 =>
        bif !y9 then
          (isinglasslaw06_known k).bind fun y10 =>
          some y10
        else
          (runs_AndNot k a0 a1).bind fun y11 =>
          (runs_And k a0 a1).bind fun y12 =>
          (runs_Xor k a0 a1).bind fun y13 =>
          (runs_Or k y11 y12).bind fun y14 =>
          (isinglassref06_Same k y14 a0).bind fun y15 =>
          bif !y15 then
            some false
          else
            (runs_Xor k y13 a1).bind fun y16 =>
            (isinglassref06_Same k y16 a0).bind fun y17 =>
            bif !y17 then
              some false
            else
              (runs_Flip k a0 a2 a3).bind fun y18 =>
              (runs_Flip k y18 a2 a3).bind fun y19 =>
              (isinglassref06_Same k y19 a0).bind fun y20 =>
              bif !y20 then
                some false
              else
                (runs_And k y11 a1).bind fun y21 =>
                bif (!(decide ((y21.length : Int) = 0))) then
                  some false
                else
                  (runs_Flip k a0 a2 a3).bind fun y24 =>
                  (isinglasslaw06_RunsLaws_l0 k a0 a4 y11 y12 (y11, (y12, (y13, y24))) 0).bind fun y43 =>
                  (match y43 with
                  | .inl y44 =>
                    some y44
                  | .inr y45 =>
                    (runs_Select k y45.1 y45.2.1).bind fun y46 =>
                    bif !y46.2 then
                      (runs_Rank k y45.1 70000).bind fun y47 =>
                      (runs_Len k y45.1).bind fun y48 =>
                      bif (decide (y47 = y48)) then
                        (runs_Len k y45.2.2.2).bind fun y50 =>
                        (runs_Len k y45.2.2.1).bind fun y51 =>
                        (runs_Len k y45.1).bind fun y53 =>
                        bif (decide ((IntKind.wrap .i64 (y50 + y51)) = y53)) then
                          (isinglasslaw06_known k).bind fun y55 =>
                          some y55
                        else
                          some false
                      else
                        some false
                    else
                      (runs_Rank k y45.1 (IntKind.wrap .i64 y46.1)).bind fun y57 =>
                      bif (decide (y57 = y45.2.1)) then
                        (runs_Has k y45.1 y46.1).bind fun y59 =>
                        bif y59 then
                          (runs_Rank k y45.1 (IntKind.wrap .i64 ((IntKind.wrap .i64 y46.1) + 1))).bind fun y62 =>
                          bif (decide (y62 = (IntKind.wrap .i64 (y45.2.1 + 1)))) then
                            (runs_Rank k y45.1 70000).bind fun y65 =>
                            (runs_Len k y45.1).bind fun y66 =>
                            bif (decide (y65 = y66)) then
                              (runs_Len k y45.2.2.2).bind fun y68 =>
                              (runs_Len k y45.2.2.1).bind fun y69 =>
                              (runs_Len k y45.1).bind fun y71 =>
                              bif (decide ((IntKind.wrap .i64 (y68 + y69)) = y71)) then
                                (isinglasslaw06_known k).bind fun y73 =>
                                some y73
                              else
                                some false
                            else
                              some false
                          else
                            some false
                        else
                          some false
                      else
                        some false)

end Go.Rx.Try

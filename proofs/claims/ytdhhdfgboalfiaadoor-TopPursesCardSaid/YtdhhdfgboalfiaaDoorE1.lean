import Derived.Test.YtdhhdfgboalfiaaDoorProg
import Derived.Test.YtdhhdfgboalfiaaDoorA18
set_option maxRecDepth 100000
set_option linter.unusedVariables false
namespace Go.Ab.T
open Go.Proofs
noncomputable def annT : Nat → Nat → Option Ann := fun f r => match f, r with
  | 3, 8 => some { live := [4, 5, 6, 7, 8, 9] }
  | 3, 14 => some { live := [8, 9, 10, 90, 91, 92] }
  | 3, 25 => some { live := [8, 9, 10, 12, 13, 14, 16, 90, 91, 92] }
  | 3, 30 => some { live := [8, 9, 10, 12, 13, 14, 16, 90, 91, 92] }
  | 3, 37 => some { live := [8, 9, 10, 12, 13, 14, 16, 90, 91, 92] }
  | 3, 46 => some { live := [8, 9, 10, 12, 13, 14, 16, 90, 91, 92] }
  | 3, 51 => some { live := [8, 9, 10, 12, 13, 14, 16, 90, 91, 92] }
  | 3, 53 => some { live := [8, 9, 10, 13, 14, 16, 17, 90, 91, 92] }
  | 4, 4 => some { live := [1, 5, 6, 30, 31, 32] }
  | 4, 26 => some { live := [1, 5, 6, 16, 17, 18, 30, 31, 32] }
  | 4, 29 => some { live := [1, 5, 6, 16, 17, 18, 19, 30, 31, 32] }
  | 4, 32 => some { live := [1, 5, 6, 16, 17, 18, 19, 30, 31, 32, 154] }
  | 5, 6 => some { live := [2, 8, 9, 10, 11, 12, 55] }
  | 5, 9 => some { live := [2, 8, 9, 10, 11, 12, 13, 55, 58, 59, 60] }
  | 5, 12 => some { live := [2, 8, 9, 10, 11, 12, 13, 14, 15, 55, 58, 59, 60, 65, 66, 67] }
  | 5, 27 => some { live := [2, 8, 9, 10, 11, 12, 20, 21, 22, 23, 158, 159, 160] }
  | 5, 34 => some { live := [2, 8, 9, 11, 12, 20, 21, 22, 23, 182, 183, 184] }
  | 5, 41 => some { live := [2, 8, 9, 12, 20, 21, 22, 23, 211, 212, 213] }
  | 6, 5 => some { live := [4, 5, 6, 7, 8, 9, 34, 35, 36] }
  | 17, 3 => some { live := [8, 9, 16, 17, 18] }
  | 18, 4 => some { live := [0, 1, 12, 13] }
  | 19, 2 => some { live := [0, 5, 6, 7] }
  | 20, 3 => some { live := [1, 5, 8, 9, 10] }
  | 21, 3 => some { live := [3, 11, 12, 13] }
  | 23, 3 => some { live := [0, 3, 9, 10, 11] }
  | 23, 11 => some { live := [6, 25, 26, 27] }
  | 24, 3 => some { live := [6, 7, 24, 25, 26] }
  | 25, 4 => some { live := [3, 4, 5, 9, 10, 11, 12, 25, 26, 27] }
  | 25, 10 => some { live := [3, 4, 5, 9, 10, 11, 12, 44, 45, 46] }
  | 25, 17 => some { live := [3, 4, 5, 9, 10, 11, 84, 85, 86] }
  | 25, 23 => some { live := [5, 9, 10, 11, 107, 108, 109] }
  | 26, 4 => some { live := [0, 1, 12, 13] }
  | 27, 4 => some { live := [0, 1, 12, 13] }
  | 31, 3 => some { live := [0, 1, 6, 7, 15, 16, 17] }
  | 37, 5 => some { live := [7, 8, 9] }
  | 41, 9 => some { live := [4, 5, 6] }
  | 44, 2 => some { live := [0, 1, 6, 7, 8] }
  | 45, 2 => some { live := [22, 23] }
  | 48, 3 => some { live := [0, 1, 5, 14, 15, 16] }
  | 48, 7 => some { live := [0, 1, 5, 6, 7, 14, 15, 16, 34, 35, 36] }
  | 49, 3 => some { live := [3, 6, 7, 8] }
  | 52, 2 => some { live := [0, 1, 7, 8] }
  | 54, 7 => some { live := [0, 3, 12, 13, 14] }
  | 55, 3 => some { live := [1, 6, 7, 12, 13, 14] }
  | 58, 2 => some { live := [0, 5, 6] }
  | 62, 17 => some { live := [2, 8, 9, 10, 11, 13, 14, 15, 16] }
  | 62, 24 => some { live := [2, 8, 9, 10, 14, 15, 16, 17, 18] }
  | 63, 2 => some { live := [0, 7, 8, 9] }
  | 70, 1 => some { live := [0, 1, 4] }
  | 71, 11 => some { live := [0, 1, 3, 4, 10, 11, 12, 13, 14, 15, 16] }
  | 71, 18 => some { live := [0, 1, 3, 4, 10, 11, 12, 13, 17] }
  | _, _ => none
noncomputable def gT : Nat → Option (List Cell) := fun g => match g with
  | 0 => some [.a (.v (.int .i64) (1:Int)), .a (.v (.int .i64) (10:Int)), .a (.v (.int .i64) (100:Int)), .a (.v (.int .i64) (1000:Int)), .a (.v (.int .i64) (10000:Int))]
  | _ => none
noncomputable def X0 : Ctx := { P := Tryd.prog, G := gT, ann := annT, con := fun _ => none }
noncomputable def inAmounts (k : Nat) (x : Int) : Option Bool := fnRun X0 7 9 (bodyOf Tryd.prog 7) [none] (.int .i64) [none] .bool k x
theorem inAmounts_eq (k : Nat) (x : Int) : inAmounts (k + 1) x =
  cond (decide (x ≥ (-1125899906842624 : Int)))
  (some (decide (x ≤ (1125899906842624 : Int))))
  (some false) := by kernel_rfl
noncomputable def co7 : Con := { args := [none], ash := (.int .i64), res := [none], rsh := .bool, own := false, F := inAmounts }
noncomputable def X7 : Ctx := addCon X0 7 co7
noncomputable def within (k : Nat) (x : (Int × (Int × Int))) : Option Bool := fnRun X7 38 15 (bodyOf Tryd.prog 38) [none, none, none] (.pair (.int .i64) (.pair (.int .i64) (.int .i64))) [none] .bool k x
theorem within_eq (k : Nat) (x : (Int × (Int × Int))) : within (k + 1) x =
  cond (decide (x.1 ≥ x.2.1))
  (some (decide (x.1 ≤ x.2.2)))
  (some false) := by kernel_rfl
noncomputable def co38 : Con := { args := [none, none, none], ash := (.pair (.int .i64) (.pair (.int .i64) (.int .i64))), res := [none], rsh := .bool, own := false, F := within }
noncomputable def X38 : Ctx := addCon X7 38 co38
noncomputable def valid (k : Nat) (x : Int) : Option Bool := fnRun X38 39 9 (bodyOf Tryd.prog 39) [none] (.int .i64) [none] .bool k x
theorem valid_eq (k : Nat) (x : Int) : valid (k + 1) x =
  cond (decide (x ≥ (-1125899906842624 : Int)))
  (some (decide (x ≤ (1125899906842624 : Int))))
  (some false) := by kernel_rfl
noncomputable def co39 : Con := { args := [none], ash := (.int .i64), res := [none], rsh := .bool, own := false, F := valid }
noncomputable def X39 : Ctx := addCon X38 39 co39
noncomputable def wCheck (k : Nat) (x : (Int × (Int × (Int × (Int × Int))))) : Option Int := fnRun X39 8 40 (bodyOf Tryd.prog 8) [some 5] (.pair (.int .i64) (.pair (.int .i64) (.pair (.int .i64) (.pair (.int .i64) (.int .i64))))) [none] (.int .i64) k x
theorem wCheck_eq (k : Nat) (x : (Int × (Int × (Int × (Int × Int))))) : wCheck (k + 1) x =
  Option.bind (within k (x.1, ((1 : Int), (9999 : Int)))) fun r1 =>
  cond (!r1)
  (some (6 : Int))
  (Option.bind (valid k x.2.1) fun r2 =>
    cond (!r2)
    (some (6 : Int))
    (Option.bind (within k (x.2.2.1, ((-1125899906842624 : Int), (0 : Int)))) fun r3 =>
      cond (!r3)
      (some (6 : Int))
      (Option.bind (within k (x.2.2.2.1, ((0 : Int), (1125899906842624 : Int)))) fun r4 =>
        cond (!r4)
        (some (6 : Int))
        (Option.bind (within k (x.2.2.2.2, ((-1 : Int), (12622780799 : Int)))) fun r5 =>
          cond (!r5)
          (some (6 : Int))
          (cond (decide ((IntKind.wrap .i64 (x.2.1 - x.2.2.2.1)) < x.2.2.1))
            (some (19 : Int))
            (some (0 : Int))))))) := by kernel_rfl
noncomputable def co8 : Con := { args := [some 5], ash := (.pair (.int .i64) (.pair (.int .i64) (.pair (.int .i64) (.pair (.int .i64) (.int .i64))))), res := [none], rsh := (.int .i64), own := false, F := wCheck }
noncomputable def X8 : Ctx := addCon X39 8 co8
noncomputable def wFree (k : Nat) (x : (Int × (Int × (Int × (Int × Int))))) : Option Int := fnRun X8 9 14 (bodyOf Tryd.prog 9) [some 5] (.pair (.int .i64) (.pair (.int .i64) (.pair (.int .i64) (.pair (.int .i64) (.int .i64))))) [none] (.int .i64) k x
theorem wFree_eq (k : Nat) (x : (Int × (Int × (Int × (Int × Int))))) : wFree (k + 1) x =
  Option.bind (wCheck k (x.1, (x.2.1, (x.2.2.1, (x.2.2.2.1, x.2.2.2.2))))) fun r6 =>
  cond (!(intBeq r6 (0 : Int)))
  (some (0 : Int))
  (some (IntKind.wrap .i64 ((IntKind.wrap .i64 (x.2.1 - x.2.2.2.1)) - x.2.2.1))) := by kernel_rfl
noncomputable def co9 : Con := { args := [some 5], ash := (.pair (.int .i64) (.pair (.int .i64) (.pair (.int .i64) (.pair (.int .i64) (.int .i64))))), res := [none], rsh := (.int .i64), own := false, F := wFree }
noncomputable def X9 : Ctx := addCon X8 9 co9
noncomputable def wResult (k : Nat) (x : ((Int × (Int × (Int × (Int × Int)))) × Int)) : Option ((Int × (Int × (Int × (Int × Int)))) × Int) := fnRun X9 40 11 (bodyOf Tryd.prog 40) [some 5, none] (.pair (.pair (.int .i64) (.pair (.int .i64) (.pair (.int .i64) (.pair (.int .i64) (.int .i64))))) (.int .i64)) [some 5, none] (.pair (.pair (.int .i64) (.pair (.int .i64) (.pair (.int .i64) (.pair (.int .i64) (.int .i64))))) (.int .i64)) k x
theorem wResult_eq (k : Nat) (x : ((Int × (Int × (Int × (Int × Int)))) × Int)) : wResult (k + 1) x =
  cond (!(intBeq x.2 (0 : Int)))
  (some (((0 : Int), ((0 : Int), ((0 : Int), ((0 : Int), (0 : Int))))), x.2))
  (some ((x.1.1, (x.1.2.1, (x.1.2.2.1, (x.1.2.2.2.1, x.1.2.2.2.2)))), (0 : Int))) := by kernel_rfl
noncomputable def co40 : Con := { args := [some 5, none], ash := (.pair (.pair (.int .i64) (.pair (.int .i64) (.pair (.int .i64) (.pair (.int .i64) (.int .i64))))) (.int .i64)), res := [some 5, none], rsh := (.pair (.pair (.int .i64) (.pair (.int .i64) (.pair (.int .i64) (.pair (.int .i64) (.int .i64))))) (.int .i64)), own := false, F := wResult }
noncomputable def X40 : Ctx := addCon X9 40 co40
noncomputable def wCredit (k : Nat) (x : ((Int × (Int × (Int × (Int × Int)))) × Int)) : Option ((Int × (Int × (Int × (Int × Int)))) × Int) := fnRun X40 10 37 (bodyOf Tryd.prog 10) [some 5, none] (.pair (.pair (.int .i64) (.pair (.int .i64) (.pair (.int .i64) (.pair (.int .i64) (.int .i64))))) (.int .i64)) [some 5, none] (.pair (.pair (.int .i64) (.pair (.int .i64) (.pair (.int .i64) (.pair (.int .i64) (.int .i64))))) (.int .i64)) k x
theorem wCredit_eq (k : Nat) (x : ((Int × (Int × (Int × (Int × Int)))) × Int)) : wCredit (k + 1) x =
  Option.bind (wCheck k (x.1.1, (x.1.2.1, (x.1.2.2.1, (x.1.2.2.2.1, x.1.2.2.2.2))))) fun r7 =>
  cond (!(intBeq r7 (0 : Int)))
  (Option.bind (wResult k ((x.1.1, (x.1.2.1, (x.1.2.2.1, (x.1.2.2.2.1, x.1.2.2.2.2)))), r7)) fun r8 =>
    some ((r8.1.1, (r8.1.2.1, (r8.1.2.2.1, (r8.1.2.2.2.1, r8.1.2.2.2.2)))), r8.2))
  (Option.bind (within k (x.2, ((0 : Int), (1125899906842624 : Int)))) fun r9 =>
    cond (!r9)
    (Option.bind (wResult k ((x.1.1, (x.1.2.1, (x.1.2.2.1, (x.1.2.2.2.1, x.1.2.2.2.2)))), (6 : Int))) fun r10 =>
      some ((r10.1.1, (r10.1.2.1, (r10.1.2.2.1, (r10.1.2.2.2.1, r10.1.2.2.2.2)))), r10.2))
    (Option.bind (valid k (IntKind.wrap .i64 (x.1.2.1 + x.2))) fun r11 =>
      cond (!r11)
      (Option.bind (wResult k ((x.1.1, (x.1.2.1, (x.1.2.2.1, (x.1.2.2.2.1, x.1.2.2.2.2)))), (6 : Int))) fun r12 =>
        some ((r12.1.1, (r12.1.2.1, (r12.1.2.2.1, (r12.1.2.2.2.1, r12.1.2.2.2.2)))), r12.2))
      (some ((x.1.1, ((IntKind.wrap .i64 (x.1.2.1 + x.2)), (x.1.2.2.1, (x.1.2.2.2.1, x.1.2.2.2.2)))), (0 : Int))))) := by kernel_rfl
noncomputable def co10 : Con := { args := [some 5, none], ash := (.pair (.pair (.int .i64) (.pair (.int .i64) (.pair (.int .i64) (.pair (.int .i64) (.int .i64))))) (.int .i64)), res := [some 5, none], rsh := (.pair (.pair (.int .i64) (.pair (.int .i64) (.pair (.int .i64) (.pair (.int .i64) (.int .i64))))) (.int .i64)), own := false, F := wCredit }
noncomputable def X10 : Ctx := addCon X40 10 co10
noncomputable def wDebit (k : Nat) (x : ((Int × (Int × (Int × (Int × Int)))) × Int)) : Option ((Int × (Int × (Int × (Int × Int)))) × Int) := fnRun X10 11 37 (bodyOf Tryd.prog 11) [some 5, none] (.pair (.pair (.int .i64) (.pair (.int .i64) (.pair (.int .i64) (.pair (.int .i64) (.int .i64))))) (.int .i64)) [some 5, none] (.pair (.pair (.int .i64) (.pair (.int .i64) (.pair (.int .i64) (.pair (.int .i64) (.int .i64))))) (.int .i64)) k x
theorem wDebit_eq (k : Nat) (x : ((Int × (Int × (Int × (Int × Int)))) × Int)) : wDebit (k + 1) x =
  Option.bind (wCheck k (x.1.1, (x.1.2.1, (x.1.2.2.1, (x.1.2.2.2.1, x.1.2.2.2.2))))) fun r13 =>
  cond (!(intBeq r13 (0 : Int)))
  (Option.bind (wResult k ((x.1.1, (x.1.2.1, (x.1.2.2.1, (x.1.2.2.2.1, x.1.2.2.2.2)))), r13)) fun r14 =>
    some ((r14.1.1, (r14.1.2.1, (r14.1.2.2.1, (r14.1.2.2.2.1, r14.1.2.2.2.2)))), r14.2))
  (Option.bind (within k (x.2, ((0 : Int), (1125899906842624 : Int)))) fun r15 =>
    cond (!r15)
    (Option.bind (wResult k ((x.1.1, (x.1.2.1, (x.1.2.2.1, (x.1.2.2.2.1, x.1.2.2.2.2)))), (6 : Int))) fun r16 =>
      some ((r16.1.1, (r16.1.2.1, (r16.1.2.2.1, (r16.1.2.2.2.1, r16.1.2.2.2.2)))), r16.2))
    (Option.bind (wFree k (x.1.1, (x.1.2.1, (x.1.2.2.1, (x.1.2.2.2.1, x.1.2.2.2.2))))) fun r17 =>
      cond (decide (x.2 > r17))
      (Option.bind (wResult k ((x.1.1, (x.1.2.1, (x.1.2.2.1, (x.1.2.2.2.1, x.1.2.2.2.2)))), (19 : Int))) fun r18 =>
        some ((r18.1.1, (r18.1.2.1, (r18.1.2.2.1, (r18.1.2.2.2.1, r18.1.2.2.2.2)))), r18.2))
      (some ((x.1.1, ((IntKind.wrap .i64 (x.1.2.1 - x.2)), (x.1.2.2.1, (x.1.2.2.2.1, x.1.2.2.2.2)))), (0 : Int))))) := by kernel_rfl
noncomputable def co11 : Con := { args := [some 5, none], ash := (.pair (.pair (.int .i64) (.pair (.int .i64) (.pair (.int .i64) (.pair (.int .i64) (.int .i64))))) (.int .i64)), res := [some 5, none], rsh := (.pair (.pair (.int .i64) (.pair (.int .i64) (.pair (.int .i64) (.pair (.int .i64) (.int .i64))))) (.int .i64)), own := false, F := wDebit }
noncomputable def X11 : Ctx := addCon X10 11 co11
noncomputable def wHold (k : Nat) (x : ((Int × (Int × (Int × (Int × Int)))) × Int)) : Option ((Int × (Int × (Int × (Int × Int)))) × Int) := fnRun X11 12 46 (bodyOf Tryd.prog 12) [some 5, none] (.pair (.pair (.int .i64) (.pair (.int .i64) (.pair (.int .i64) (.pair (.int .i64) (.int .i64))))) (.int .i64)) [some 5, none] (.pair (.pair (.int .i64) (.pair (.int .i64) (.pair (.int .i64) (.pair (.int .i64) (.int .i64))))) (.int .i64)) k x
theorem wHold_eq (k : Nat) (x : ((Int × (Int × (Int × (Int × Int)))) × Int)) : wHold (k + 1) x =
  Option.bind (wCheck k (x.1.1, (x.1.2.1, (x.1.2.2.1, (x.1.2.2.2.1, x.1.2.2.2.2))))) fun r19 =>
  cond (!(intBeq r19 (0 : Int)))
  (Option.bind (wResult k ((x.1.1, (x.1.2.1, (x.1.2.2.1, (x.1.2.2.2.1, x.1.2.2.2.2)))), r19)) fun r20 =>
    some ((r20.1.1, (r20.1.2.1, (r20.1.2.2.1, (r20.1.2.2.2.1, r20.1.2.2.2.2)))), r20.2))
  (Option.bind (within k (x.2, ((0 : Int), (1125899906842624 : Int)))) fun r21 =>
    cond (!r21)
    (Option.bind (wResult k ((x.1.1, (x.1.2.1, (x.1.2.2.1, (x.1.2.2.2.1, x.1.2.2.2.2)))), (6 : Int))) fun r22 =>
      some ((r22.1.1, (r22.1.2.1, (r22.1.2.2.1, (r22.1.2.2.2.1, r22.1.2.2.2.2)))), r22.2))
    (Option.bind (wFree k (x.1.1, (x.1.2.1, (x.1.2.2.1, (x.1.2.2.2.1, x.1.2.2.2.2))))) fun r23 =>
      cond (decide (x.2 > r23))
      (Option.bind (wResult k ((x.1.1, (x.1.2.1, (x.1.2.2.1, (x.1.2.2.2.1, x.1.2.2.2.2)))), (19 : Int))) fun r24 =>
        some ((r24.1.1, (r24.1.2.1, (r24.1.2.2.1, (r24.1.2.2.2.1, r24.1.2.2.2.2)))), r24.2))
      (cond (decide ((IntKind.wrap .i64 (x.1.2.2.2.1 + x.2)) > (1125899906842624 : Int)))
        (Option.bind (wResult k ((x.1.1, (x.1.2.1, (x.1.2.2.1, (x.1.2.2.2.1, x.1.2.2.2.2)))), (6 : Int))) fun r25 =>
          some ((r25.1.1, (r25.1.2.1, (r25.1.2.2.1, (r25.1.2.2.2.1, r25.1.2.2.2.2)))), r25.2))
        (some ((x.1.1, (x.1.2.1, (x.1.2.2.1, ((IntKind.wrap .i64 (x.1.2.2.2.1 + x.2)), x.1.2.2.2.2)))), (0 : Int)))))) := by kernel_rfl
noncomputable def co12 : Con := { args := [some 5, none], ash := (.pair (.pair (.int .i64) (.pair (.int .i64) (.pair (.int .i64) (.pair (.int .i64) (.int .i64))))) (.int .i64)), res := [some 5, none], rsh := (.pair (.pair (.int .i64) (.pair (.int .i64) (.pair (.int .i64) (.pair (.int .i64) (.int .i64))))) (.int .i64)), own := false, F := wHold }
noncomputable def X12 : Ctx := addCon X11 12 co12
noncomputable def wSettle (k : Nat) (x : ((Int × (Int × (Int × (Int × Int)))) × (Int × Int))) : Option ((Int × (Int × (Int × (Int × Int)))) × Int) := fnRun X12 13 43 (bodyOf Tryd.prog 13) [some 5, none, none] (.pair (.pair (.int .i64) (.pair (.int .i64) (.pair (.int .i64) (.pair (.int .i64) (.int .i64))))) (.pair (.int .i64) (.int .i64))) [some 5, none] (.pair (.pair (.int .i64) (.pair (.int .i64) (.pair (.int .i64) (.pair (.int .i64) (.int .i64))))) (.int .i64)) k x
theorem wSettle_eq (k : Nat) (x : ((Int × (Int × (Int × (Int × Int)))) × (Int × Int))) : wSettle (k + 1) x =
  Option.bind (wCheck k (x.1.1, (x.1.2.1, (x.1.2.2.1, (x.1.2.2.2.1, x.1.2.2.2.2))))) fun r26 =>
  cond (!(intBeq r26 (0 : Int)))
  (Option.bind (wResult k ((x.1.1, (x.1.2.1, (x.1.2.2.1, (x.1.2.2.2.1, x.1.2.2.2.2)))), r26)) fun r27 =>
    some ((r27.1.1, (r27.1.2.1, (r27.1.2.2.1, (r27.1.2.2.2.1, r27.1.2.2.2.2)))), r27.2))
  (Option.bind (within k (x.2.2, ((0 : Int), x.2.1))) fun r28 =>
    cond (!r28)
    (Option.bind (wResult k ((x.1.1, (x.1.2.1, (x.1.2.2.1, (x.1.2.2.2.1, x.1.2.2.2.2)))), (6 : Int))) fun r29 =>
      some ((r29.1.1, (r29.1.2.1, (r29.1.2.2.1, (r29.1.2.2.2.1, r29.1.2.2.2.2)))), r29.2))
    (cond (decide (x.2.1 > x.1.2.2.2.1))
      (Option.bind (wResult k ((x.1.1, (x.1.2.1, (x.1.2.2.1, (x.1.2.2.2.1, x.1.2.2.2.2)))), (6 : Int))) fun r30 =>
        some ((r30.1.1, (r30.1.2.1, (r30.1.2.2.1, (r30.1.2.2.2.1, r30.1.2.2.2.2)))), r30.2))
      (some ((x.1.1, ((IntKind.wrap .i64 (x.1.2.1 - x.2.2)), (x.1.2.2.1, ((IntKind.wrap .i64 (x.1.2.2.2.1 - x.2.1)), x.1.2.2.2.2)))), (0 : Int))))) := by kernel_rfl
noncomputable def co13 : Con := { args := [some 5, none, none], ash := (.pair (.pair (.int .i64) (.pair (.int .i64) (.pair (.int .i64) (.pair (.int .i64) (.int .i64))))) (.pair (.int .i64) (.int .i64))), res := [some 5, none], rsh := (.pair (.pair (.int .i64) (.pair (.int .i64) (.pair (.int .i64) (.pair (.int .i64) (.int .i64))))) (.int .i64)), own := false, F := wSettle }
noncomputable def X13 : Ctx := addCon X12 13 co13
noncomputable def wFloor (k : Nat) (x : ((Int × (Int × (Int × (Int × Int)))) × Int)) : Option ((Int × (Int × (Int × (Int × Int)))) × Int) := fnRun X13 14 37 (bodyOf Tryd.prog 14) [some 5, none] (.pair (.pair (.int .i64) (.pair (.int .i64) (.pair (.int .i64) (.pair (.int .i64) (.int .i64))))) (.int .i64)) [some 5, none] (.pair (.pair (.int .i64) (.pair (.int .i64) (.pair (.int .i64) (.pair (.int .i64) (.int .i64))))) (.int .i64)) k x
theorem wFloor_eq (k : Nat) (x : ((Int × (Int × (Int × (Int × Int)))) × Int)) : wFloor (k + 1) x =
  Option.bind (wCheck k (x.1.1, (x.1.2.1, (x.1.2.2.1, (x.1.2.2.2.1, x.1.2.2.2.2))))) fun r31 =>
  cond (!(intBeq r31 (0 : Int)))
  (Option.bind (wResult k ((x.1.1, (x.1.2.1, (x.1.2.2.1, (x.1.2.2.2.1, x.1.2.2.2.2)))), r31)) fun r32 =>
    some ((r32.1.1, (r32.1.2.1, (r32.1.2.2.1, (r32.1.2.2.2.1, r32.1.2.2.2.2)))), r32.2))
  (Option.bind (within k (x.2, ((-1125899906842624 : Int), (0 : Int)))) fun r33 =>
    cond (!r33)
    (Option.bind (wResult k ((x.1.1, (x.1.2.1, (x.1.2.2.1, (x.1.2.2.2.1, x.1.2.2.2.2)))), (6 : Int))) fun r34 =>
      some ((r34.1.1, (r34.1.2.1, (r34.1.2.2.1, (r34.1.2.2.2.1, r34.1.2.2.2.2)))), r34.2))
    (cond (decide ((IntKind.wrap .i64 (x.1.2.1 - x.1.2.2.2.1)) < x.2))
      (Option.bind (wResult k ((x.1.1, (x.1.2.1, (x.1.2.2.1, (x.1.2.2.2.1, x.1.2.2.2.2)))), (19 : Int))) fun r35 =>
        some ((r35.1.1, (r35.1.2.1, (r35.1.2.2.1, (r35.1.2.2.2.1, r35.1.2.2.2.2)))), r35.2))
      (some ((x.1.1, (x.1.2.1, (x.2, (x.1.2.2.2.1, x.1.2.2.2.2)))), (0 : Int))))) := by kernel_rfl
noncomputable def co14 : Con := { args := [some 5, none], ash := (.pair (.pair (.int .i64) (.pair (.int .i64) (.pair (.int .i64) (.pair (.int .i64) (.int .i64))))) (.int .i64)), res := [some 5, none], rsh := (.pair (.pair (.int .i64) (.pair (.int .i64) (.pair (.int .i64) (.pair (.int .i64) (.int .i64))))) (.int .i64)), own := false, F := wFloor }
noncomputable def X14 : Ctx := addCon X13 14 co14
noncomputable def pays (k : Nat) (x : Unit) : Option Bool := fnRun X0 15 20 (bodyOf Tryd.prog 15) [] .unit [none] .bool k x
theorem pays_ok (k : Nat) : pays (k + 60) () = some true := by kernel_rfl
noncomputable def co15 : Con := { args := [], ash := .unit, res := [none], rsh := .bool, own := false, F := pays }
noncomputable def X15 : Ctx := addCon X14 15 co15
noncomputable def tp (k : Nat) (x : (Int × (Int × (Int × (Int × (List (Int × (Int × Int)))))))) : Option Bool := fnRun X15 3 295 (bodyOf Tryd.prog 3) [some 5] (.pair (.int .i64) (.pair (.int .i64) (.pair (.int .i64) (.pair (.int .i64) (.lst (.pair (.int .u8) (.pair (.int .i64) (.int .i64)))))))) [none] .bool k x
noncomputable def tp_R8 (k : Nat) (a0 : Int) (a1 : Int) (a2 : Int) (a3 : (List (Int × (Int × Int)))) (a4 : Int) (a5 : Int) (a6 : Int) (a7 : Int) (a8 : Int) (a9 : Int) : Option Bool := run X15 (finCon [none] .bool) k { fr := { fid := 3, nt := 295, env := [(4, .c (.a (.v (.int .i64) (show Int from a0)))), (5, .c (.a (.v (.int .i64) (show Int from a1)))), (6, .c (.a (.v (.int .i64) (show Int from a2)))), (7, .c (.a (.v (.lst (.pair (.int .u8) (.pair (.int .i64) (.int .i64)))) (show (List (Int × (Int × Int))) from a3)))), (8, .c (.a (.ptr (.box 0) 0))), (9, .c (.a (.v (.int .i64) (show Int from a4))))], todo := contOf (bodyOf Tryd.prog 3) 8 }, cs := [], objs := [(0, .box [.a (.v (.int .i64) (show Int from a5)), .a (.v (.int .i64) (show Int from a6)), .a (.v (.int .i64) (show Int from a7)), .a (.v (.int .i64) (show Int from a8)), .a (.v (.int .i64) (show Int from a9))])], nx := 1 }
noncomputable def tp_R14 (k : Nat) (a0 : Int) (a1 : Int) (a2 : (List (Int × (Int × Int)))) (a3 : Int) (a4 : Int) (a5 : Int) (a6 : Int) (a7 : Int) (a8 : Int) (a9 : Int) : Option Bool := run X15 (finCon [none] .bool) k { fr := { fid := 3, nt := 295, env := [(8, .c (.a (.ptr (.box 0) 0))), (9, .c (.a (.v (.int .i64) (show Int from a0)))), (10, .c (.a (.v (.int .i64) (show Int from a1)))), (90, .c (.a (.v (.lst (.pair (.int .u8) (.pair (.int .i64) (.int .i64)))) (show (List (Int × (Int × Int))) from a2)))), (91, .c (.a (.v (.int .i64) (show Int from a3)))), (92, .c (.a (.v (.int .i64) (show Int from a4))))], todo := contOf (bodyOf Tryd.prog 3) 14 }, cs := [], objs := [(0, .box [.a (.v (.int .i64) (show Int from a5)), .a (.v (.int .i64) (show Int from a6)), .a (.v (.int .i64) (show Int from a7)), .a (.v (.int .i64) (show Int from a8)), .a (.v (.int .i64) (show Int from a9))])], nx := 1 }
noncomputable def tp_R30 (k : Nat) (a0 : Int) (a1 : Int) (a2 : Int) (a3 : (List (Int × (Int × Int)))) (a4 : Int) (a5 : Int) (a6 : Int) (a7 : Int) (a8 : Int) (a9 : Int) (a10 : Int) (a11 : Int) (a12 : Int) (a13 : Int) (a14 : Int) (a15 : Int) (a16 : Int) (a17 : Int) (a18 : Int) (a19 : Int) (a20 : Int) (a21 : Int) (a22 : Int) (a23 : Int) : Option Bool := run X15 (finCon [none] .bool) k { fr := { fid := 3, nt := 295, env := [(8, .c (.a (.ptr (.box 0) 0))), (9, .c (.a (.v (.int .i64) (show Int from a0)))), (10, .c (.a (.v (.int .i64) (show Int from a1)))), (12, .c (.a (.ptr (.box 1) 0))), (13, .c (.a (.ptr (.box 2) 0))), (14, .c (.a (.v (.int .i64) (show Int from a2)))), (16, .c (.a (.ptr (.box 3) 0))), (90, .c (.a (.v (.lst (.pair (.int .u8) (.pair (.int .i64) (.int .i64)))) (show (List (Int × (Int × Int))) from a3)))), (91, .c (.a (.v (.int .i64) (show Int from a4)))), (92, .c (.a (.v (.int .i64) (show Int from a5))))], todo := contOf (bodyOf Tryd.prog 3) 30 }, cs := [], objs := [(0, .box [.a (.v (.int .i64) (show Int from a6)), .a (.v (.int .i64) (show Int from a7)), .a (.v (.int .i64) (show Int from a8)), .a (.v (.int .i64) (show Int from a9)), .a (.v (.int .i64) (show Int from a10))]), (1, .box [.a (.v (.int .u8) (show Int from a11)), .a (.v (.int .i64) (show Int from a12)), .a (.v (.int .i64) (show Int from a13))]), (2, .box [.a (.v (.int .i64) (show Int from a14)), .a (.v (.int .i64) (show Int from a15)), .a (.v (.int .i64) (show Int from a16)), .a (.v (.int .i64) (show Int from a17)), .a (.v (.int .i64) (show Int from a18))]), (3, .box [.a (.v (.int .i64) (show Int from a19)), .a (.v (.int .i64) (show Int from a20)), .a (.v (.int .i64) (show Int from a21)), .a (.v (.int .i64) (show Int from a22)), .a (.v (.int .i64) (show Int from a23))])], nx := 4 }
noncomputable def tp_R37 (k : Nat) (a0 : Int) (a1 : Int) (a2 : Int) (a3 : (List (Int × (Int × Int)))) (a4 : Int) (a5 : Int) (a6 : Int) (a7 : Int) (a8 : Int) (a9 : Int) (a10 : Int) (a11 : Int) (a12 : Int) (a13 : Int) (a14 : Int) (a15 : Int) (a16 : Int) (a17 : Int) (a18 : Int) (a19 : Int) (a20 : Int) (a21 : Int) (a22 : Int) (a23 : Int) : Option Bool := run X15 (finCon [none] .bool) k { fr := { fid := 3, nt := 295, env := [(8, .c (.a (.ptr (.box 0) 0))), (9, .c (.a (.v (.int .i64) (show Int from a0)))), (10, .c (.a (.v (.int .i64) (show Int from a1)))), (12, .c (.a (.ptr (.box 1) 0))), (13, .c (.a (.ptr (.box 2) 0))), (14, .c (.a (.v (.int .i64) (show Int from a2)))), (16, .c (.a (.ptr (.box 3) 0))), (90, .c (.a (.v (.lst (.pair (.int .u8) (.pair (.int .i64) (.int .i64)))) (show (List (Int × (Int × Int))) from a3)))), (91, .c (.a (.v (.int .i64) (show Int from a4)))), (92, .c (.a (.v (.int .i64) (show Int from a5))))], todo := contOf (bodyOf Tryd.prog 3) 37 }, cs := [], objs := [(0, .box [.a (.v (.int .i64) (show Int from a6)), .a (.v (.int .i64) (show Int from a7)), .a (.v (.int .i64) (show Int from a8)), .a (.v (.int .i64) (show Int from a9)), .a (.v (.int .i64) (show Int from a10))]), (1, .box [.a (.v (.int .u8) (show Int from a11)), .a (.v (.int .i64) (show Int from a12)), .a (.v (.int .i64) (show Int from a13))]), (2, .box [.a (.v (.int .i64) (show Int from a14)), .a (.v (.int .i64) (show Int from a15)), .a (.v (.int .i64) (show Int from a16)), .a (.v (.int .i64) (show Int from a17)), .a (.v (.int .i64) (show Int from a18))]), (3, .box [.a (.v (.int .i64) (show Int from a19)), .a (.v (.int .i64) (show Int from a20)), .a (.v (.int .i64) (show Int from a21)), .a (.v (.int .i64) (show Int from a22)), .a (.v (.int .i64) (show Int from a23))])], nx := 4 }
noncomputable def tp_R46 (k : Nat) (a0 : Int) (a1 : Int) (a2 : Int) (a3 : (List (Int × (Int × Int)))) (a4 : Int) (a5 : Int) (a6 : Int) (a7 : Int) (a8 : Int) (a9 : Int) (a10 : Int) (a11 : Int) (a12 : Int) (a13 : Int) (a14 : Int) (a15 : Int) (a16 : Int) (a17 : Int) (a18 : Int) (a19 : Int) (a20 : Int) (a21 : Int) (a22 : Int) (a23 : Int) : Option Bool := run X15 (finCon [none] .bool) k { fr := { fid := 3, nt := 295, env := [(8, .c (.a (.ptr (.box 0) 0))), (9, .c (.a (.v (.int .i64) (show Int from a0)))), (10, .c (.a (.v (.int .i64) (show Int from a1)))), (12, .c (.a (.ptr (.box 1) 0))), (13, .c (.a (.ptr (.box 2) 0))), (14, .c (.a (.v (.int .i64) (show Int from a2)))), (16, .c (.a (.ptr (.box 3) 0))), (90, .c (.a (.v (.lst (.pair (.int .u8) (.pair (.int .i64) (.int .i64)))) (show (List (Int × (Int × Int))) from a3)))), (91, .c (.a (.v (.int .i64) (show Int from a4)))), (92, .c (.a (.v (.int .i64) (show Int from a5))))], todo := contOf (bodyOf Tryd.prog 3) 46 }, cs := [], objs := [(0, .box [.a (.v (.int .i64) (show Int from a6)), .a (.v (.int .i64) (show Int from a7)), .a (.v (.int .i64) (show Int from a8)), .a (.v (.int .i64) (show Int from a9)), .a (.v (.int .i64) (show Int from a10))]), (1, .box [.a (.v (.int .u8) (show Int from a11)), .a (.v (.int .i64) (show Int from a12)), .a (.v (.int .i64) (show Int from a13))]), (2, .box [.a (.v (.int .i64) (show Int from a14)), .a (.v (.int .i64) (show Int from a15)), .a (.v (.int .i64) (show Int from a16)), .a (.v (.int .i64) (show Int from a17)), .a (.v (.int .i64) (show Int from a18))]), (3, .box [.a (.v (.int .i64) (show Int from a19)), .a (.v (.int .i64) (show Int from a20)), .a (.v (.int .i64) (show Int from a21)), .a (.v (.int .i64) (show Int from a22)), .a (.v (.int .i64) (show Int from a23))])], nx := 4 }
noncomputable def tp_R51 (k : Nat) (a0 : Int) (a1 : Int) (a2 : Int) (a3 : (List (Int × (Int × Int)))) (a4 : Int) (a5 : Int) (a6 : Int) (a7 : Int) (a8 : Int) (a9 : Int) (a10 : Int) (a11 : Int) (a12 : Int) (a13 : Int) (a14 : Int) (a15 : Int) (a16 : Int) (a17 : Int) (a18 : Int) (a19 : Int) (a20 : Int) (a21 : Int) (a22 : Int) (a23 : Int) : Option Bool := run X15 (finCon [none] .bool) k { fr := { fid := 3, nt := 295, env := [(8, .c (.a (.ptr (.box 0) 0))), (9, .c (.a (.v (.int .i64) (show Int from a0)))), (10, .c (.a (.v (.int .i64) (show Int from a1)))), (12, .c (.a (.ptr (.box 1) 0))), (13, .c (.a (.ptr (.box 2) 0))), (14, .c (.a (.v (.int .i64) (show Int from a2)))), (16, .c (.a (.ptr (.box 3) 0))), (90, .c (.a (.v (.lst (.pair (.int .u8) (.pair (.int .i64) (.int .i64)))) (show (List (Int × (Int × Int))) from a3)))), (91, .c (.a (.v (.int .i64) (show Int from a4)))), (92, .c (.a (.v (.int .i64) (show Int from a5))))], todo := contOf (bodyOf Tryd.prog 3) 51 }, cs := [], objs := [(0, .box [.a (.v (.int .i64) (show Int from a6)), .a (.v (.int .i64) (show Int from a7)), .a (.v (.int .i64) (show Int from a8)), .a (.v (.int .i64) (show Int from a9)), .a (.v (.int .i64) (show Int from a10))]), (1, .box [.a (.v (.int .u8) (show Int from a11)), .a (.v (.int .i64) (show Int from a12)), .a (.v (.int .i64) (show Int from a13))]), (2, .box [.a (.v (.int .i64) (show Int from a14)), .a (.v (.int .i64) (show Int from a15)), .a (.v (.int .i64) (show Int from a16)), .a (.v (.int .i64) (show Int from a17)), .a (.v (.int .i64) (show Int from a18))]), (3, .box [.a (.v (.int .i64) (show Int from a19)), .a (.v (.int .i64) (show Int from a20)), .a (.v (.int .i64) (show Int from a21)), .a (.v (.int .i64) (show Int from a22)), .a (.v (.int .i64) (show Int from a23))])], nx := 4 }
noncomputable def tp_R25 (k : Nat) (a0 : Int) (a1 : Int) (a2 : Int) (a3 : (List (Int × (Int × Int)))) (a4 : Int) (a5 : Int) (a6 : Int) (a7 : Int) (a8 : Int) (a9 : Int) (a10 : Int) (a11 : Int) (a12 : Int) (a13 : Int) (a14 : Int) (a15 : Int) (a16 : Int) (a17 : Int) (a18 : Int) (a19 : Int) (a20 : Int) (a21 : Int) (a22 : Int) (a23 : Int) : Option Bool := run X15 (finCon [none] .bool) k { fr := { fid := 3, nt := 295, env := [(8, .c (.a (.ptr (.box 0) 0))), (9, .c (.a (.v (.int .i64) (show Int from a0)))), (10, .c (.a (.v (.int .i64) (show Int from a1)))), (12, .c (.a (.ptr (.box 1) 0))), (13, .c (.a (.ptr (.box 2) 0))), (14, .c (.a (.v (.int .i64) (show Int from a2)))), (16, .c (.a (.ptr (.box 3) 0))), (90, .c (.a (.v (.lst (.pair (.int .u8) (.pair (.int .i64) (.int .i64)))) (show (List (Int × (Int × Int))) from a3)))), (91, .c (.a (.v (.int .i64) (show Int from a4)))), (92, .c (.a (.v (.int .i64) (show Int from a5))))], todo := contOf (bodyOf Tryd.prog 3) 25 }, cs := [], objs := [(0, .box [.a (.v (.int .i64) (show Int from a6)), .a (.v (.int .i64) (show Int from a7)), .a (.v (.int .i64) (show Int from a8)), .a (.v (.int .i64) (show Int from a9)), .a (.v (.int .i64) (show Int from a10))]), (1, .box [.a (.v (.int .u8) (show Int from a11)), .a (.v (.int .i64) (show Int from a12)), .a (.v (.int .i64) (show Int from a13))]), (2, .box [.a (.v (.int .i64) (show Int from a14)), .a (.v (.int .i64) (show Int from a15)), .a (.v (.int .i64) (show Int from a16)), .a (.v (.int .i64) (show Int from a17)), .a (.v (.int .i64) (show Int from a18))]), (3, .box [.a (.v (.int .i64) (show Int from a19)), .a (.v (.int .i64) (show Int from a20)), .a (.v (.int .i64) (show Int from a21)), .a (.v (.int .i64) (show Int from a22)), .a (.v (.int .i64) (show Int from a23))])], nx := 4 }
noncomputable def tp_R53 (k : Nat) (a0 : Int) (a1 : Int) (a2 : Int) (a3 : Int) (a4 : (List (Int × (Int × Int)))) (a5 : Int) (a6 : Int) (a7 : Int) (a8 : Int) (a9 : Int) (a10 : Int) (a11 : Int) (a12 : Int) (a13 : Int) (a14 : Int) (a15 : Int) (a16 : Int) (a17 : Int) (a18 : Int) (a19 : Int) (a20 : Int) (a21 : Int) : Option Bool := run X15 (finCon [none] .bool) k { fr := { fid := 3, nt := 295, env := [(8, .c (.a (.ptr (.box 0) 0))), (9, .c (.a (.v (.int .i64) (show Int from a0)))), (10, .c (.a (.v (.int .i64) (show Int from a1)))), (13, .c (.a (.ptr (.box 1) 0))), (14, .c (.a (.v (.int .i64) (show Int from a2)))), (16, .c (.a (.ptr (.box 2) 0))), (17, .c (.a (.v (.int .i64) (show Int from a3)))), (90, .c (.a (.v (.lst (.pair (.int .u8) (.pair (.int .i64) (.int .i64)))) (show (List (Int × (Int × Int))) from a4)))), (91, .c (.a (.v (.int .i64) (show Int from a5)))), (92, .c (.a (.v (.int .i64) (show Int from a6))))], todo := contOf (bodyOf Tryd.prog 3) 53 }, cs := [], objs := [(0, .box [.a (.v (.int .i64) (show Int from a7)), .a (.v (.int .i64) (show Int from a8)), .a (.v (.int .i64) (show Int from a9)), .a (.v (.int .i64) (show Int from a10)), .a (.v (.int .i64) (show Int from a11))]), (1, .box [.a (.v (.int .i64) (show Int from a12)), .a (.v (.int .i64) (show Int from a13)), .a (.v (.int .i64) (show Int from a14)), .a (.v (.int .i64) (show Int from a15)), .a (.v (.int .i64) (show Int from a16))]), (2, .box [.a (.v (.int .i64) (show Int from a17)), .a (.v (.int .i64) (show Int from a18)), .a (.v (.int .i64) (show Int from a19)), .a (.v (.int .i64) (show Int from a20)), .a (.v (.int .i64) (show Int from a21))])], nx := 3 }
theorem tp_eq (k : Nat) (x : (Int × (Int × (Int × (Int × (List (Int × (Int × Int)))))))) : tp (k + 1) x =
  cond (decide (x.1 < (1 : Int)))
  (tp_R8 k x.2.1 x.2.2.1 x.2.2.2.1 x.2.2.2.2 (6 : Int) x.1 x.2.1 x.2.2.1 x.2.2.2.1 (-1 : Int))
  (cond (decide (x.1 > (9999 : Int)))
    (tp_R8 k x.2.1 x.2.2.1 x.2.2.2.1 x.2.2.2.2 (6 : Int) x.1 x.2.1 x.2.2.1 x.2.2.2.1 (-1 : Int))
    (Option.bind (inAmounts k x.2.1) fun r36 =>
      cond (!r36)
      (tp_R8 k x.2.1 x.2.2.1 x.2.2.2.1 x.2.2.2.2 (6 : Int) x.1 x.2.1 x.2.2.1 x.2.2.2.1 (-1 : Int))
      (cond (decide (x.2.2.1 > (0 : Int)))
        (tp_R8 k x.2.1 x.2.2.1 x.2.2.2.1 x.2.2.2.2 (6 : Int) x.1 x.2.1 x.2.2.1 x.2.2.2.1 (-1 : Int))
        (Option.bind (inAmounts k x.2.2.1) fun r37 =>
          cond (!r37)
          (tp_R8 k x.2.1 x.2.2.1 x.2.2.2.1 x.2.2.2.2 (6 : Int) x.1 x.2.1 x.2.2.1 x.2.2.2.1 (-1 : Int))
          (cond (decide (x.2.2.2.1 < (0 : Int)))
            (tp_R8 k x.2.1 x.2.2.1 x.2.2.2.1 x.2.2.2.2 (6 : Int) x.1 x.2.1 x.2.2.1 x.2.2.2.1 (-1 : Int))
            (Option.bind (inAmounts k x.2.2.2.1) fun r38 =>
              cond (!r38)
              (tp_R8 k x.2.1 x.2.2.1 x.2.2.2.1 x.2.2.2.2 (6 : Int) x.1 x.2.1 x.2.2.1 x.2.2.2.1 (-1 : Int))
              (cond (decide ((IntKind.wrap .i64 (x.2.1 - x.2.2.2.1)) < x.2.2.1))
                (tp_R8 k x.2.1 x.2.2.1 x.2.2.2.1 x.2.2.2.2 (19 : Int) x.1 x.2.1 x.2.2.1 x.2.2.2.1 (-1 : Int))
                (tp_R8 k x.2.1 x.2.2.1 x.2.2.2.1 x.2.2.2.2 (0 : Int) x.1 x.2.1 x.2.2.1 x.2.2.2.1 (-1 : Int))))))))) := by kernel_rfl
theorem tp_R8_eq (k : Nat) (a0 : Int) (a1 : Int) (a2 : Int) (a3 : (List (Int × (Int × Int)))) (a4 : Int) (a5 : Int) (a6 : Int) (a7 : Int) (a8 : Int) (a9 : Int) : tp_R8 (k + 1) a0 a1 a2 a3 a4 a5 a6 a7 a8 a9 =
  cond (intBeq a4 (0 : Int))
  (Option.bind (wCheck k (a5, (a6, (a7, (a8, a9))))) fun r39 =>
    cond (!(intBeq r39 a4))
    (some false)
    (Option.bind (wFree k (a5, (a6, (a7, (a8, a9))))) fun r40 =>
      cond (!(intBeq r40 (IntKind.wrap .i64 ((IntKind.wrap .i64 (a0 - a2)) - a1))))
      (some false)
      (cond (decide ((0:Int) ≤ (0 : Int)) && decide ((0 : Int) ≤ (minI ((List.length a3) : Int) (40 : Int))) && decide ((minI ((List.length a3) : Int) (40 : Int)) ≤ ((List.length a3) : Int)))
        (tp_R14 k a4 (IntKind.wrap .i64 ((IntKind.wrap .i64 (a0 - a2)) - a1)) (List.take (Int.toNat (minI ((List.length a3) : Int) (40 : Int)) - Int.toNat (0 : Int)) (List.drop 0 a3)) ((List.length (List.take (Int.toNat (minI ((List.length a3) : Int) (40 : Int)) - Int.toNat (0 : Int)) (List.drop 0 a3))) : Int) (0 : Int) a5 a6 a7 a8 a9)
        (none))))
  (Option.bind (wCheck k (a5, (a6, (a7, (a8, a9))))) fun r41 =>
    cond (!(intBeq r41 a4))
    (some false)
    (Option.bind (wFree k (a5, (a6, (a7, (a8, a9))))) fun r42 =>
      cond (!(intBeq r42 (0 : Int)))
      (some false)
      (cond (decide ((0:Int) ≤ (0 : Int)) && decide ((0 : Int) ≤ (minI ((List.length a3) : Int) (40 : Int))) && decide ((minI ((List.length a3) : Int) (40 : Int)) ≤ ((List.length a3) : Int)))
        (tp_R14 k a4 (0 : Int) (List.take (Int.toNat (minI ((List.length a3) : Int) (40 : Int)) - Int.toNat (0 : Int)) (List.drop 0 a3)) ((List.length (List.take (Int.toNat (minI ((List.length a3) : Int) (40 : Int)) - Int.toNat (0 : Int)) (List.drop 0 a3))) : Int) (0 : Int) a5 a6 a7 a8 a9)
        (none)))) := by kernel_rfl
theorem tp_R14_eq (k : Nat) (a0 : Int) (a1 : Int) (a2 : (List (Int × (Int × Int)))) (a3 : Int) (a4 : Int) (a5 : Int) (a6 : Int) (a7 : Int) (a8 : Int) (a9 : Int) : tp_R14 (k + 1) a0 a1 a2 a3 a4 a5 a6 a7 a8 a9 =
  cond (decide (a4 < a3))
  (cond (decide ((0:Int) ≤ a4) && decide (a4 < ((List.length a2) : Int)))
    (cond (decide ((List.getD a2 (Int.toNat a4) (El.dflt (.pair (.int .u8) (.pair (.int .i64) (.int .i64))))).2.1 ≥ (0 : Int)))
      (cond (intBeq (Int.tmod (List.getD a2 (Int.toNat a4) (El.dflt (.pair (.int .u8) (.pair (.int .i64) (.int .i64))))).1 (5 : Int)) (0 : Int))
        (cond (!(decide ((List.getD a2 (Int.toNat a4) (El.dflt (.pair (.int .u8) (.pair (.int .i64) (.int .i64))))).2.1 ≤ (1125899906842624 : Int))))
          (tp_R30 k a0 a1 (6 : Int) a2 a3 a4 a5 a6 a7 a8 a9 (List.getD a2 (Int.toNat a4) (El.dflt (.pair (.int .u8) (.pair (.int .i64) (.int .i64))))).1 (List.getD a2 (Int.toNat a4) (El.dflt (.pair (.int .u8) (.pair (.int .i64) (.int .i64))))).2.1 (List.getD a2 (Int.toNat a4) (El.dflt (.pair (.int .u8) (.pair (.int .i64) (.int .i64))))).2.2 a5 a6 a7 a8 a9 (0 : Int) (0 : Int) (0 : Int) (0 : Int) (0 : Int))
          (Option.bind (inAmounts k (IntKind.wrap .i64 (a6 + (List.getD a2 (Int.toNat a4) (El.dflt (.pair (.int .u8) (.pair (.int .i64) (.int .i64))))).2.1))) fun r43 =>
            cond (!r43)
            (tp_R30 k a0 a1 (6 : Int) a2 a3 a4 a5 a6 a7 a8 a9 (List.getD a2 (Int.toNat a4) (El.dflt (.pair (.int .u8) (.pair (.int .i64) (.int .i64))))).1 (List.getD a2 (Int.toNat a4) (El.dflt (.pair (.int .u8) (.pair (.int .i64) (.int .i64))))).2.1 (List.getD a2 (Int.toNat a4) (El.dflt (.pair (.int .u8) (.pair (.int .i64) (.int .i64))))).2.2 a5 a6 a7 a8 a9 (0 : Int) (0 : Int) (0 : Int) (0 : Int) (0 : Int))
            (tp_R30 k a0 a1 (0 : Int) a2 a3 a4 a5 a6 a7 a8 a9 (List.getD a2 (Int.toNat a4) (El.dflt (.pair (.int .u8) (.pair (.int .i64) (.int .i64))))).1 (List.getD a2 (Int.toNat a4) (El.dflt (.pair (.int .u8) (.pair (.int .i64) (.int .i64))))).2.1 (List.getD a2 (Int.toNat a4) (El.dflt (.pair (.int .u8) (.pair (.int .i64) (.int .i64))))).2.2 a5 a6 a7 a8 a9 (0 : Int) (0 : Int) (0 : Int) (0 : Int) (0 : Int))))
        (cond (intBeq (Int.tmod (List.getD a2 (Int.toNat a4) (El.dflt (.pair (.int .u8) (.pair (.int .i64) (.int .i64))))).1 (5 : Int)) (1 : Int))
          (cond (!(decide ((List.getD a2 (Int.toNat a4) (El.dflt (.pair (.int .u8) (.pair (.int .i64) (.int .i64))))).2.1 ≤ (1125899906842624 : Int))))
            (tp_R37 k a0 a1 (6 : Int) a2 a3 a4 a5 a6 a7 a8 a9 (List.getD a2 (Int.toNat a4) (El.dflt (.pair (.int .u8) (.pair (.int .i64) (.int .i64))))).1 (List.getD a2 (Int.toNat a4) (El.dflt (.pair (.int .u8) (.pair (.int .i64) (.int .i64))))).2.1 (List.getD a2 (Int.toNat a4) (El.dflt (.pair (.int .u8) (.pair (.int .i64) (.int .i64))))).2.2 a5 a6 a7 a8 a9 (0 : Int) (0 : Int) (0 : Int) (0 : Int) (0 : Int))
            (cond (decide ((List.getD a2 (Int.toNat a4) (El.dflt (.pair (.int .u8) (.pair (.int .i64) (.int .i64))))).2.1 > a1))
              (tp_R37 k a0 a1 (19 : Int) a2 a3 a4 a5 a6 a7 a8 a9 (List.getD a2 (Int.toNat a4) (El.dflt (.pair (.int .u8) (.pair (.int .i64) (.int .i64))))).1 (List.getD a2 (Int.toNat a4) (El.dflt (.pair (.int .u8) (.pair (.int .i64) (.int .i64))))).2.1 (List.getD a2 (Int.toNat a4) (El.dflt (.pair (.int .u8) (.pair (.int .i64) (.int .i64))))).2.2 a5 a6 a7 a8 a9 (0 : Int) (0 : Int) (0 : Int) (0 : Int) (0 : Int))
              (tp_R37 k a0 a1 (0 : Int) a2 a3 a4 a5 a6 a7 a8 a9 (List.getD a2 (Int.toNat a4) (El.dflt (.pair (.int .u8) (.pair (.int .i64) (.int .i64))))).1 (List.getD a2 (Int.toNat a4) (El.dflt (.pair (.int .u8) (.pair (.int .i64) (.int .i64))))).2.1 (List.getD a2 (Int.toNat a4) (El.dflt (.pair (.int .u8) (.pair (.int .i64) (.int .i64))))).2.2 a5 a6 a7 a8 a9 (0 : Int) (0 : Int) (0 : Int) (0 : Int) (0 : Int))))
          (cond (intBeq (Int.tmod (List.getD a2 (Int.toNat a4) (El.dflt (.pair (.int .u8) (.pair (.int .i64) (.int .i64))))).1 (5 : Int)) (2 : Int))
            (cond (!(decide ((List.getD a2 (Int.toNat a4) (El.dflt (.pair (.int .u8) (.pair (.int .i64) (.int .i64))))).2.1 ≤ (1125899906842624 : Int))))
              (tp_R46 k a0 a1 (6 : Int) a2 a3 a4 a5 a6 a7 a8 a9 (List.getD a2 (Int.toNat a4) (El.dflt (.pair (.int .u8) (.pair (.int .i64) (.int .i64))))).1 (List.getD a2 (Int.toNat a4) (El.dflt (.pair (.int .u8) (.pair (.int .i64) (.int .i64))))).2.1 (List.getD a2 (Int.toNat a4) (El.dflt (.pair (.int .u8) (.pair (.int .i64) (.int .i64))))).2.2 a5 a6 a7 a8 a9 (0 : Int) (0 : Int) (0 : Int) (0 : Int) (0 : Int))
              (cond (decide ((List.getD a2 (Int.toNat a4) (El.dflt (.pair (.int .u8) (.pair (.int .i64) (.int .i64))))).2.1 > a1))
                (tp_R46 k a0 a1 (19 : Int) a2 a3 a4 a5 a6 a7 a8 a9 (List.getD a2 (Int.toNat a4) (El.dflt (.pair (.int .u8) (.pair (.int .i64) (.int .i64))))).1 (List.getD a2 (Int.toNat a4) (El.dflt (.pair (.int .u8) (.pair (.int .i64) (.int .i64))))).2.1 (List.getD a2 (Int.toNat a4) (El.dflt (.pair (.int .u8) (.pair (.int .i64) (.int .i64))))).2.2 a5 a6 a7 a8 a9 (0 : Int) (0 : Int) (0 : Int) (0 : Int) (0 : Int))
                (cond (decide ((List.getD a2 (Int.toNat a4) (El.dflt (.pair (.int .u8) (.pair (.int .i64) (.int .i64))))).2.1 > (IntKind.wrap .i64 ((1125899906842624 : Int) - a8))))
                  (tp_R46 k a0 a1 (6 : Int) a2 a3 a4 a5 a6 a7 a8 a9 (List.getD a2 (Int.toNat a4) (El.dflt (.pair (.int .u8) (.pair (.int .i64) (.int .i64))))).1 (List.getD a2 (Int.toNat a4) (El.dflt (.pair (.int .u8) (.pair (.int .i64) (.int .i64))))).2.1 (List.getD a2 (Int.toNat a4) (El.dflt (.pair (.int .u8) (.pair (.int .i64) (.int .i64))))).2.2 a5 a6 a7 a8 a9 (0 : Int) (0 : Int) (0 : Int) (0 : Int) (0 : Int))
                  (tp_R46 k a0 a1 (0 : Int) a2 a3 a4 a5 a6 a7 a8 a9 (List.getD a2 (Int.toNat a4) (El.dflt (.pair (.int .u8) (.pair (.int .i64) (.int .i64))))).1 (List.getD a2 (Int.toNat a4) (El.dflt (.pair (.int .u8) (.pair (.int .i64) (.int .i64))))).2.1 (List.getD a2 (Int.toNat a4) (El.dflt (.pair (.int .u8) (.pair (.int .i64) (.int .i64))))).2.2 a5 a6 a7 a8 a9 (0 : Int) (0 : Int) (0 : Int) (0 : Int) (0 : Int)))))
            (cond (intBeq (Int.tmod (List.getD a2 (Int.toNat a4) (El.dflt (.pair (.int .u8) (.pair (.int .i64) (.int .i64))))).1 (5 : Int)) (3 : Int))
              (cond (decide ((List.getD a2 (Int.toNat a4) (El.dflt (.pair (.int .u8) (.pair (.int .i64) (.int .i64))))).2.2 < (0 : Int)))
                (tp_R51 k a0 a1 (6 : Int) a2 a3 a4 a5 a6 a7 a8 a9 (List.getD a2 (Int.toNat a4) (El.dflt (.pair (.int .u8) (.pair (.int .i64) (.int .i64))))).1 (List.getD a2 (Int.toNat a4) (El.dflt (.pair (.int .u8) (.pair (.int .i64) (.int .i64))))).2.1 (List.getD a2 (Int.toNat a4) (El.dflt (.pair (.int .u8) (.pair (.int .i64) (.int .i64))))).2.2 a5 a6 a7 a8 a9 (0 : Int) (0 : Int) (0 : Int) (0 : Int) (0 : Int))
                (cond (decide ((List.getD a2 (Int.toNat a4) (El.dflt (.pair (.int .u8) (.pair (.int .i64) (.int .i64))))).2.2 > (List.getD a2 (Int.toNat a4) (El.dflt (.pair (.int .u8) (.pair (.int .i64) (.int .i64))))).2.1))
                  (tp_R51 k a0 a1 (6 : Int) a2 a3 a4 a5 a6 a7 a8 a9 (List.getD a2 (Int.toNat a4) (El.dflt (.pair (.int .u8) (.pair (.int .i64) (.int .i64))))).1 (List.getD a2 (Int.toNat a4) (El.dflt (.pair (.int .u8) (.pair (.int .i64) (.int .i64))))).2.1 (List.getD a2 (Int.toNat a4) (El.dflt (.pair (.int .u8) (.pair (.int .i64) (.int .i64))))).2.2 a5 a6 a7 a8 a9 (0 : Int) (0 : Int) (0 : Int) (0 : Int) (0 : Int))
                  (cond (decide ((List.getD a2 (Int.toNat a4) (El.dflt (.pair (.int .u8) (.pair (.int .i64) (.int .i64))))).2.1 > a8))
                    (tp_R51 k a0 a1 (6 : Int) a2 a3 a4 a5 a6 a7 a8 a9 (List.getD a2 (Int.toNat a4) (El.dflt (.pair (.int .u8) (.pair (.int .i64) (.int .i64))))).1 (List.getD a2 (Int.toNat a4) (El.dflt (.pair (.int .u8) (.pair (.int .i64) (.int .i64))))).2.1 (List.getD a2 (Int.toNat a4) (El.dflt (.pair (.int .u8) (.pair (.int .i64) (.int .i64))))).2.2 a5 a6 a7 a8 a9 (0 : Int) (0 : Int) (0 : Int) (0 : Int) (0 : Int))
                    (tp_R51 k a0 a1 (0 : Int) a2 a3 a4 a5 a6 a7 a8 a9 (List.getD a2 (Int.toNat a4) (El.dflt (.pair (.int .u8) (.pair (.int .i64) (.int .i64))))).1 (List.getD a2 (Int.toNat a4) (El.dflt (.pair (.int .u8) (.pair (.int .i64) (.int .i64))))).2.1 (List.getD a2 (Int.toNat a4) (El.dflt (.pair (.int .u8) (.pair (.int .i64) (.int .i64))))).2.2 a5 a6 a7 a8 a9 (0 : Int) (0 : Int) (0 : Int) (0 : Int) (0 : Int)))))
              (cond (decide ((List.getD a2 (Int.toNat a4) (El.dflt (.pair (.int .u8) (.pair (.int .i64) (.int .i64))))).2.1 > (0 : Int)))
                (tp_R25 k a0 a1 (6 : Int) a2 a3 a4 a5 a6 a7 a8 a9 (List.getD a2 (Int.toNat a4) (El.dflt (.pair (.int .u8) (.pair (.int .i64) (.int .i64))))).1 (List.getD a2 (Int.toNat a4) (El.dflt (.pair (.int .u8) (.pair (.int .i64) (.int .i64))))).2.1 (List.getD a2 (Int.toNat a4) (El.dflt (.pair (.int .u8) (.pair (.int .i64) (.int .i64))))).2.2 a5 a6 a7 a8 a9 (0 : Int) (0 : Int) (0 : Int) (0 : Int) (0 : Int))
                (Option.bind (inAmounts k (List.getD a2 (Int.toNat a4) (El.dflt (.pair (.int .u8) (.pair (.int .i64) (.int .i64))))).2.1) fun r44 =>
                  cond (!r44)
                  (tp_R25 k a0 a1 (6 : Int) a2 a3 a4 a5 a6 a7 a8 a9 (List.getD a2 (Int.toNat a4) (El.dflt (.pair (.int .u8) (.pair (.int .i64) (.int .i64))))).1 (List.getD a2 (Int.toNat a4) (El.dflt (.pair (.int .u8) (.pair (.int .i64) (.int .i64))))).2.1 (List.getD a2 (Int.toNat a4) (El.dflt (.pair (.int .u8) (.pair (.int .i64) (.int .i64))))).2.2 a5 a6 a7 a8 a9 (0 : Int) (0 : Int) (0 : Int) (0 : Int) (0 : Int))
                  (cond (decide ((IntKind.wrap .i64 (a6 - a8)) < (List.getD a2 (Int.toNat a4) (El.dflt (.pair (.int .u8) (.pair (.int .i64) (.int .i64))))).2.1))
                    (tp_R25 k a0 a1 (19 : Int) a2 a3 a4 a5 a6 a7 a8 a9 (List.getD a2 (Int.toNat a4) (El.dflt (.pair (.int .u8) (.pair (.int .i64) (.int .i64))))).1 (List.getD a2 (Int.toNat a4) (El.dflt (.pair (.int .u8) (.pair (.int .i64) (.int .i64))))).2.1 (List.getD a2 (Int.toNat a4) (El.dflt (.pair (.int .u8) (.pair (.int .i64) (.int .i64))))).2.2 a5 a6 a7 a8 a9 (0 : Int) (0 : Int) (0 : Int) (0 : Int) (0 : Int))
                    (tp_R25 k a0 a1 (0 : Int) a2 a3 a4 a5 a6 a7 a8 a9 (List.getD a2 (Int.toNat a4) (El.dflt (.pair (.int .u8) (.pair (.int .i64) (.int .i64))))).1 (List.getD a2 (Int.toNat a4) (El.dflt (.pair (.int .u8) (.pair (.int .i64) (.int .i64))))).2.1 (List.getD a2 (Int.toNat a4) (El.dflt (.pair (.int .u8) (.pair (.int .i64) (.int .i64))))).2.2 a5 a6 a7 a8 a9 (0 : Int) (0 : Int) (0 : Int) (0 : Int) (0 : Int)))))))))
      (cond (intBeq (Int.tmod (List.getD a2 (Int.toNat a4) (El.dflt (.pair (.int .u8) (.pair (.int .i64) (.int .i64))))).1 (5 : Int)) (0 : Int))
        (tp_R30 k a0 a1 (6 : Int) a2 a3 a4 a5 a6 a7 a8 a9 (List.getD a2 (Int.toNat a4) (El.dflt (.pair (.int .u8) (.pair (.int .i64) (.int .i64))))).1 (List.getD a2 (Int.toNat a4) (El.dflt (.pair (.int .u8) (.pair (.int .i64) (.int .i64))))).2.1 (List.getD a2 (Int.toNat a4) (El.dflt (.pair (.int .u8) (.pair (.int .i64) (.int .i64))))).2.2 a5 a6 a7 a8 a9 (0 : Int) (0 : Int) (0 : Int) (0 : Int) (0 : Int))
        (cond (intBeq (Int.tmod (List.getD a2 (Int.toNat a4) (El.dflt (.pair (.int .u8) (.pair (.int .i64) (.int .i64))))).1 (5 : Int)) (1 : Int))
          (tp_R37 k a0 a1 (6 : Int) a2 a3 a4 a5 a6 a7 a8 a9 (List.getD a2 (Int.toNat a4) (El.dflt (.pair (.int .u8) (.pair (.int .i64) (.int .i64))))).1 (List.getD a2 (Int.toNat a4) (El.dflt (.pair (.int .u8) (.pair (.int .i64) (.int .i64))))).2.1 (List.getD a2 (Int.toNat a4) (El.dflt (.pair (.int .u8) (.pair (.int .i64) (.int .i64))))).2.2 a5 a6 a7 a8 a9 (0 : Int) (0 : Int) (0 : Int) (0 : Int) (0 : Int))
          (cond (intBeq (Int.tmod (List.getD a2 (Int.toNat a4) (El.dflt (.pair (.int .u8) (.pair (.int .i64) (.int .i64))))).1 (5 : Int)) (2 : Int))
            (tp_R46 k a0 a1 (6 : Int) a2 a3 a4 a5 a6 a7 a8 a9 (List.getD a2 (Int.toNat a4) (El.dflt (.pair (.int .u8) (.pair (.int .i64) (.int .i64))))).1 (List.getD a2 (Int.toNat a4) (El.dflt (.pair (.int .u8) (.pair (.int .i64) (.int .i64))))).2.1 (List.getD a2 (Int.toNat a4) (El.dflt (.pair (.int .u8) (.pair (.int .i64) (.int .i64))))).2.2 a5 a6 a7 a8 a9 (0 : Int) (0 : Int) (0 : Int) (0 : Int) (0 : Int))
            (cond (intBeq (Int.tmod (List.getD a2 (Int.toNat a4) (El.dflt (.pair (.int .u8) (.pair (.int .i64) (.int .i64))))).1 (5 : Int)) (3 : Int))
              (cond (decide ((List.getD a2 (Int.toNat a4) (El.dflt (.pair (.int .u8) (.pair (.int .i64) (.int .i64))))).2.2 < (0 : Int)))
                (tp_R51 k a0 a1 (6 : Int) a2 a3 a4 a5 a6 a7 a8 a9 (List.getD a2 (Int.toNat a4) (El.dflt (.pair (.int .u8) (.pair (.int .i64) (.int .i64))))).1 (List.getD a2 (Int.toNat a4) (El.dflt (.pair (.int .u8) (.pair (.int .i64) (.int .i64))))).2.1 (List.getD a2 (Int.toNat a4) (El.dflt (.pair (.int .u8) (.pair (.int .i64) (.int .i64))))).2.2 a5 a6 a7 a8 a9 (0 : Int) (0 : Int) (0 : Int) (0 : Int) (0 : Int))
                (cond (decide ((List.getD a2 (Int.toNat a4) (El.dflt (.pair (.int .u8) (.pair (.int .i64) (.int .i64))))).2.2 > (List.getD a2 (Int.toNat a4) (El.dflt (.pair (.int .u8) (.pair (.int .i64) (.int .i64))))).2.1))
                  (tp_R51 k a0 a1 (6 : Int) a2 a3 a4 a5 a6 a7 a8 a9 (List.getD a2 (Int.toNat a4) (El.dflt (.pair (.int .u8) (.pair (.int .i64) (.int .i64))))).1 (List.getD a2 (Int.toNat a4) (El.dflt (.pair (.int .u8) (.pair (.int .i64) (.int .i64))))).2.1 (List.getD a2 (Int.toNat a4) (El.dflt (.pair (.int .u8) (.pair (.int .i64) (.int .i64))))).2.2 a5 a6 a7 a8 a9 (0 : Int) (0 : Int) (0 : Int) (0 : Int) (0 : Int))
                  (cond (decide ((List.getD a2 (Int.toNat a4) (El.dflt (.pair (.int .u8) (.pair (.int .i64) (.int .i64))))).2.1 > a8))
                    (tp_R51 k a0 a1 (6 : Int) a2 a3 a4 a5 a6 a7 a8 a9 (List.getD a2 (Int.toNat a4) (El.dflt (.pair (.int .u8) (.pair (.int .i64) (.int .i64))))).1 (List.getD a2 (Int.toNat a4) (El.dflt (.pair (.int .u8) (.pair (.int .i64) (.int .i64))))).2.1 (List.getD a2 (Int.toNat a4) (El.dflt (.pair (.int .u8) (.pair (.int .i64) (.int .i64))))).2.2 a5 a6 a7 a8 a9 (0 : Int) (0 : Int) (0 : Int) (0 : Int) (0 : Int))
                    (tp_R51 k a0 a1 (0 : Int) a2 a3 a4 a5 a6 a7 a8 a9 (List.getD a2 (Int.toNat a4) (El.dflt (.pair (.int .u8) (.pair (.int .i64) (.int .i64))))).1 (List.getD a2 (Int.toNat a4) (El.dflt (.pair (.int .u8) (.pair (.int .i64) (.int .i64))))).2.1 (List.getD a2 (Int.toNat a4) (El.dflt (.pair (.int .u8) (.pair (.int .i64) (.int .i64))))).2.2 a5 a6 a7 a8 a9 (0 : Int) (0 : Int) (0 : Int) (0 : Int) (0 : Int)))))
              (cond (decide ((List.getD a2 (Int.toNat a4) (El.dflt (.pair (.int .u8) (.pair (.int .i64) (.int .i64))))).2.1 > (0 : Int)))
                (tp_R25 k a0 a1 (6 : Int) a2 a3 a4 a5 a6 a7 a8 a9 (List.getD a2 (Int.toNat a4) (El.dflt (.pair (.int .u8) (.pair (.int .i64) (.int .i64))))).1 (List.getD a2 (Int.toNat a4) (El.dflt (.pair (.int .u8) (.pair (.int .i64) (.int .i64))))).2.1 (List.getD a2 (Int.toNat a4) (El.dflt (.pair (.int .u8) (.pair (.int .i64) (.int .i64))))).2.2 a5 a6 a7 a8 a9 (0 : Int) (0 : Int) (0 : Int) (0 : Int) (0 : Int))
                (Option.bind (inAmounts k (List.getD a2 (Int.toNat a4) (El.dflt (.pair (.int .u8) (.pair (.int .i64) (.int .i64))))).2.1) fun r45 =>
                  cond (!r45)
                  (tp_R25 k a0 a1 (6 : Int) a2 a3 a4 a5 a6 a7 a8 a9 (List.getD a2 (Int.toNat a4) (El.dflt (.pair (.int .u8) (.pair (.int .i64) (.int .i64))))).1 (List.getD a2 (Int.toNat a4) (El.dflt (.pair (.int .u8) (.pair (.int .i64) (.int .i64))))).2.1 (List.getD a2 (Int.toNat a4) (El.dflt (.pair (.int .u8) (.pair (.int .i64) (.int .i64))))).2.2 a5 a6 a7 a8 a9 (0 : Int) (0 : Int) (0 : Int) (0 : Int) (0 : Int))
                  (cond (decide ((IntKind.wrap .i64 (a6 - a8)) < (List.getD a2 (Int.toNat a4) (El.dflt (.pair (.int .u8) (.pair (.int .i64) (.int .i64))))).2.1))
                    (tp_R25 k a0 a1 (19 : Int) a2 a3 a4 a5 a6 a7 a8 a9 (List.getD a2 (Int.toNat a4) (El.dflt (.pair (.int .u8) (.pair (.int .i64) (.int .i64))))).1 (List.getD a2 (Int.toNat a4) (El.dflt (.pair (.int .u8) (.pair (.int .i64) (.int .i64))))).2.1 (List.getD a2 (Int.toNat a4) (El.dflt (.pair (.int .u8) (.pair (.int .i64) (.int .i64))))).2.2 a5 a6 a7 a8 a9 (0 : Int) (0 : Int) (0 : Int) (0 : Int) (0 : Int))
                    (tp_R25 k a0 a1 (0 : Int) a2 a3 a4 a5 a6 a7 a8 a9 (List.getD a2 (Int.toNat a4) (El.dflt (.pair (.int .u8) (.pair (.int .i64) (.int .i64))))).1 (List.getD a2 (Int.toNat a4) (El.dflt (.pair (.int .u8) (.pair (.int .i64) (.int .i64))))).2.1 (List.getD a2 (Int.toNat a4) (El.dflt (.pair (.int .u8) (.pair (.int .i64) (.int .i64))))).2.2 a5 a6 a7 a8 a9 (0 : Int) (0 : Int) (0 : Int) (0 : Int) (0 : Int))))))))))
    (none))
  (Option.bind (pays k ()) fun r46 =>
    some r46) := by kernel_rfl
theorem tp_R30_eq (k : Nat) (a0 : Int) (a1 : Int) (a2 : Int) (a3 : (List (Int × (Int × Int)))) (a4 : Int) (a5 : Int) (a6 : Int) (a7 : Int) (a8 : Int) (a9 : Int) (a10 : Int) (a11 : Int) (a12 : Int) (a13 : Int) (a14 : Int) (a15 : Int) (a16 : Int) (a17 : Int) (a18 : Int) (a19 : Int) (a20 : Int) (a21 : Int) (a22 : Int) (a23 : Int) : tp_R30 (k + 1) a0 a1 a2 a3 a4 a5 a6 a7 a8 a9 a10 a11 a12 a13 a14 a15 a16 a17 a18 a19 a20 a21 a22 a23 =
  Option.bind (wCredit k ((a6, (a7, (a8, (a9, a10)))), a12)) fun r47 =>
  tp_R53 k a0 a1 a2 r47.2 a3 a4 a5 a6 a7 a8 a9 a10 a14 (IntKind.wrap .i64 (a15 + a12)) a16 a17 a18 r47.1.1 r47.1.2.1 r47.1.2.2.1 r47.1.2.2.2.1 r47.1.2.2.2.2 := by kernel_rfl
theorem tp_R37_eq (k : Nat) (a0 : Int) (a1 : Int) (a2 : Int) (a3 : (List (Int × (Int × Int)))) (a4 : Int) (a5 : Int) (a6 : Int) (a7 : Int) (a8 : Int) (a9 : Int) (a10 : Int) (a11 : Int) (a12 : Int) (a13 : Int) (a14 : Int) (a15 : Int) (a16 : Int) (a17 : Int) (a18 : Int) (a19 : Int) (a20 : Int) (a21 : Int) (a22 : Int) (a23 : Int) : tp_R37 (k + 1) a0 a1 a2 a3 a4 a5 a6 a7 a8 a9 a10 a11 a12 a13 a14 a15 a16 a17 a18 a19 a20 a21 a22 a23 =
  Option.bind (wDebit k ((a6, (a7, (a8, (a9, a10)))), a12)) fun r48 =>
  tp_R53 k a0 a1 a2 r48.2 a3 a4 a5 a6 a7 a8 a9 a10 a14 (IntKind.wrap .i64 (a15 - a12)) a16 a17 a18 r48.1.1 r48.1.2.1 r48.1.2.2.1 r48.1.2.2.2.1 r48.1.2.2.2.2 := by kernel_rfl
theorem tp_R46_eq (k : Nat) (a0 : Int) (a1 : Int) (a2 : Int) (a3 : (List (Int × (Int × Int)))) (a4 : Int) (a5 : Int) (a6 : Int) (a7 : Int) (a8 : Int) (a9 : Int) (a10 : Int) (a11 : Int) (a12 : Int) (a13 : Int) (a14 : Int) (a15 : Int) (a16 : Int) (a17 : Int) (a18 : Int) (a19 : Int) (a20 : Int) (a21 : Int) (a22 : Int) (a23 : Int) : tp_R46 (k + 1) a0 a1 a2 a3 a4 a5 a6 a7 a8 a9 a10 a11 a12 a13 a14 a15 a16 a17 a18 a19 a20 a21 a22 a23 =
  Option.bind (wHold k ((a6, (a7, (a8, (a9, a10)))), a12)) fun r49 =>
  tp_R53 k a0 a1 a2 r49.2 a3 a4 a5 a6 a7 a8 a9 a10 a14 a15 a16 (IntKind.wrap .i64 (a17 + a12)) a18 r49.1.1 r49.1.2.1 r49.1.2.2.1 r49.1.2.2.2.1 r49.1.2.2.2.2 := by kernel_rfl
theorem tp_R51_eq (k : Nat) (a0 : Int) (a1 : Int) (a2 : Int) (a3 : (List (Int × (Int × Int)))) (a4 : Int) (a5 : Int) (a6 : Int) (a7 : Int) (a8 : Int) (a9 : Int) (a10 : Int) (a11 : Int) (a12 : Int) (a13 : Int) (a14 : Int) (a15 : Int) (a16 : Int) (a17 : Int) (a18 : Int) (a19 : Int) (a20 : Int) (a21 : Int) (a22 : Int) (a23 : Int) : tp_R51 (k + 1) a0 a1 a2 a3 a4 a5 a6 a7 a8 a9 a10 a11 a12 a13 a14 a15 a16 a17 a18 a19 a20 a21 a22 a23 =
  Option.bind (wSettle k ((a6, (a7, (a8, (a9, a10)))), (a12, a13))) fun r50 =>
  tp_R53 k a0 a1 a2 r50.2 a3 a4 a5 a6 a7 a8 a9 a10 a14 (IntKind.wrap .i64 (a15 - a13)) a16 (IntKind.wrap .i64 (a17 - a12)) a18 r50.1.1 r50.1.2.1 r50.1.2.2.1 r50.1.2.2.2.1 r50.1.2.2.2.2 := by kernel_rfl
theorem tp_R25_eq (k : Nat) (a0 : Int) (a1 : Int) (a2 : Int) (a3 : (List (Int × (Int × Int)))) (a4 : Int) (a5 : Int) (a6 : Int) (a7 : Int) (a8 : Int) (a9 : Int) (a10 : Int) (a11 : Int) (a12 : Int) (a13 : Int) (a14 : Int) (a15 : Int) (a16 : Int) (a17 : Int) (a18 : Int) (a19 : Int) (a20 : Int) (a21 : Int) (a22 : Int) (a23 : Int) : tp_R25 (k + 1) a0 a1 a2 a3 a4 a5 a6 a7 a8 a9 a10 a11 a12 a13 a14 a15 a16 a17 a18 a19 a20 a21 a22 a23 =
  Option.bind (wFloor k ((a6, (a7, (a8, (a9, a10)))), a12)) fun r51 =>
  tp_R53 k a0 a1 a2 r51.2 a3 a4 a5 a6 a7 a8 a9 a10 a14 a15 a12 a17 a18 r51.1.1 r51.1.2.1 r51.1.2.2.1 r51.1.2.2.2.1 r51.1.2.2.2.2 := by kernel_rfl
theorem tp_R53_eq (k : Nat) (a0 : Int) (a1 : Int) (a2 : Int) (a3 : Int) (a4 : (List (Int × (Int × Int)))) (a5 : Int) (a6 : Int) (a7 : Int) (a8 : Int) (a9 : Int) (a10 : Int) (a11 : Int) (a12 : Int) (a13 : Int) (a14 : Int) (a15 : Int) (a16 : Int) (a17 : Int) (a18 : Int) (a19 : Int) (a20 : Int) (a21 : Int) : tp_R53 (k + 1) a0 a1 a2 a3 a4 a5 a6 a7 a8 a9 a10 a11 a12 a13 a14 a15 a16 a17 a18 a19 a20 a21 =
  cond (!(intBeq a0 (0 : Int)))
  (cond (!(intBeq a0 (0 : Int)))
    (cond (!(intBeq a3 a0))
      (some false)
      (cond (!((intBeq a17 (0 : Int)) && ((intBeq a18 (0 : Int)) && ((intBeq a19 (0 : Int)) && ((intBeq a20 (0 : Int)) && (intBeq a21 (0 : Int)))))))
        (some false)
        (tp_R14 k a0 a1 a4 a5 (IntKind.wrap .i64 (a6 + (1 : Int))) a7 a8 a9 a10 a11)))
    (cond (!(intBeq a3 (0 : Int)))
      (some false)
      (cond (!((intBeq a17 a12) && ((intBeq a18 a13) && ((intBeq a19 a14) && ((intBeq a20 a15) && (intBeq a21 a16))))))
        (some false)
        (Option.bind (wCheck k (a17, (a18, (a19, (a20, a21))))) fun r52 =>
          cond (!(intBeq r52 (0 : Int)))
          (some false)
          (Option.bind (wFree k (a17, (a18, (a19, (a20, a21))))) fun r53 =>
            cond (!(intBeq r53 (IntKind.wrap .i64 ((IntKind.wrap .i64 (a13 - a15)) - a14))))
            (some false)
            (cond (decide ((IntKind.wrap .i64 ((IntKind.wrap .i64 (a13 - a15)) - a14)) < (0 : Int)))
              (some false)
              (tp_R14 k a0 (IntKind.wrap .i64 ((IntKind.wrap .i64 (a13 - a15)) - a14)) a4 a5 (IntKind.wrap .i64 (a6 + (1 : Int))) a17 a18 a19 a20 a21)))))))
  (cond (!(intBeq a2 (0 : Int)))
    (cond (!(intBeq a3 a2))
      (some false)
      (cond (!((intBeq a17 (0 : Int)) && ((intBeq a18 (0 : Int)) && ((intBeq a19 (0 : Int)) && ((intBeq a20 (0 : Int)) && (intBeq a21 (0 : Int)))))))
        (some false)
        (tp_R14 k a0 a1 a4 a5 (IntKind.wrap .i64 (a6 + (1 : Int))) a7 a8 a9 a10 a11)))
    (cond (!(intBeq a3 (0 : Int)))
      (some false)
      (cond (!((intBeq a17 a12) && ((intBeq a18 a13) && ((intBeq a19 a14) && ((intBeq a20 a15) && (intBeq a21 a16))))))
        (some false)
        (Option.bind (wCheck k (a17, (a18, (a19, (a20, a21))))) fun r54 =>
          cond (!(intBeq r54 (0 : Int)))
          (some false)
          (Option.bind (wFree k (a17, (a18, (a19, (a20, a21))))) fun r55 =>
            cond (!(intBeq r55 (IntKind.wrap .i64 ((IntKind.wrap .i64 (a13 - a15)) - a14))))
            (some false)
            (cond (decide ((IntKind.wrap .i64 ((IntKind.wrap .i64 (a13 - a15)) - a14)) < (0 : Int)))
              (some false)
              (tp_R14 k a0 (IntKind.wrap .i64 ((IntKind.wrap .i64 (a13 - a15)) - a14)) a4 a5 (IntKind.wrap .i64 (a6 + (1 : Int))) a17 a18 a19 a20 a21))))))) := by kernel_rfl
end Go.Ab.T

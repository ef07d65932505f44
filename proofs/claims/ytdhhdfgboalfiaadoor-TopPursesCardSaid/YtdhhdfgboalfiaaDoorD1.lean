/- The evaluator's operations hand on to what follows; and they look at little. -/
import Derived.Test.YtdhhdfgboalfiaaDoorA1
set_option linter.unusedVariables false
set_option linter.unusedSimpArgs false
namespace Go.Ab

section
variable {R : Type} {P : Program} {G : Nat → Option (List Cell)} {O : Objs} {ev : Operand → Option AV} {id : Nat}

theorem cond_bind {α β : Type} (c : Bool) (x y : Option α) (f : α → Option β) : (cond c x y).bind f = cond c (x.bind f) (y.bind f) := by cases c <;> rfl

theorem arith_nat {op : BinOp} {k : IntKind} {x y : Int} {κ : AV → Option R} : arith op k x y κ = (arith op k x y some).bind κ := by
  unfold arith; cases op <;> simp [cond_bind]
theorem strOp_nat {op : BinOp} {x y : ByteArray} {κ : AV → Option R} : strOp op x y κ = (strOp op x y some).bind κ := by
  unfold strOp; cases op <;> simp [cond_bind]
theorem shiftA_nat {op : BinOp} {k : IntKind} {x y : Int} {κ : AV → Option R} : shiftA op k x y κ = (shiftA op k x y some).bind κ := by
  unfold shiftA; cases op <;> simp [cond_bind]
theorem binOpA_nat {op : BinOp} {t : Nat} {x y : AV} {κ : AV → Option R} : binOpA P op t x y κ = (binOpA P op t x y some).bind κ := by
  unfold binOpA
  split
  · split
    · exact shiftA_nat
    · exact shiftA_nat
    · split
      · exact arith_nat
      · rfl
  · exact strOp_nat
  · split <;> rfl
  · split
    · split <;> rfl
    · rfl
  · rfl
theorem unOpA_nat {op : UnOp} {x : AV} {κ : AV → Option R} : unOpA op x κ = (unOpA op x some).bind κ := by
  unfold unOpA; split <;> rfl
theorem indexAddrA_nat {t : Nat} {x : A0} {cst : Bool} {i : Int} {κ : AV → Option R} : indexAddrA P O t x cst i κ = (indexAddrA P O t x cst i some).bind κ := by
  unfold indexAddrA
  repeat' split
  all_goals first | rfl | (rw [cond_bind]; rfl)
theorem indexA_nat {t : Nat} {x : AV} {cst : Bool} {i : Int} {κ : AV → Option R} : indexA P t x cst i κ = (indexA P t x cst i some).bind κ := by
  unfold indexA
  repeat' split
  all_goals first | rfl | (rw [cond_bind]; rfl)
theorem sliceA_nat {t : Nat} {x : AV} {lo hi : Option Operand} {κ : AV → Option R} : sliceA P O ev t x lo hi κ = (sliceA P O ev t x lo hi some).bind κ := by
  unfold sliceA
  repeat' split
  all_goals first | rfl | (rw [cond_bind]; rfl)
theorem storeA_nat {p : A0} {new : List Cell} {κ : Objs → Option R} : storeA O p new κ = (storeA O p new some).bind κ := by
  unfold storeA
  repeat' split
  all_goals first | rfl | (rw [cond_bind]; rfl)
theorem appendA_nat {t : Nat} {x : A0} {s : Sh} {ys : List (El s)} {κ : AV → Objs → Option R} : appendA O id t x s ys κ = (appendA O id t x s ys fun v N => some (v, N)).bind fun p => κ p.1 p.2 := by
  unfold appendA
  repeat' split
  all_goals first | rfl | (rw [cond_bind]; rfl)
theorem builtinA_nat {b : Builtin} {ts : Array Nat} {args : List (Option AV)} {κ : AV → Objs → Option R} : builtinA P O id b ts args κ = (builtinA P O id b ts args fun v N => some (v, N)).bind fun p => κ p.1 p.2 := by
  unfold builtinA
  repeat' split
  all_goals first | rfl | exact appendA_nat
theorem lookupA_nat {t : Nat} {m x : AV} {ok : Bool} {κ : AV → Option R} : lookupA P O t m x ok κ = (lookupA P O t m x ok some).bind κ := by
  rfl
theorem mapUpdateA_nat {t : Nat} {m x y : AV} {κ : Objs → Option R} : mapUpdateA P O t m x y κ = (mapUpdateA P O t m x y some).bind κ := by
  rfl
theorem convertA_nat {src dst : Nat} {x : AV} {κ : AV → Objs → Option R} : convertA P O src dst x κ = (convertA P O src dst x fun v N => some (v, N)).bind fun p => κ p.1 p.2 := by
  unfold convertA
  repeat' split
  all_goals rfl
theorem makeA_nat {s : Sh} {x : El s} {n m : Int} {κ : AV → Objs → Option R} : makeA id O s x n m κ = (makeA id O s x n m fun v N => some (v, N)).bind fun p => κ p.1 p.2 := by
  unfold makeA; rw [cond_bind]; rfl
theorem makeSliceA_nat {t : Nat} {l c : AV} {κ : AV → Objs → Option R} : makeSliceA P O id t l c κ = (makeSliceA P O id t l c fun v N => some (v, N)).bind fun p => κ p.1 p.2 := by
  unfold makeSliceA
  repeat' split
  all_goals first | rfl | exact makeA_nat

def pairK : AV → Objs → Option (AV × Objs) := fun v N => some (v, N)
theorem nat_lift {F : (AV → Option R) → Option R} {F' : Option AV} {O : Objs} {κ : AV → Objs → Option R} (h : F (fun v => κ v O) = F'.bind fun v => κ v O) {F2 : Option (AV × Objs)} (h2 : F2 = F'.bind fun v => some (v, O)) :
    F (fun v => κ v O) = F2.bind fun p => κ p.1 p.2 := by
  rw [h, h2]; cases F' <;> rfl

theorem opA_nat {o : Oper} {κ : AV → Objs → Option R} : opA P G O ev id o κ = (opA P G O ev id o fun v N => some (v, N)).bind fun p => κ p.1 p.2 := by
  unfold opA
  repeat' split
  all_goals first
    | rfl
    | (rw [cond_bind]; rfl)
    | exact (cond_bind _ (some (_, _)) (some (_, _)) fun p => κ p.1 p.2).symm
    | exact (cond_bind _ (some (_, _)) none fun p => κ p.1 p.2).symm
    | exact (cond_bind _ none (some (_, _)) fun p => κ p.1 p.2).symm
    | exact nat_lift (F := fun k => binOpA P _ _ _ _ k) binOpA_nat binOpA_nat
    | exact nat_lift (F := fun k => unOpA _ _ k) unOpA_nat unOpA_nat
    | exact nat_lift (F := fun k => indexAddrA P O _ _ _ _ k) indexAddrA_nat indexAddrA_nat
    | exact nat_lift (F := fun k => indexA P _ _ _ _ k) indexA_nat indexA_nat
    | exact nat_lift (F := fun k => sliceA P O ev _ _ _ _ k) sliceA_nat sliceA_nat
    | exact nat_lift (F := fun k => lookupA P O _ _ _ _ k) lookupA_nat lookupA_nat
    | exact convertA_nat
    | exact makeSliceA_nat
    | exact builtinA_nat
    | (rw [storeA_nat, storeA_nat (κ := fun N => some (_, N))]; cases storeA O _ _ some <;> rfl)
    | (rw [mapUpdateA_nat, mapUpdateA_nat (κ := fun N => some (_, N))]; cases mapUpdateA P O _ _ _ _ some <;> rfl)
end
end Go.Ab

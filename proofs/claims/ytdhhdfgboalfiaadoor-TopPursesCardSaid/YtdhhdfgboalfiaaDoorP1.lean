import Derived.Test.YtdhhdfgboalfiaaDoorE1
set_option linter.unusedVariables false
set_option linter.unusedSimpArgs false
namespace Go.Ab.T
open Go.IntWalk

theorem intBeq_eq (x y : Int) : intBeq x y = decide (x = y) := by
  unfold intBeq; by_cases h : x = y <;> simp [h]

abbrev W := Int × (Int × (Int × (Int × Int)))

/-- What a wallet's check tells. -/
def chk (a b f h u : Int) : Int :=
  if a < 1 ∨ 9999 < a ∨ b < -1125899906842624 ∨ 1125899906842624 < b ∨ f < -1125899906842624 ∨ 0 < f ∨ h < 0 ∨ 1125899906842624 < h ∨ u < -1 ∨ 12622780799 < u then 6
  else if b - h < f then 19 else 0

theorem inAm_val (k : Nat) (x : Int) : inAmounts (k + 1) x = some (decide (-1125899906842624 ≤ x ∧ x ≤ 1125899906842624)) := by
  rw [inAmounts_eq]
  by_cases h : x ≥ -1125899906842624 <;> simp [h] <;> omega
theorem valid_val (k : Nat) (x : Int) : valid (k + 1) x = some (decide (-1125899906842624 ≤ x ∧ x ≤ 1125899906842624)) := by
  rw [valid_eq]
  by_cases h : x ≥ -1125899906842624 <;> simp [h] <;> omega
theorem within_val (k : Nat) (x l h : Int) : within (k + 1) (x, l, h) = some (decide (l ≤ x ∧ x ≤ h)) := by
  rw [within_eq]
  by_cases h1 : x ≥ l <;> simp [h1] <;> omega

theorem wCheck_val (k : Nat) (a b f h u : Int) : wCheck (k + 2) (a, b, f, h, u) = some (chk a b f h u) := by
  rw [wCheck_eq]
  simp only [within_val, valid_val, Option.bind_some, cond_eq_ite]
  unfold chk
  by_cases c1 : 1 ≤ a ∧ a ≤ 9999
  · by_cases c2 : -1125899906842624 ≤ b ∧ b ≤ 1125899906842624
    · by_cases c3 : -1125899906842624 ≤ f ∧ f ≤ 0
      · by_cases c4 : 0 ≤ h ∧ h ≤ 1125899906842624
        · by_cases c5 : -1 ≤ u ∧ u ≤ 12622780799
          · have hw : IntKind.wrap .i64 (b - h) = b - h := i64_in _ (by omega)
            have hneg : ¬ (a < 1 ∨ 9999 < a ∨ b < -1125899906842624 ∨ 1125899906842624 < b ∨ f < -1125899906842624 ∨ 0 < f ∨ h < 0 ∨ 1125899906842624 < h ∨ u < -1 ∨ 12622780799 < u) := by omega
            rw [if_neg hneg]
            simp only [c1, c2, c3, c4, c5, hw]
            by_cases c6 : b - h < f <;> simp [c6]
          · simp only [c1, c2, c3, c4, c5]; simp; omega
        · simp only [c1, c2, c3, c4]; simp; omega
      · simp only [c1, c2, c3]; simp; omega
    · simp only [c1, c2]; simp; omega
  · simp only [c1]; simp; omega

theorem chk_zero {a b f h u : Int} : chk a b f h u = 0 ↔ (1 ≤ a ∧ a ≤ 9999 ∧ -1125899906842624 ≤ b ∧ b ≤ 1125899906842624 ∧ -1125899906842624 ≤ f ∧ f ≤ 0 ∧ 0 ≤ h ∧ h ≤ 1125899906842624 ∧ -1 ≤ u ∧ u ≤ 12622780799) ∧ f ≤ b - h := by
  unfold chk
  split
  · constructor
    · intro h; omega
    · intro h; omega
  · split
    · constructor
      · intro h; omega
      · intro h; omega
    · constructor
      · intro h; omega
      · intro h; rfl

theorem wFree_val (k : Nat) (a b f h u : Int) : wFree (k + 3) (a, b, f, h, u) = some (if chk a b f h u = 0 then b - h - f else 0) := by
  rw [wFree_eq]
  simp only [wCheck_val, Option.bind_some, intBeq_eq]
  by_cases c : chk a b f h u = 0
  · have := chk_zero.1 c
    have hw : IntKind.wrap .i64 (b - h) = b - h := i64_in _ (by omega)
    have hw2 : IntKind.wrap .i64 (b - h - f) = b - h - f := i64_in _ (by omega)
    simp [c, hw, hw2]
  · simp [c]

abbrev W0 : W := (0, 0, 0, 0, 0)

theorem wResult_val (k : Nat) (a b f h u e : Int) : wResult (k + 1) ((a, b, f, h, u), e) = some (if e = 0 then ((a, b, f, h, u), 0) else (W0, e)) := by
  rw [wResult_eq]
  simp only [intBeq_eq]
  by_cases c : e = 0 <;> simp [c]

theorem wCredit_val (k : Nat) (a b f h u x : Int) : wCredit (k + 4) ((a, b, f, h, u), x) = some (if chk a b f h u ≠ 0 then (W0, chk a b f h u) else
    if x < 0 ∨ 1125899906842624 < x ∨ 1125899906842624 < b + x then (W0, 6) else ((a, b + x, f, h, u), 0)) := by
  rw [wCredit_eq]
  simp only [wCheck_val, wResult_val, within_val, valid_val, Option.bind_some, intBeq_eq]
  by_cases c : chk a b f h u = 0
  · have := chk_zero.1 c
    by_cases c1 : 0 ≤ x ∧ x ≤ 1125899906842624
    · have hw : IntKind.wrap .i64 (b + x) = b + x := i64_in _ (by omega)
      by_cases c2 : b + x ≤ 1125899906842624
      · have : -1125899906842624 ≤ b + x := by omega
        have h3 : ¬ (x < 0 ∨ 1125899906842624 < x ∨ 1125899906842624 < b + x) := by omega
        simp [c, c1, hw, c2, this, h3]
      · have h3 : (x < 0 ∨ 1125899906842624 < x ∨ 1125899906842624 < b + x) := by omega
        simp [c, c1, hw, c2, h3]
    · have h3 : (x < 0 ∨ 1125899906842624 < x ∨ 1125899906842624 < b + x) := by omega
      simp [c, c1, h3]
  · simp [c]

theorem wDebit_val (k : Nat) (a b f h u x : Int) : wDebit (k + 4) ((a, b, f, h, u), x) = some (if chk a b f h u ≠ 0 then (W0, chk a b f h u) else
    if x < 0 ∨ 1125899906842624 < x then (W0, 6) else if b - h - f < x then (W0, 19) else ((a, b - x, f, h, u), 0)) := by
  rw [wDebit_eq]
  simp only [wCheck_val, wResult_val, within_val, valid_val, wFree_val, Option.bind_some, intBeq_eq]
  by_cases c : chk a b f h u = 0
  · have := chk_zero.1 c
    by_cases c1 : 0 ≤ x ∧ x ≤ 1125899906842624
    · have hw : IntKind.wrap .i64 (b - x) = b - x := i64_in _ (by omega)
      have h3 : ¬ (x < 0 ∨ 1125899906842624 < x) := by omega
      by_cases c2 : b - h - f < x
      · simp [c, c1, hw, c2, h3]
      · simp [c, c1, hw, c2, h3]
    · have h3 : (x < 0 ∨ 1125899906842624 < x) := by omega
      simp [c, c1, h3]
  · simp [c]

theorem wHold_val (k : Nat) (a b f h u x : Int) : wHold (k + 4) ((a, b, f, h, u), x) = some (if chk a b f h u ≠ 0 then (W0, chk a b f h u) else
    if x < 0 ∨ 1125899906842624 < x then (W0, 6) else if b - h - f < x then (W0, 19) else if 1125899906842624 < h + x then (W0, 6) else ((a, b, f, h + x, u), 0)) := by
  rw [wHold_eq]
  simp only [wCheck_val, wResult_val, within_val, valid_val, wFree_val, Option.bind_some, intBeq_eq]
  by_cases c : chk a b f h u = 0
  · have := chk_zero.1 c
    by_cases c1 : 0 ≤ x ∧ x ≤ 1125899906842624
    · have hw : IntKind.wrap .i64 (h + x) = h + x := i64_in _ (by omega)
      have h3 : ¬ (x < 0 ∨ 1125899906842624 < x) := by omega
      by_cases c2 : b - h - f < x
      · simp [c, c1, hw, c2, h3]
      · by_cases c4 : 1125899906842624 < h + x
        · simp [c, c1, hw, c2, h3, c4]
        · simp [c, c1, hw, c2, h3, c4]
    · have h3 : (x < 0 ∨ 1125899906842624 < x) := by omega
      simp [c, c1, h3]
  · simp [c]

theorem wSettle_val (k : Nat) (a b f h u x y : Int) : wSettle (k + 4) ((a, b, f, h, u), x, y) = some (if chk a b f h u ≠ 0 then (W0, chk a b f h u) else
    if y < 0 ∨ x < y ∨ h < x then (W0, 6) else ((a, b - y, f, h - x, u), 0)) := by
  rw [wSettle_eq]
  simp only [wCheck_val, wResult_val, within_val, valid_val, wFree_val, Option.bind_some, intBeq_eq]
  by_cases c : chk a b f h u = 0
  · have := chk_zero.1 c
    by_cases c1 : 0 ≤ y ∧ y ≤ x
    · by_cases c2 : h < x
      · have h3 : (y < 0 ∨ x < y ∨ h < x) := by omega
        simp [c, c1, c2, h3]
      · have hw : IntKind.wrap .i64 (h - x) = h - x := i64_in _ (by omega)
        have hw2 : IntKind.wrap .i64 (b - y) = b - y := i64_in _ (by omega)
        have h3 : ¬ (y < 0 ∨ x < y ∨ h < x) := by omega
        simp [c, c1, hw, hw2, c2, h3]
    · have h3 : (y < 0 ∨ x < y ∨ h < x) := by omega
      simp [c, c1, h3]
  · simp [c]

theorem wFloor_val (k : Nat) (a b f h u x : Int) : wFloor (k + 4) ((a, b, f, h, u), x) = some (if chk a b f h u ≠ 0 then (W0, chk a b f h u) else
    if x < -1125899906842624 ∨ 0 < x then (W0, 6) else if b - h < x then (W0, 19) else ((a, b, x, h, u), 0)) := by
  rw [wFloor_eq]
  simp only [wCheck_val, wResult_val, within_val, valid_val, wFree_val, Option.bind_some, intBeq_eq]
  by_cases c : chk a b f h u = 0
  · have := chk_zero.1 c
    by_cases c1 : -1125899906842624 ≤ x ∧ x ≤ 0
    · have hw : IntKind.wrap .i64 (b - h) = b - h := i64_in _ (by omega)
      have h3 : ¬ (x < -1125899906842624 ∨ 0 < x) := by omega
      by_cases c2 : b - h < x
      · simp [c, c1, hw, c2, h3]
      · simp [c, c1, hw, c2, h3]
    · have h3 : (x < -1125899906842624 ∨ 0 < x) := by omega
      simp [c, c1, h3]
  · simp [c]
end Go.Ab.T

import Derived.Test.YtdhhdfgboalfiaaDoorP2
set_option linter.unusedVariables false
set_option linter.unusedSimpArgs false
set_option maxRecDepth 20000
namespace Go.Ab.T
open Go.IntWalk
attribute [local irreducible] tp tp_R8 tp_R14 wCheck wFree inAmounts pays chk

def DeedOk (x : Deed) : Prop := -9223372036854775808 ≤ x.2.1 ∧ x.2.1 ≤ 9223372036854775807 ∧ -9223372036854775808 ≤ x.2.2 ∧ x.2.2 ≤ 9223372036854775807

theorem R8_val {k : Nat} {want ac b f h : Int} {l : List Deed} (hwant : want = chk ac b f h (-1)) (hx : ∀ x ∈ l, DeedOk x) :
    tp_R8 (k + 190) b f h l want ac b f h (-1) = some true := by
  rw [show k + 190 = (k + 189) + 1 by omega, tp_R8_eq]
  have hm : minI ((List.length l) : Int) (40 : Int) = ((min l.length 40 : Nat) : Int) := by
    unfold minI
    by_cases c : (40 : Int) < l.length
    · simp only [c, decide_true, cond_true]; omega
    · simp only [c, decide_false, cond_false]; omega
  rw [hm]
  have hg : (decide ((0:Int) ≤ (0 : Int)) && decide ((0 : Int) ≤ ((min l.length 40 : Nat) : Int)) && decide (((min l.length 40 : Nat) : Int) ≤ ((List.length l) : Int))) = true := by
    simp; omega
  rw [hg]
  generalize hl' : List.take (Int.toNat ((min l.length 40 : Nat) : Int) - Int.toNat (0 : Int)) (List.drop 0 l) = l'
  have hlen : l'.length ≤ 40 := by
    rw [← hl']; simp; omega
  have hmem : ∀ x ∈ l', DeedOk x := fun x hm => hx x (by
    rw [← hl'] at hm
    exact List.mem_of_mem_drop (List.mem_of_mem_take hm))
  have go : ∀ free, (want = 0 → free = b - h - f) → tp_R14 (k + 189) want free l' (l'.length : Int) 0 ac b f h (-1) = some true := fun free hf => by
    rw [show k + 189 = 3 * 40 + (k + 8) + 61 by omega]
    exact R14_val 40 (k + 8) want free l' 0 ac b f h (-1) (by omega) (by omega) (by omega) hlen hwant hf hmem
  simp only [cond_true, intBeq_eq, wCheck_val, wFree_val, Option.bind_some, ← hwant]
  by_cases hw : want = 0
  · have hz := chk_zero.1 (hwant ▸ hw : chk ac b f h (-1) = 0)
    have w1 : IntKind.wrap .i64 (b - h) = b - h := i64_in _ (by omega)
    have w2 : IntKind.wrap .i64 (b - h - f) = b - h - f := i64_in _ (by omega)
    have := go (b - h - f) (fun _ => rfl)
    subst hw
    simp [w1, w2, this]
  · have := go 0 (fun e => absurd e hw)
    simp [hw, this]

theorem tp_val {k : Nat} {ac b f h : Int} {l : List Deed} (hx : ∀ x ∈ l, DeedOk x) : tp (k + 191) (ac, b, f, h, l) = some true := by
  rw [show k + 191 = (k + 190) + 1 by omega, tp_eq]
  have six : chk ac b f h (-1) = 6 → tp_R8 (k + 190) b f h l 6 ac b f h (-1) = some true := fun e => R8_val e.symm hx
  have c19 : chk ac b f h (-1) = 19 → tp_R8 (k + 190) b f h l 19 ac b f h (-1) = some true := fun e => R8_val e.symm hx
  have c0 : chk ac b f h (-1) = 0 → tp_R8 (k + 190) b f h l 0 ac b f h (-1) = some true := fun e => R8_val e.symm hx
  have w1 : (-1125899906842624 ≤ b ∧ b ≤ 1125899906842624 ∧ 0 ≤ h ∧ h ≤ 1125899906842624) → IntKind.wrap .i64 (b - h) = b - h := fun _ => i64_in _ (by omega)
  simp only [inAm_val, Option.bind_some, cond_eq_ite, decide_eq_true_eq, Bool.not_eq_true', decide_eq_false_iff_not]
  (repeat' split) <;> first
    | (apply six; unfold chk; rw [if_pos (by omega)]; done)
    | (apply c19; have := w1 (by omega); unfold chk; rw [if_neg (by omega), if_pos (by omega)]; done)
    | (apply c0; have := w1 (by omega); unfold chk; rw [if_neg (by omega), if_neg (by omega)]; done)
end Go.Ab.T

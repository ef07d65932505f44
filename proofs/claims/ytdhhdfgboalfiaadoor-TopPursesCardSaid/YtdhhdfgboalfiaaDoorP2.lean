import Derived.Test.YtdhhdfgboalfiaaDoorP1
set_option linter.unusedVariables false
set_option linter.unusedSimpArgs false
set_option maxRecDepth 20000
set_option maxHeartbeats 2000000
namespace Go.Ab.T
open Go.IntWalk
attribute [local irreducible] tp tp_R8 tp_R14 tp_R30 tp_R37 tp_R46 tp_R51 tp_R25 tp_R53 wCheck wFree wResult wCredit wDebit wHold wSettle wFloor within valid inAmounts pays chk

abbrev Deed := Int × (Int × Int)

/-- One deed is weighed, and the wallet goes on. -/
theorem R53_val {k : Nat} {want free why e : Int} {l : List Deed} {n i a b f h u a' b' f' h' u' ga gb gf gh gu : Int}
    (hbad : (want ≠ 0 ∨ why ≠ 0) → e = (if want ≠ 0 then want else why) ∧ ga = 0 ∧ gb = 0 ∧ gf = 0 ∧ gh = 0 ∧ gu = 0)
    (hgood : want = 0 → why = 0 → e = 0 ∧ ga = a' ∧ gb = b' ∧ gf = f' ∧ gh = h' ∧ gu = u' ∧ chk a' b' f' h' u' = 0)
    (hsame : (want ≠ 0 ∨ why ≠ 0) → tp_R14 (k + 3) want free l n (IntKind.wrap .i64 (i + 1)) a b f h u = some true)
    (hnew : want = 0 → why = 0 → tp_R14 (k + 3) want (b' - h' - f') l n (IntKind.wrap .i64 (i + 1)) a' b' f' h' u' = some true) :
    tp_R53 (k + 4) want free why e l n i a b f h u a' b' f' h' u' ga gb gf gh gu = some true := by
  rw [tp_R53_eq]
  simp only [intBeq_eq]
  by_cases hw : want = 0
  · by_cases hy : why = 0
    · obtain ⟨rfl, rfl, rfl, rfl, rfl, rfl, hc⟩ := hgood hw hy
      have hn := hnew hw hy
      have hz := chk_zero.1 hc
      have w1 : IntKind.wrap .i64 (gb - gh) = gb - gh := i64_in _ (by omega)
      have w2 : IntKind.wrap .i64 (gb - gh - gf) = gb - gh - gf := i64_in _ (by omega)
      have h3 : ¬ (gb - gh - gf < 0) := by omega
      subst hw
      simp [hy, wCheck_val, wFree_val, hc, w1, w2, h3, hn]
    · obtain ⟨rfl, rfl, rfl, rfl, rfl, rfl⟩ := hbad (.inr hy)
      have hn := hsame (.inr hy)
      subst hw
      simp [hy, hn]
  · obtain ⟨rfl, rfl, rfl, rfl, rfl, rfl⟩ := hbad (.inl hw)
    have hn := hsame (.inl hw)
    simp [hw, hn]

theorem getD_mem' (l : List Deed) (i : Nat) (d : Deed) (h : i < l.length) : List.getD l i d ∈ l := by
  rw [List.getD_eq_getElem?_getD, List.getElem?_eq_getElem h]; simp

section
variable {k : Nat} {want free why : Int} {l : List Deed} {n i a b f h u kind A B g1 g2 g3 g4 g5 : Int}

theorem R30_val (hwant : want = chk a b f h u) (hwhy : want = 0 → why = if A < 0 ∨ 1125899906842624 < A ∨ 1125899906842624 < b + A then 6 else 0)
    (hsame : tp_R14 (k + 3) want free l n (IntKind.wrap .i64 (i + 1)) a b f h u = some true)
    (hnew : want = 0 → why = 0 → chk a (b + A) (f) (h) u = 0 → tp_R14 (k + 3) want ((b + A) - (h) - (f)) l n (IntKind.wrap .i64 (i + 1)) a (b + A) (f) (h) u = some true) :
    tp_R30 (k + 5) want free why l n i a b f h u kind A B a b f h u g1 g2 g3 g4 g5 = some true := by
  rw [tp_R30_eq, wCredit_val]
  by_cases hc : chk a b f h u = 0
  · have hz := chk_zero.1 hc
    have hw0 : want = 0 := hwant.trans hc
    have hwhy := hwhy hw0
    rw [if_neg (by simp [hc])]
    by_cases h0 : A < 0 ∨ 1125899906842624 < A ∨ 1125899906842624 < b + A
    · rw [if_pos h0] at hwhy ⊢
      simp only [Option.bind_some]
      refine R53_val (fun _ => ?_) (fun _ hy => ?_) (fun _ => hsame) (fun _ hy => ?_)
      · simp [hw0, hwhy]
      · rw [hwhy] at hy; simp at hy
      · rw [hwhy] at hy; simp at hy
    · rw [if_neg h0] at hwhy ⊢
      have : IntKind.wrap .i64 (b + A) = b + A := i64_in _ (by omega)
      rw [this]
      have hck : chk a (b + A) (f) (h) u = 0 := chk_zero.2 (by omega)
      simp only [Option.bind_some]
      refine R53_val (fun hy => ?_) (fun _ _ => ⟨rfl, rfl, rfl, rfl, rfl, rfl, hck⟩) (fun _ => hsame) (fun hx hy => hnew hx hy hck)
      rcases hy with hy | hy
      · exact absurd hw0 hy
      · exact absurd hwhy hy
  · have hw0 : want ≠ 0 := fun e => hc (hwant ▸ e)
    rw [if_pos hc]
    simp only [Option.bind_some]
    refine R53_val (fun _ => ?_) (fun hx _ => absurd hx hw0) (fun _ => hsame) (fun hx _ => absurd hx hw0)
    simp [hwant, hc]

theorem R37_val (hwant : want = chk a b f h u) (hwhy : want = 0 → why = if A < 0 ∨ 1125899906842624 < A then 6 else if b - h - f < A then 19 else 0)
    (hsame : tp_R14 (k + 3) want free l n (IntKind.wrap .i64 (i + 1)) a b f h u = some true)
    (hnew : want = 0 → why = 0 → chk a (b - A) (f) (h) u = 0 → tp_R14 (k + 3) want ((b - A) - (h) - (f)) l n (IntKind.wrap .i64 (i + 1)) a (b - A) (f) (h) u = some true) :
    tp_R37 (k + 5) want free why l n i a b f h u kind A B a b f h u g1 g2 g3 g4 g5 = some true := by
  rw [tp_R37_eq, wDebit_val]
  by_cases hc : chk a b f h u = 0
  · have hz := chk_zero.1 hc
    have hw0 : want = 0 := hwant.trans hc
    have hwhy := hwhy hw0
    rw [if_neg (by simp [hc])]
    by_cases h0 : A < 0 ∨ 1125899906842624 < A
    · rw [if_pos h0] at hwhy ⊢
      simp only [Option.bind_some]
      refine R53_val (fun _ => ?_) (fun _ hy => ?_) (fun _ => hsame) (fun _ hy => ?_)
      · simp [hw0, hwhy]
      · rw [hwhy] at hy; simp at hy
      · rw [hwhy] at hy; simp at hy
    · rw [if_neg h0] at hwhy ⊢
      by_cases h1 : b - h - f < A
      · rw [if_pos h1] at hwhy ⊢
        simp only [Option.bind_some]
        refine R53_val (fun _ => ?_) (fun _ hy => ?_) (fun _ => hsame) (fun _ hy => ?_)
        · simp [hw0, hwhy]
        · rw [hwhy] at hy; simp at hy
        · rw [hwhy] at hy; simp at hy
      · rw [if_neg h1] at hwhy ⊢
        have : IntKind.wrap .i64 (b - A) = b - A := i64_in _ (by omega)
        rw [this]
        have hck : chk a (b - A) (f) (h) u = 0 := chk_zero.2 (by omega)
        simp only [Option.bind_some]
        refine R53_val (fun hy => ?_) (fun _ _ => ⟨rfl, rfl, rfl, rfl, rfl, rfl, hck⟩) (fun _ => hsame) (fun hx hy => hnew hx hy hck)
        rcases hy with hy | hy
        · exact absurd hw0 hy
        · exact absurd hwhy hy
  · have hw0 : want ≠ 0 := fun e => hc (hwant ▸ e)
    rw [if_pos hc]
    simp only [Option.bind_some]
    refine R53_val (fun _ => ?_) (fun hx _ => absurd hx hw0) (fun _ => hsame) (fun hx _ => absurd hx hw0)
    simp [hwant, hc]

theorem R46_val (hwant : want = chk a b f h u) (hwhy : want = 0 → why = if A < 0 ∨ 1125899906842624 < A then 6 else if b - h - f < A then 19 else if 1125899906842624 < h + A then 6 else 0)
    (hsame : tp_R14 (k + 3) want free l n (IntKind.wrap .i64 (i + 1)) a b f h u = some true)
    (hnew : want = 0 → why = 0 → chk a (b) (f) (h + A) u = 0 → tp_R14 (k + 3) want (b - (h + A) - (f)) l n (IntKind.wrap .i64 (i + 1)) a (b) (f) (h + A) u = some true) :
    tp_R46 (k + 5) want free why l n i a b f h u kind A B a b f h u g1 g2 g3 g4 g5 = some true := by
  rw [tp_R46_eq, wHold_val]
  by_cases hc : chk a b f h u = 0
  · have hz := chk_zero.1 hc
    have hw0 : want = 0 := hwant.trans hc
    have hwhy := hwhy hw0
    rw [if_neg (by simp [hc])]
    by_cases h0 : A < 0 ∨ 1125899906842624 < A
    · rw [if_pos h0] at hwhy ⊢
      simp only [Option.bind_some]
      refine R53_val (fun _ => ?_) (fun _ hy => ?_) (fun _ => hsame) (fun _ hy => ?_)
      · simp [hw0, hwhy]
      · rw [hwhy] at hy; simp at hy
      · rw [hwhy] at hy; simp at hy
    · rw [if_neg h0] at hwhy ⊢
      by_cases h1 : b - h - f < A
      · rw [if_pos h1] at hwhy ⊢
        simp only [Option.bind_some]
        refine R53_val (fun _ => ?_) (fun _ hy => ?_) (fun _ => hsame) (fun _ hy => ?_)
        · simp [hw0, hwhy]
        · rw [hwhy] at hy; simp at hy
        · rw [hwhy] at hy; simp at hy
      · rw [if_neg h1] at hwhy ⊢
        by_cases h2 : 1125899906842624 < h + A
        · rw [if_pos h2] at hwhy ⊢
          simp only [Option.bind_some]
          refine R53_val (fun _ => ?_) (fun _ hy => ?_) (fun _ => hsame) (fun _ hy => ?_)
          · simp [hw0, hwhy]
          · rw [hwhy] at hy; simp at hy
          · rw [hwhy] at hy; simp at hy
        · rw [if_neg h2] at hwhy ⊢
          have : IntKind.wrap .i64 (h + A) = h + A := i64_in _ (by omega)
          rw [this]
          have hck : chk a (b) (f) (h + A) u = 0 := chk_zero.2 (by omega)
          simp only [Option.bind_some]
          refine R53_val (fun hy => ?_) (fun _ _ => ⟨rfl, rfl, rfl, rfl, rfl, rfl, hck⟩) (fun _ => hsame) (fun hx hy => hnew hx hy hck)
          rcases hy with hy | hy
          · exact absurd hw0 hy
          · exact absurd hwhy hy
  · have hw0 : want ≠ 0 := fun e => hc (hwant ▸ e)
    rw [if_pos hc]
    simp only [Option.bind_some]
    refine R53_val (fun _ => ?_) (fun hx _ => absurd hx hw0) (fun _ => hsame) (fun hx _ => absurd hx hw0)
    simp [hwant, hc]

theorem R51_val (hwant : want = chk a b f h u) (hwhy : want = 0 → why = if B < 0 ∨ A < B ∨ h < A then 6 else 0)
    (hsame : tp_R14 (k + 3) want free l n (IntKind.wrap .i64 (i + 1)) a b f h u = some true)
    (hnew : want = 0 → why = 0 → chk a (b - B) (f) (h - A) u = 0 → tp_R14 (k + 3) want ((b - B) - (h - A) - (f)) l n (IntKind.wrap .i64 (i + 1)) a (b - B) (f) (h - A) u = some true) :
    tp_R51 (k + 5) want free why l n i a b f h u kind A B a b f h u g1 g2 g3 g4 g5 = some true := by
  rw [tp_R51_eq, wSettle_val]
  by_cases hc : chk a b f h u = 0
  · have hz := chk_zero.1 hc
    have hw0 : want = 0 := hwant.trans hc
    have hwhy := hwhy hw0
    rw [if_neg (by simp [hc])]
    by_cases h0 : B < 0 ∨ A < B ∨ h < A
    · rw [if_pos h0] at hwhy ⊢
      simp only [Option.bind_some]
      refine R53_val (fun _ => ?_) (fun _ hy => ?_) (fun _ => hsame) (fun _ hy => ?_)
      · simp [hw0, hwhy]
      · rw [hwhy] at hy; simp at hy
      · rw [hwhy] at hy; simp at hy
    · rw [if_neg h0] at hwhy ⊢
      have : IntKind.wrap .i64 (b - B) = b - B := i64_in _ (by omega)
      rw [this]
      have : IntKind.wrap .i64 (h - A) = h - A := i64_in _ (by omega)
      rw [this]
      have hck : chk a (b - B) (f) (h - A) u = 0 := chk_zero.2 (by omega)
      simp only [Option.bind_some]
      refine R53_val (fun hy => ?_) (fun _ _ => ⟨rfl, rfl, rfl, rfl, rfl, rfl, hck⟩) (fun _ => hsame) (fun hx hy => hnew hx hy hck)
      rcases hy with hy | hy
      · exact absurd hw0 hy
      · exact absurd hwhy hy
  · have hw0 : want ≠ 0 := fun e => hc (hwant ▸ e)
    rw [if_pos hc]
    simp only [Option.bind_some]
    refine R53_val (fun _ => ?_) (fun hx _ => absurd hx hw0) (fun _ => hsame) (fun hx _ => absurd hx hw0)
    simp [hwant, hc]

theorem R25_val (hwant : want = chk a b f h u) (hwhy : want = 0 → why = if A < -1125899906842624 ∨ 0 < A then 6 else if b - h < A then 19 else 0)
    (hsame : tp_R14 (k + 3) want free l n (IntKind.wrap .i64 (i + 1)) a b f h u = some true)
    (hnew : want = 0 → why = 0 → chk a (b) (A) (h) u = 0 → tp_R14 (k + 3) want (b - (h) - (A)) l n (IntKind.wrap .i64 (i + 1)) a (b) (A) (h) u = some true) :
    tp_R25 (k + 5) want free why l n i a b f h u kind A B a b f h u g1 g2 g3 g4 g5 = some true := by
  rw [tp_R25_eq, wFloor_val]
  by_cases hc : chk a b f h u = 0
  · have hz := chk_zero.1 hc
    have hw0 : want = 0 := hwant.trans hc
    have hwhy := hwhy hw0
    rw [if_neg (by simp [hc])]
    by_cases h0 : A < -1125899906842624 ∨ 0 < A
    · rw [if_pos h0] at hwhy ⊢
      simp only [Option.bind_some]
      refine R53_val (fun _ => ?_) (fun _ hy => ?_) (fun _ => hsame) (fun _ hy => ?_)
      · simp [hw0, hwhy]
      · rw [hwhy] at hy; simp at hy
      · rw [hwhy] at hy; simp at hy
    · rw [if_neg h0] at hwhy ⊢
      by_cases h1 : b - h < A
      · rw [if_pos h1] at hwhy ⊢
        simp only [Option.bind_some]
        refine R53_val (fun _ => ?_) (fun _ hy => ?_) (fun _ => hsame) (fun _ hy => ?_)
        · simp [hw0, hwhy]
        · rw [hwhy] at hy; simp at hy
        · rw [hwhy] at hy; simp at hy
      · rw [if_neg h1] at hwhy ⊢
        have hck : chk a (b) (A) (h) u = 0 := chk_zero.2 (by omega)
        simp only [Option.bind_some]
        refine R53_val (fun hy => ?_) (fun _ _ => ⟨rfl, rfl, rfl, rfl, rfl, rfl, hck⟩) (fun _ => hsame) (fun hx hy => hnew hx hy hck)
        rcases hy with hy | hy
        · exact absurd hw0 hy
        · exact absurd hwhy hy
  · have hw0 : want ≠ 0 := fun e => hc (hwant ▸ e)
    rw [if_pos hc]
    simp only [Option.bind_some]
    refine R53_val (fun _ => ?_) (fun hx _ => absurd hx hw0) (fun _ => hsame) (fun hx _ => absurd hx hw0)
    simp [hwant, hc]

end

/-- The loop: after all deeds it is told that an amount pays. -/
theorem R14_val : ∀ (m k : Nat) (want free : Int) (l : List Deed) (i a b f h u : Int), (l.length : Int) - i ≤ m → 0 ≤ i → i ≤ l.length → l.length ≤ 40 → want = chk a b f h u → (want = 0 → free = b - h - f) →
    (∀ x ∈ l, -9223372036854775808 ≤ x.2.1 ∧ x.2.1 ≤ 9223372036854775807 ∧ -9223372036854775808 ≤ x.2.2 ∧ x.2.2 ≤ 9223372036854775807) →
    tp_R14 (3 * m + k + 61) want free l (l.length : Int) i a b f h u = some true := by
  intro m
  induction m with
  | zero =>
    intro k want free l i a b f h u hm h0 hi hl hwant hfree hx
    rw [show 3 * 0 + k + 61 = (k + 60) + 1 by omega, tp_R14_eq]
    have : ¬ i < (l.length : Int) := by omega
    simp only [this, decide_false, cond_false, pays_ok]
    rfl
  | succ m ih =>
    intro k want free l i a b f h u hm h0 hi hl hwant hfree hx
    rw [show 3 * (m + 1) + k + 61 = (3 * m + k + 63) + 1 by omega, tp_R14_eq]
    by_cases hlt : i < (l.length : Int)
    · have hin : i.toNat < l.length := by omega
      have hw1 : IntKind.wrap .i64 (i + 1) = i + 1 := i64_in _ (by omega)
      have next : ∀ free a b f h u, want = chk a b f h u → (want = 0 → free = b - h - f) → tp_R14 (3 * m + k + 61) want free l (l.length : Int) (i + 1) a b f h u = some true := fun free a b f h u h1 h2 =>
        ih k want free l (i + 1) a b f h u (by omega) (by omega) (by omega) hl h1 h2 hx
      generalize hd : List.getD l i.toNat (El.dflt (.pair (.int .u8) (.pair (.int .i64) (.int .i64)))) = d
      have hdm : d ∈ l := by
        rw [← hd]; exact getD_mem' l i.toNat _ hin
      obtain ⟨kind, A, B⟩ := d
      have hAB := hx _ hdm
      simp only at hAB
      have hb : (decide ((0 : Int) ≤ i) && decide (i < (l.length : Int))) = true := by simp [h0, hlt]
      simp only [hb]
      simp only [hlt, decide_true, cond_true, hd, intBeq_eq, inAm_val, Option.bind_some]
      have cr : ∀ why, (want = 0 → why = if A < 0 ∨ 1125899906842624 < A ∨ 1125899906842624 < b + A then 6 else 0) → ∀ g1 g2 g3 g4 g5, tp_R30 (3 * m + k + 63) want free why l (l.length : Int) i a b f h u kind A B a b f h u g1 g2 g3 g4 g5 = some true := by
        intro why hwhy g1 g2 g3 g4 g5
        rw [show 3 * m + k + 63 = (3 * m + k + 58) + 5 by omega]
        exact R30_val hwant hwhy (by rw [hw1]; exact next _ _ _ _ _ _ hwant hfree) (fun h1 h2 h3 => by rw [hw1]; exact next _ _ _ _ _ _ (h1.trans h3.symm) (fun _ => rfl))
      have de : ∀ why, (want = 0 → why = if A < 0 ∨ 1125899906842624 < A then 6 else if b - h - f < A then 19 else 0) → ∀ g1 g2 g3 g4 g5, tp_R37 (3 * m + k + 63) want free why l (l.length : Int) i a b f h u kind A B a b f h u g1 g2 g3 g4 g5 = some true := by
        intro why hwhy g1 g2 g3 g4 g5
        rw [show 3 * m + k + 63 = (3 * m + k + 58) + 5 by omega]
        exact R37_val hwant hwhy (by rw [hw1]; exact next _ _ _ _ _ _ hwant hfree) (fun h1 h2 h3 => by rw [hw1]; exact next _ _ _ _ _ _ (h1.trans h3.symm) (fun _ => rfl))
      have ho : ∀ why, (want = 0 → why = if A < 0 ∨ 1125899906842624 < A then 6 else if b - h - f < A then 19 else if 1125899906842624 < h + A then 6 else 0) → ∀ g1 g2 g3 g4 g5, tp_R46 (3 * m + k + 63) want free why l (l.length : Int) i a b f h u kind A B a b f h u g1 g2 g3 g4 g5 = some true := by
        intro why hwhy g1 g2 g3 g4 g5
        rw [show 3 * m + k + 63 = (3 * m + k + 58) + 5 by omega]
        exact R46_val hwant hwhy (by rw [hw1]; exact next _ _ _ _ _ _ hwant hfree) (fun h1 h2 h3 => by rw [hw1]; exact next _ _ _ _ _ _ (h1.trans h3.symm) (fun _ => rfl))
      have se : ∀ why, (want = 0 → why = if B < 0 ∨ A < B ∨ h < A then 6 else 0) → ∀ g1 g2 g3 g4 g5, tp_R51 (3 * m + k + 63) want free why l (l.length : Int) i a b f h u kind A B a b f h u g1 g2 g3 g4 g5 = some true := by
        intro why hwhy g1 g2 g3 g4 g5
        rw [show 3 * m + k + 63 = (3 * m + k + 58) + 5 by omega]
        exact R51_val hwant hwhy (by rw [hw1]; exact next _ _ _ _ _ _ hwant hfree) (fun h1 h2 h3 => by rw [hw1]; exact next _ _ _ _ _ _ (h1.trans h3.symm) (fun _ => rfl))
      have fl : ∀ why, (want = 0 → why = if A < -1125899906842624 ∨ 0 < A then 6 else if b - h < A then 19 else 0) → ∀ g1 g2 g3 g4 g5, tp_R25 (3 * m + k + 63) want free why l (l.length : Int) i a b f h u kind A B a b f h u g1 g2 g3 g4 g5 = some true := by
        intro why hwhy g1 g2 g3 g4 g5
        rw [show 3 * m + k + 63 = (3 * m + k + 58) + 5 by omega]
        exact R25_val hwant hwhy (by rw [hw1]; exact next _ _ _ _ _ _ hwant hfree) (fun h1 h2 h3 => by rw [hw1]; exact next _ _ _ _ _ _ (h1.trans h3.symm) (fun _ => rfl))
      have zz := fun (hq : want = 0) => chk_zero.1 (hwant ▸ hq : chk a b f h u = 0)
      have w1 : want = 0 → (IntKind.wrap .i64 (b + A) = b + A ∨ A < 0 ∨ 1125899906842624 < A) := fun hq => by
        have := zz hq
        by_cases hA : 0 ≤ A ∧ A ≤ 1125899906842624
        · exact .inl (i64_in _ (by omega))
        · omega
      have w2 : want = 0 → IntKind.wrap .i64 (1125899906842624 - h) = 1125899906842624 - h := fun hq => by
        have := zz hq
        exact i64_in _ (by omega)
      have w3 : want = 0 → IntKind.wrap .i64 (b - h) = b - h := fun hq => by
        have := zz hq
        exact i64_in _ (by omega)
      simp only [cond_eq_ite, decide_eq_true_eq, Bool.not_eq_true', decide_eq_false_iff_not]
      (repeat' split) <;> first
        | (refine cr _ (fun hq => ?_) _ _ _ _ _; have := zz hq; have := w1 hq; have := hfree hq; (repeat' split) <;> omega)
        | (refine de _ (fun hq => ?_) _ _ _ _ _; have := zz hq; have := hfree hq; (repeat' split) <;> omega)
        | (refine ho _ (fun hq => ?_) _ _ _ _ _; have := zz hq; have := w2 hq; have := hfree hq; (repeat' split) <;> omega)
        | (refine se _ (fun hq => ?_) _ _ _ _ _; have := zz hq; have := hfree hq; (repeat' split) <;> omega)
        | (refine fl _ (fun hq => ?_) _ _ _ _ _; have := zz hq; have := w3 hq; have := hfree hq; (repeat' split) <;> omega)
    · have : ¬ i < (l.length : Int) := hlt
      simp only [this, decide_false, cond_false]
      rw [show 3 * m + k + 63 = (3 * m + k + 3) + 60 by omega, pays_ok]
      rfl
end Go.Ab.T

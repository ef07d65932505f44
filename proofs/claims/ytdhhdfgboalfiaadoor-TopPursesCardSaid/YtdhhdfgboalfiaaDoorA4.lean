/- Each operation of the abstract evaluator that is no call is sound: what it says of the value and of the objects holds of the model's run. First part: constants, reading and writing of cells, arithmetic, comparison. -/
import Derived.Test.YtdhhdfgboalfiaaDoorA3
import Derived.Laws.StructEq
import Derived.WalkKit
set_option linter.unusedVariables false
set_option linter.unusedSimpArgs false
namespace Go.Ab
open Go.RowKit

theorem cond_true' {R : Type} {b : Bool} {x : Option R} {r : R} (h : cond b x none = some r) : b = true ∧ x = some r := by
  cases b <;> simp at h ⊢; exact h
theorem cond_false' {R : Type} {b : Bool} {x : Option R} {r : R} (h : cond b none x = some r) : b = false ∧ x = some r := by
  cases b <;> simp at h ⊢; exact h

/-! ### Constants and zero values -/
theorem cellOf_sound {g : Gm} {v : Value} {c : Cell} (h : cellOf v = some c) : CellR g c v := by
  unfold cellOf at h
  split at h <;> first
    | (simp at h; done)
    | (obtain rfl := Option.some.inj h; first | exact ⟨rfl, rfl⟩ | exact rfl)

theorem mapM_cellOf_sound {g : Gm} : ∀ {vs : List Value} {cs : List Cell}, vs.mapM cellOf = some cs → All2 (CellR g) cs vs
  | [], cs, h => by simp at h; subst h; trivial
  | v :: vs, cs, h => by
    simp only [List.mapM_cons, Option.pure_def, Option.bind_eq_bind, Option.bind_eq_some_iff] at h
    obtain ⟨c, hc, cs', hcs, he⟩ := h
    obtain rfl := Option.some.inj he
    exact ⟨cellOf_sound hc, mapM_cellOf_sound hcs⟩

theorem avOf_sound {g : Gm} {v : Value} {a : AV} (h : avOf v = some a) : AVR g a v := by
  unfold avOf at h
  split at h
  · rename_i cs
    split at h
    · rename_i l hl
      obtain rfl := Option.some.inj h
      exact ⟨cs.toList, by simp, mapM_cellOf_sound hl⟩
    · simp at h
  · split at h
    · rename_i c hc
      obtain rfl := Option.some.inj h
      exact cellOf_sound hc
    · simp at h

theorem zeroOf_sound {P : Program} {g : Gm} {t : Nat} {cs : List Cell} (h : zeroOf P t = some cs) :
    ∃ i z, P.info? t = some i ∧ i.zero = some z ∧ All2 (CellR g) cs z.cells.toList := by
  unfold zeroOf at h
  cases hi : P.info? t with
  | none => simp [hi] at h
  | some i =>
    cases hz : i.zero with
    | none => simp [hi, hz] at h
    | some z => simp [hi, hz] at h; exact ⟨i, z, rfl, hz, mapM_cellOf_sound h⟩

/-! ### Kinds of types -/
section
variable {P : Program}
theorem tkOf_int {t : Nat} {k : IntKind} (h : tkOf P t = .int k) : P.underlying t = some (.int k) := by
  unfold tkOf at h; split at h <;> simp_all
theorem tkOf_bool {t : Nat} (h : tkOf P t = .bool) : P.underlying t = some .bool := by
  unfold tkOf at h; split at h <;> simp_all
theorem tkOf_str {t : Nat} (h : tkOf P t = .str) : P.underlying t = some .string := by
  unfold tkOf at h; split at h <;> simp_all
theorem tkOf_slice {t e : Nat} (h : tkOf P t = .slice e) : P.underlying t = some (.slice e) := by
  unfold tkOf at h; split at h <;> simp_all
theorem tkOf_array {t n e : Nat} (h : tkOf P t = .array n e) : P.underlying t = some (.array n e) := by
  unfold tkOf at h; split at h <;> simp_all
theorem tkOf_map {t k e : Nat} (h : tkOf P t = .map k e) : P.underlying t = some (.map k e) := by
  unfold tkOf at h; split at h <;> simp_all
theorem tkOf_struct {t : Nat} {fs : List FInfo} (h : tkOf P t = .struct fs) : ∃ gs, P.underlying t = some (.struct gs) ∧ fs = gs.toList.map fun f => ⟨f.offset, P.cellsOf f.type, f.type, f.name == "_"⟩ := by
  unfold tkOf at h; split at h <;> simp_all

theorem isAggT_true {t : Nat} (h : isAggT P t = true) : ∃ d, P.underlying t = some d ∧ d.isRow = true := by
  unfold isAggT at h
  split at h
  · rename_i fs hs; obtain ⟨gs, hg, _⟩ := tkOf_struct hs; exact ⟨_, hg, rfl⟩
  · rename_i n e hs; exact ⟨_, tkOf_array hs, rfl⟩
  · simp at h

theorem isAggT_false {t : Nat} (h : isAggT P t = false) : ∀ d, P.underlying t = some d → d.isRow = false := by
  intro d hd
  unfold isAggT tkOf at h
  rw [hd] at h
  cases d <;> simp_all [TypeDesc.isRow]

theorem run_isAgg (w : World) (t : Nat) {d : TypeDesc} (hd : P.underlying t = some d) : (isAgg t).run P w = .ok (isAggT P t) w := by
  unfold isAgg isAggT tkOf
  simp only [Sem.run_bind, run_underlying hd, Result.andThen_ok]
  rw [hd]
  cases d <;> rfl

theorem cellsOf_pos {t : Nat} (h : 0 < P.cellsOf t) : ∃ i, P.info? t = some i ∧ i.size = P.cellsOf t := by
  unfold Program.cellsOf at *
  cases hi : P.info? t with
  | none => simp [hi] at h
  | some i => exact ⟨i, rfl, by simp⟩

theorem run_sizeOf' (w : World) {t : Nat} {i : TypeInfo} (hi : P.info? t = some i) : (sizeOf t).run P w = .ok (P.cellsOf t) w := by
  simp [sizeOf, typeInfo, hi, Program.cellsOf]
end

/-! ### Cells of pointers' bases -/
theorem explode_length : ∀ (s : Sh) (x : El s), (explode s x).length = s.size
  | .int _, _ => rfl
  | .bool, _ => rfl
  | .str, _ => rfl
  | .lst _, _ => rfl
  | .unit, _ => rfl
  | .pair a b, x => by simp [explode, explode_length a, explode_length b, Sh.size]

theorem explode_sound {g : Gm} : ∀ (s : Sh) (x : El s) (cs : List Value), K g.fz s x cs → All2 (CellR g) (explode s x) cs
  | .int k, x, cs, h => by cases h; exact ⟨⟨rfl, rfl⟩, trivial⟩
  | .bool, x, cs, h => by cases h; exact ⟨⟨rfl, rfl⟩, trivial⟩
  | .str, x, cs, h => by cases h; exact ⟨⟨rfl, rfl⟩, trivial⟩
  | .unit, x, cs, h => by cases h; trivial
  | .pair a b, x, cs, ⟨c, d, e, h, k⟩ => by rw [e]; exact (explode_sound a _ _ h).append (explode_sound b _ _ k)
  | .lst s, x, cs, h => by
    obtain ⟨a, cap, e, h1⟩ := h
    rw [e]
    exact ⟨⟨⟨a, cap, rfl, h1⟩, rfl⟩, trivial⟩

theorem castEl_K {f : Nat → Option Obj} {s s' : Sh} (h : s' = s) (x : El s') (cs : List Value) (hk : K f s' x cs) : K f s (castEl h x) cs := by
  subst h; exact hk

theorem cellEl_sound {g : Gm} {s : Sh} {c : Cell} {x : El s} {v : Value} (h : cellEl s c = some x) (hc : CellR g c v) : K g.fz s x [v] := by
  unfold cellEl at h
  split at h
  · rename_i s' y
    split at h
    · rename_i he
      obtain rfl := Option.some.inj h
      exact castEl_K he _ _ hc.1
    · simp at h
  · split at h
    · obtain rfl := Option.some.inj h
      obtain rfl : v = .slice none 0 0 := hc
      exact ⟨none, 0, rfl, Nat.le_refl _, .inl rfl⟩
    · simp at h
  · simp at h

theorem implode_sound {g : Gm} : ∀ (s : Sh) (cs : List Cell) (x : El s) (vs : List Value), implode s cs = some x → All2 (CellR g) cs vs → K g.fz s x vs
  | .unit, cs, x, vs, h, hv => by
    unfold implode at h
    split at h
    · cases vs with
      | nil => rfl
      | cons v r => exact hv.elim
    · simp at h
  | .pair a b, cs, x, vs, h, hv => by
    unfold implode at h
    split at h
    · rename_i y z hy hz
      obtain rfl := Option.some.inj h
      exact ⟨vs.take a.size, vs.drop a.size, (List.take_append_drop _ _).symm, implode_sound a _ _ _ hy (hv.take _), implode_sound b _ _ _ hz (hv.drop _)⟩
    · simp at h
  | .int k, cs, x, vs, h, hv => by
    unfold implode at h
    split at h
    · obtain ⟨v, rfl, hc⟩ := hv.single; exact cellEl_sound h hc
    · simp at h
  | .bool, cs, x, vs, h, hv => by
    unfold implode at h
    split at h
    · obtain ⟨v, rfl, hc⟩ := hv.single; exact cellEl_sound h hc
    · simp at h
  | .str, cs, x, vs, h, hv => by
    unfold implode at h
    split at h
    · obtain ⟨v, rfl, hc⟩ := hv.single; exact cellEl_sound h hc
    · simp at h
  | .lst s, cs, x, vs, h, hv => by
    unfold implode at h
    split at h
    · obtain ⟨v, rfl, hc⟩ := hv.single; exact cellEl_sound h hc
    · simp at h

theorem cell_of_block {w : World} {b : Nat} {c : Array Value} {e : TypeId} {fr : Nat × Nat} (h : w.heap[b]? = some (.cells c e fr)) (o : Nat) : w.cell? ⟨b, o, none⟩ = c[o]? := by
  simp [World.cell?, h]

section
variable {G : Nat → Option (List Cell)} {g : Gm} {w0 w : World} {O : Objs}

/-- A pointer's base and the cells that lie there. -/
theorem baseCells_sound (hr : Rel G g w0 O w) {b : PB} {gd : Bool} {cs : List Cell} {blk o : Nat} (h : baseCells G O b = some (gd, cs)) (hgd : gd = true) (hb : PBR g b blk o) :
    ∃ vs : List Value, All2 (CellR g) cs vs ∧ w.rangeAt blk o vs := by
  subst hgd
  cases b with
  | box id =>
    obtain ⟨hd, rfl, rfl⟩ := hb
    simp only [baseCells] at h
    split at h
    · rename_i cs' hl
      simp only [Option.some.injEq, Prod.mk.injEq, true_and] at h
      subst h
      obtain ⟨_, c, e, hc, ha⟩ := hr.obj id _ hl
      refine ⟨c.toList, ha, fun j v hv => ?_⟩
      rw [cell_of_block hc]
      simpa using hv
    · simp at h
  | row id i =>
    obtain ⟨hd, rfl, rfl⟩ := hb
    simp only [baseCells] at h
    split at h
    · rename_i s xs hl
      simp only [Option.some.injEq, Prod.mk.injEq, decide_eq_true_eq] at h
      obtain ⟨hi, rfl⟩ := h
      obtain ⟨h0, h1, h2, h3⟩ := hr.obj id _ hl
      rcases h3 with ⟨_, rfl⟩ | ⟨c, e, fr, hc, _, _, _, hrows⟩
      · simp at hi
      · obtain ⟨row, r1, r2, r3⟩ := hrows i hi
        refine ⟨row, explode_sound s _ _ r3, fun j v hv => ?_⟩
        rw [cell_of_block hc, h1]
        have := r2 j (List.getElem?_eq_some_iff.1 hv).1
        rw [Nat.zero_add] at this
        rw [this]; exact hv
    · rename_i s xs hl
      simp only [Option.some.injEq, Prod.mk.injEq, decide_eq_true_eq] at h
      obtain ⟨hi, rfl⟩ := h
      obtain ⟨h0, h1, h2, h3⟩ := hr.obj id _ hl
      rcases h3 with ⟨_, rfl⟩ | ⟨c, e, fr, hc, _, _, hrows⟩
      · simp at hi
      · obtain ⟨row, r1, r2, r3⟩ := hrows i hi
        refine ⟨row, explode_sound s _ _ r3, fun j v hv => ?_⟩
        rw [cell_of_block hc, h1]
        have := r2 j (List.getElem?_eq_some_iff.1 hv).1
        rw [Nat.zero_add] at this
        rw [this]; exact hv
    · simp at h
  | lrow s xs i =>
    obtain ⟨c, e, fr, row, h1, h2, h3, h4⟩ := hb
    simp only [baseCells, Option.some.injEq, Prod.mk.injEq, true_and] at h
    subst h
    refine ⟨row, explode_sound s _ _ h4, fun j v hv => ?_⟩
    rw [cell_of_block (hr.fz _ _ h1)]
    rw [h3 j (List.getElem?_eq_some_iff.1 hv).1]; exact hv
  | glob n =>
    obtain ⟨rfl, rfl⟩ := hb
    simp only [baseCells] at h
    split at h
    · rename_i cs' hg
      simp only [Option.some.injEq, Prod.mk.injEq, true_and] at h
      subst h
      obtain ⟨c, e, fr, h1, h2⟩ := hr.glob _ _ hg
      refine ⟨c.toList, h2, fun j v hv => ?_⟩
      rw [cell_of_block (hr.fz _ _ h1)]
      simpa using hv
    · simp at h

theorem allOf_sound {s : Sh} : ∀ {cs : List Cell} {xs : List (El s)} {vs : List Value}, allOf s cs = some xs → All2 (CellR g) cs vs → All2 (fun x v => K g.fz s x [v]) xs vs
  | [], xs, vs, h, hv => by
    simp [allOf] at h; subst h
    cases vs with
    | nil => trivial
    | cons v r => exact hv.elim
  | c :: r, xs, vs, h, hv => by
    unfold allOf at h
    split at h
    · rename_i x xs' hx hxs
      obtain rfl := Option.some.inj h
      cases vs with
      | nil => exact hv.elim
      | cons v r => exact ⟨cellEl_sound hx hv.1, allOf_sound hxs hv.2⟩
    · simp at h

theorem column_sound {cs : List Cell} {sz o : Nat} {vs : List Value} (hv : All2 (CellR g) cs vs) : ∀ (n j : Nat) (col : List Cell), column cs sz o j n = some col →
    col.length = n ∧ ∀ i c, col[i]? = some c → ∃ v, vs[(j + i) * sz + o]? = some v ∧ CellR g c v
  | 0, j, col, h => by simp [column] at h; subst h; simp
  | n + 1, j, col, h => by
    unfold column at h
    split at h
    · rename_i c r hc hrr
      obtain rfl := Option.some.inj h
      obtain ⟨h1, h2⟩ := column_sound hv n (j + 1) r hrr
      refine ⟨by simp [h1], fun i c' hi => ?_⟩
      cases i with
      | zero =>
        simp at hi; subst hi
        exact hv.get _ _ hc
      | succ i =>
        simp at hi
        obtain ⟨v, hv', hr'⟩ := h2 i c' hi
        exact ⟨v, by rw [← hv']; congr 3; omega, hr'⟩
    · simp at h

theorem chosen_sound {cs : List Cell} {n sz i o : Nat} {vs : List Value} {c : Cell} (hv : All2 (CellR g) cs vs) (hi : i < n) (h : chosen cs n sz i o = some c) :
    ∃ v, vs[i * sz + o]? = some v ∧ CellR g c v := by
  unfold chosen at h
  split at h
  · rename_i c0 r hcol
    split at h
    · rename_i s hs
      split at h
      · rename_i xs hxs
        obtain rfl := Option.some.inj h
        obtain ⟨hlen, hcells⟩ := column_sound hv n 0 _ hcol
        have hil : i < (c0 :: r).length := by omega
        obtain ⟨v, hv1, hv2⟩ := hcells i (c0 :: r)[i] (List.getElem?_eq_getElem hil)
        refine ⟨v, by simpa using hv1, ?_⟩
        have hk : ∀ (l : List Cell) (xs : List (El s)), allOf s l = some xs → ∀ i (hi : i < l.length), cellEl s l[i] = some (xs.getD i (El.dflt s)) := by
          intro l
          induction l with
          | nil => intro xs _ i hi; simp at hi
          | cons c l ih =>
            intro xs hx i hi
            unfold allOf at hx
            split at hx
            · rename_i x xs' h1 h2
              obtain rfl := Option.some.inj hx
              cases i with
              | zero => simpa using h1
              | succ i => simpa using ih xs' h2 i (by simpa using hi)
            · simp at hx
        have := cellEl_sound (hk _ _ hxs i hil) hv2
        refine ⟨this, ?_⟩
        have : (c0 = c0) := rfl
        unfold shOfCell at hs
        split at hs
        · obtain rfl := Option.some.inj hs
          rename_i s' y
          obtain ⟨v0, _, hc0⟩ := hcells 0 _ rfl
          exact hc0.2
        · simp at hs
      · simp at h
    · simp at h
  · simp at h

theorem chosenN_sound {cs : List Cell} {n sz i : Nat} {vs : List Value} (hv : All2 (CellR g) cs vs) (hi : i < n) : ∀ (m o : Nat) (r : List Cell), chosenN cs n sz i o m = some r →
    ∃ us : List Value, All2 (CellR g) r us ∧ us.length = m ∧ ∀ j, j < m → vs[i * sz + o + j]? = us[j]?
  | 0, o, r, h => by simp [chosenN] at h; subst h; exact ⟨[], trivial, rfl, by simp⟩
  | m + 1, o, r, h => by
    unfold chosenN at h
    split at h
    · rename_i c r' hc hr'
      obtain rfl := Option.some.inj h
      obtain ⟨v, hv1, hv2⟩ := chosen_sound hv hi hc
      obtain ⟨us, h1, h2, h3⟩ := chosenN_sound hv hi m (o + 1) r' hr'
      refine ⟨v :: us, ⟨hv2, h1⟩, by simp [h2], fun j hj => ?_⟩
      cases j with
      | zero => simpa using hv1
      | succ j =>
        have := h3 j (by omega)
        simp only [List.getElem?_cons_succ]
        rw [← this]; congr 1; omega
    · simp at h

/-- What a pointer points to. -/
theorem cellsAt_sound (hr : Rel G g w0 O w) {m : Nat} {p : A0} {gd : Bool} {cs : List Cell} {val : Value} (h : cellsAt G O m p = some (gd, cs)) (hgd : gd = true) (hp : A0R g p val) :
    ∃ (b o : Nat) (vs : List Value), val = .pointer (some ⟨b, o, none⟩) ∧ All2 (CellR g) cs vs ∧ vs.length = m ∧ w.rangeAt b o vs := by
  subst hgd
  unfold cellsAt at h
  split at h
  · rename_i b off
    obtain ⟨blk, o, hb, rfl⟩ := hp
    split at h
    · rename_i gd' cs' hbc
      split at h
      · rename_i hle
        simp only [Option.some.injEq, Prod.mk.injEq] at h
        obtain ⟨rfl, rfl⟩ := h
        obtain ⟨vs, h1, h2⟩ := baseCells_sound hr hbc rfl hb
        have hlen := h1.length
        have hle' : off + m ≤ cs'.length := Nat.le_of_ble_eq_true hle
        refine ⟨blk, o + off, (vs.drop off).take m, rfl, (h1.drop off).take m, by simp; omega, fun j v hv => ?_⟩
        rw [show o + off + j = o + (off + j) by omega]
        refine h2 (off + j) v ?_
        rw [List.getElem?_take] at hv
        split at hv
        · rw [List.getElem?_drop] at hv; exact hv
        · simp at hv
      · simp at h
    · simp at h
  · rename_i b off n sz i o
    obtain ⟨blk, o', hb, rfl⟩ := hp
    split at h
    · rename_i gd' cs' hbc
      split at h
      · rename_i r hr'
        simp only [Option.some.injEq, Prod.mk.injEq, Bool.and_eq_true, decide_eq_true_eq] at h
        obtain ⟨⟨hg, hi⟩, rfl⟩ := h
        obtain ⟨vs, h1, h2⟩ := baseCells_sound hr hbc hg hb
        obtain ⟨us, u1, u2, u3⟩ := chosenN_sound (h1.drop off) hi m o r hr'
        refine ⟨blk, _, us, rfl, u1, u2, fun j v hv => ?_⟩
        have hj : j < m := by have := (List.getElem?_eq_some_iff.1 hv).1; omega
        rw [show o' + off + i * sz + o + j = o' + (off + (i * sz + o + j)) by omega]
        refine h2 _ v ?_
        have := u3 j hj
        rw [List.getElem?_drop] at this
        rw [this]; exact hv
      · simp at h
    · simp at h
  · simp at h

/-- A value out of its cells. -/
theorem mkAV_sound {P : Program} {t : Nat} {cs : List Cell} {v : AV} {vs : List Value} (h : mkAV P t cs = some v) (hc : All2 (CellR g) cs vs) :
    (isAggT P t = true ∧ v = .agg cs ∧ AVR g v (.agg vs.toArray)) ∨ (isAggT P t = false ∧ ∃ u, vs = [u] ∧ AVR g v u) := by
  unfold mkAV at h
  split at h
  · rename_i ha
    obtain rfl := Option.some.inj h
    exact .inl ⟨ha, rfl, vs, rfl, hc⟩
  · rename_i ha
    split at h
    · obtain rfl := Option.some.inj h
      obtain ⟨u, rfl, hu⟩ := hc.single
      exact .inr ⟨ha, u, rfl, hu⟩
    · simp at h

theorem run_load_cells {P : Program} {t : Nat} {b o : Nat} {vs : List Value} (hs : vs.length = P.cellsOf t) (hrg : w.rangeAt b o vs) {d : TypeDesc} (hd : P.underlying t = some d) (hpos : 0 < P.cellsOf t) :
    (isAggT P t = true → (Instr.loadAt t (.pointer (some ⟨b, o, none⟩))).run P w = .ok (.agg vs.toArray) w) ∧
    (isAggT P t = false → ∀ u, vs = [u] → (Instr.loadAt t (.pointer (some ⟨b, o, none⟩))).run P w = .ok u w) := by
  obtain ⟨i, hi, his⟩ := cellsOf_pos hpos
  constructor
  · intro ha
    obtain ⟨d', hd', hrow⟩ := isAggT_true ha
    simp only [Instr.loadAt, Instr.sureAddr, Sem.run_bind, Sem.run_pure, Result.andThen_ok]
    exact run_loadVar_mid w b o t vs d' hrg hd' hrow (by simp [hi, his, hs])
  · intro ha u hu
    subst hu
    have hc := hrg 0 u rfl
    simp only [Instr.loadAt, Instr.sureAddr, Sem.run_bind, Sem.run_pure, Result.andThen_ok, loadVar, run_isAgg w t hd, ha]
    simp only [Bool.false_eq_true, if_false]
    rw [run_load]
    simp at hc
    simp [hc]
end
end Go.Ab

/- Soundness of the operations that only compute a value: arithmetic, comparison, conversion, addresses, slicing, lengths. -/
import Derived.Test.YtdhhdfgboalfiaaDoorA4
set_option linter.unusedVariables false
set_option linter.unusedSimpArgs false
namespace Go.Ab
open Go.RowKit

/-- What an operation comes to. -/
def Ok (P : Program) (G : Nat → Option (List Cell)) (g : Gm) (w0 w : World) (id : Nat) (s : Sem Next) (v : AV) (O' : Objs) : Prop :=
  ∃ n w' val g', s.run P w = .ok n w' ∧ (n = .value val ∨ (n = .skip ∧ val = undef)) ∧ Gm.Le g g' ∧ (∀ i, g'.dom i → g.dom i ∨ i = id) ∧ AVR g' v val ∧ Rel G g' w0 O' w'

/-- A value is computed, and nothing else happens. -/
def Val (P : Program) (g : Gm) (w : World) (s : Sem Value) (v : AV) : Prop := ∃ val, s.run P w = .ok val w ∧ AVR g v val

section
variable {P : Program} {G : Nat → Option (List Cell)} {g : Gm} {w0 w : World} {O : Objs} {id : Nat} {R : Type} {r : R}

theorem Val.ok (hr : Rel G g w0 O w) {s : Sem Value} {v : AV} (h : Val P g w s v) : Ok P G g w0 w id (do pure (.value (← s))) v O := by
  obtain ⟨val, h1, h2⟩ := h
  exact ⟨.value val, w, val, g, by simp [h1], .inl rfl, Gm.Le.refl g, fun i hi => .inl hi, h2, hr⟩

theorem int_av {g : Gm} {k : IntKind} {x : Int} {val : Value} : AVR g (int k x) val ↔ val = .int k x := by
  constructor
  · rintro ⟨h, _⟩; exact (List.cons.inj h).1
  · rintro rfl; exact ⟨rfl, rfl⟩
theorem bool_av {g : Gm} {x : Bool} {val : Value} : AVR g (bool x) val ↔ val = .bool x := by
  constructor
  · rintro ⟨h, _⟩; exact (List.cons.inj h).1
  · rintro rfl; exact ⟨rfl, rfl⟩
theorem str_av {g : Gm} {x : ByteArray} {val : Value} : AVR g (str x) val ↔ val = .string x := by
  constructor
  · rintro ⟨h, _⟩; exact (List.cons.inj h).1
  · rintro rfl; exact ⟨rfl, rfl⟩
theorem int_a0 {g : Gm} {k : IntKind} {x : Int} {val : Value} (h : A0R g (.v (.int k) x) val) : val = .int k x := (List.cons.inj h.1).1
theorem bool_a0 {g : Gm} {x : Bool} {val : Value} (h : A0R g (.v .bool x) val) : val = .bool x := (List.cons.inj h.1).1
theorem str_a0 {g : Gm} {x : ByteArray} {val : Value} (h : A0R g (.v .str x) val) : val = .string x := (List.cons.inj h.1).1

/-! ### Arithmetic -/
theorem arith_sound {op : BinOp} {k : IntKind} {x y : Int} {κ : AV → Option R} (h : arith op k x y κ = some r) :
    ∃ v, κ v = some r ∧ ∀ t, Val P g w (binOp op t (.int k x) (.int k y)) v := by
  unfold arith at h
  cases op <;> simp only at h <;> first
    | (simp at h; done)
    | (obtain ⟨hy, h⟩ := cond_false' h
       have hy' : ¬ y = 0 := by simpa using hy
       refine ⟨_, h, fun t => ⟨_, ?_, int_av.2 rfl⟩⟩
       simp [binOp, Op.intDiv, hy'])
    | (refine ⟨_, h, fun t => ⟨_, ?_, int_av.2 rfl⟩⟩
       simp [binOp, Op.intArith, Op.intBits])
    | (refine ⟨_, h, fun t => ⟨_, ?_, bool_av.2 rfl⟩⟩
       simp [binOp, Op.intCmp])

theorem shift_sound {op : BinOp} (hop : op = .shl ∨ op = .shr) {k k' : IntKind} {x y : Int} {κ : AV → Option R} (h : shiftA op k x y κ = some r) :
    ∃ v, κ v = some r ∧ ∀ t, Val P g w (binOp op t (.int k x) (.int k' y)) v := by
  rcases hop with rfl | rfl
  · unfold shiftA at h
    obtain ⟨hy, h⟩ := cond_false' h
    have hy' : ¬ y < 0 := by simpa using hy
    exact ⟨_, h, fun t => ⟨_, by simp [binOp, Op.shift, hy'], int_av.2 rfl⟩⟩
  · unfold shiftA at h
    obtain ⟨hy, h⟩ := cond_false' h
    have hy' : ¬ y < 0 := by simpa using hy
    exact ⟨_, h, fun t => ⟨_, by simp [binOp, Op.shift, hy'], int_av.2 rfl⟩⟩

theorem i64_max : IntKind.i64.max = 9223372036854775807 := by decide

theorem strOp_sound {op : BinOp} {x y : ByteArray} {κ : AV → Option R} (h : strOp op x y κ = some r) :
    ∃ v, κ v = some r ∧ ∀ t, Val P g w (binOp op t (.string x) (.string y)) v := by
  unfold strOp at h
  cases op <;> simp only at h <;> first
    | (simp at h; done)
    | (obtain ⟨hy, h⟩ := cond_true' h
       have hy' : x.size + y.size ≤ 4611686018427387904 := by simpa using hy
       refine ⟨_, h, fun t => ⟨_, ?_, str_av.2 rfl⟩⟩
       have : ¬ (9223372036854775807 : Int) < ((x.size : Int) + (y.size : Int)) := by omega
       simp only [binOp, Op.stringOp, i64_max, gt_iff_lt, Int.natCast_add, if_neg this, Sem.run_pure])
    | (refine ⟨_, h, fun t => ⟨_, ?_, bool_av.2 rfl⟩⟩
       simp [binOp, Op.stringOp])

/-! ### Equality -/
theorem run_part {t : Nat} {d : TypeDesc} (hd : P.underlying t = some d) {i : TypeInfo} (hi : P.info? t = some i) (xs : List Value) (off : Nat) (h : off + P.cellsOf t ≤ xs.length) :
    (isAggT P t = true → (part t xs.toArray off).run P w = .ok (.agg ((xs.drop off).take (P.cellsOf t)).toArray) w) ∧
    (isAggT P t = false → ∀ v, xs[off]? = some v → (part t xs.toArray off).run P w = .ok v w) := by
  constructor
  · intro ha
    unfold part
    simp only [Sem.run_bind, run_isAgg w t hd, ha, Result.andThen_ok, if_true, run_sizeOf' w hi, Sem.run_pure]
    congr 2
    apply Array.ext'
    simp [List.take_drop, Nat.add_comm]
  · intro ha v hv
    unfold part
    simp only [Sem.run_bind, run_isAgg w t hd, ha, Result.andThen_ok, Bool.false_eq_true, if_false]
    simp [hv]

theorem underlying_info {t : Nat} {d : TypeDesc} (hd : P.underlying t = some d) : ∃ i, P.info? t = some i := by
  unfold Program.underlying at hd
  cases hi : P.info? t with
  | none => simp [hi] at hd
  | some i => exact ⟨i, rfl⟩

/-- A value of a type, by its cells. -/
def OfCells (P : Program) (t : Nat) (vs : List Value) (v : Value) : Prop := (isAggT P t = true ∧ v = .agg vs.toArray) ∨ (isAggT P t = false ∧ vs = [v])

theorem eqFs_sound {eq : Nat → List Cell → List Cell → Option Bool} {D : Nat} {cs ds : List Cell} {vs us : List Value} (hc : All2 (CellR g) cs vs) (hd : All2 (CellR g) ds us)
    (heq : ∀ t cs ds b vs us v u, eq t cs ds = some b → All2 (CellR g) cs vs → All2 (CellR g) ds us → OfCells P t vs v → OfCells P t us u → (∃ d, P.underlying t = some d) ∧ (Op.equalIn D t v u).run P w = .ok b w)
    (hty : ∀ t cs ds b, eq t cs ds = some b → ∃ d, P.underlying t = some d) (hsz : ∀ t cs ds b, isAggT P t = false → eq t cs ds = some b → cs.length = 1 ∧ ds.length = 1) :
    ∀ (fs : List Field) (b : Bool), eqFs eq cs ds (fs.map fun f => ⟨f.offset, P.cellsOf f.type, f.type, f.name == "_"⟩) = some b → (Op.eqFields D vs.toArray us.toArray fs).run P w = .ok b w
  | [], b, h => by simp [eqFs] at h; subst h; simp [Op.eqFields]
  | f :: fs, b, h => by
    simp only [List.map_cons, eqFs] at h
    split at h
    · rename_i hn
      have hn' : ¬ (f.name ≠ "_") := by simpa using hn
      rw [Op.eqFields, if_neg hn']
      exact eqFs_sound hc hd heq hty hsz fs b h
    · rename_i hn
      have hn' : f.name ≠ "_" := by simpa using hn
      split at h
      · rename_i b1 hl1 hl2 he
        have l1 : f.offset + P.cellsOf f.type ≤ cs.length := Nat.le_of_ble_eq_true hl1
        have l2 : f.offset + P.cellsOf f.type ≤ ds.length := Nat.le_of_ble_eq_true hl2
        obtain ⟨d, hdd⟩ := hty _ _ _ _ he
        obtain ⟨i, hi⟩ := underlying_info hdd
        have c1 := hc.length
        have c2 := hd.length
        have p1 := run_part (w := w) hdd hi vs f.offset (by omega)
        have p2 := run_part (w := w) hdd hi us f.offset (by omega)
        have a1 := (hc.drop f.offset).take (P.cellsOf f.type)
        have a2 := (hd.drop f.offset).take (P.cellsOf f.type)
        have key : ∃ v u, (part f.type vs.toArray f.offset).run P w = .ok v w ∧ (part f.type us.toArray f.offset).run P w = .ok u w ∧ (Op.equalIn D f.type v u).run P w = .ok b1 w := by
          cases ha : isAggT P f.type with
          | true => exact ⟨_, _, p1.1 ha, p2.1 ha, (heq _ _ _ _ _ _ _ _ he a1 a2 (.inl ⟨ha, rfl⟩) (.inl ⟨ha, rfl⟩)).2⟩
          | false =>
            obtain ⟨z1, z2⟩ := hsz _ _ _ _ ha he
            have z3 := a1.length
            have z4 := a2.length
            have g1 : ((vs.drop f.offset).take (P.cellsOf f.type)).length = 1 := by omega
            have g2 : ((us.drop f.offset).take (P.cellsOf f.type)).length = 1 := by omega
            obtain ⟨v, hv⟩ := List.length_eq_one_iff.1 g1
            obtain ⟨u, hu⟩ := List.length_eq_one_iff.1 g2
            have e1 : vs[f.offset]? = some v := by
              have : ((vs.drop f.offset).take (P.cellsOf f.type))[0]? = some v := by rw [hv]; rfl
              rw [List.getElem?_take] at this
              split at this
              · simpa using this
              · simp at this
            have e2 : us[f.offset]? = some u := by
              have : ((us.drop f.offset).take (P.cellsOf f.type))[0]? = some u := by rw [hu]; rfl
              rw [List.getElem?_take] at this
              split at this
              · simpa using this
              · simp at this
            exact ⟨v, u, p1.2 ha v e1, p2.2 ha u e2, (heq _ _ _ _ _ _ _ _ he a1 a2 (.inr ⟨ha, hv⟩) (.inr ⟨ha, hu⟩)).2⟩
        obtain ⟨v, u, k1, k2, k3⟩ := key
        rw [Op.eqFields]
        simp only [if_pos hn', Sem.run_bind, k1, k2, k3, Result.andThen_ok]
        split at h
        · rename_i hfs
          obtain rfl := Option.some.inj h
          have hnil : fs = [] := by simpa using hfs
          subst hnil
          cases b1 <;> simp [Op.eqFields]
        · split at h
          · rename_i b2 h2
            obtain rfl := Option.some.inj h
            have ih := eqFs_sound hc hd heq hty hsz fs b2 h2
            cases b1
            · simp
            · simpa using ih
          · simp at h
      · simp at h

def eqElems (D e n : Nat) (xs ys : Array Value) : Nat → Nat → Sem Bool
  | _, 0 => pure true
  | k, m + 1 => do
    let a ← part e xs (k * n)
    let b ← part e ys (k * n)
    let r ← Op.equalIn D e a b
    if (!r) = true then pure false else eqElems D e n xs ys (k + 1) m

theorem run_equalIn_array (w : World) (D t len e : Nat) (xs ys : Array Value) (ht : P.underlying t = some (.array len e)) {i : TypeInfo} (hi : P.info? e = some i) :
    (Op.equalIn (D + 1) t (.agg xs) (.agg ys)).run P w = (eqElems D e (P.cellsOf e) xs ys 0 len).run P w := by
  simp only [Op.equalIn, Sem.run_bind, run_underlying ht, Result.andThen_ok, run_sizeOf' w hi]
  rw [Std.Legacy.Range.forIn_eq_forIn_range']
  simp only [Std.Legacy.Range.size]
  rw [show (len - 0 + 1 - 1) / 1 = len by simp]
  generalize 0 = k
  clear ht
  induction len generalizing w k with
  | zero => simp [eqElems]
  | succ m ih =>
    rw [List.range'_succ, List.forIn_cons]
    simp only [eqElems, Sem.run_bind]
    generalize (part e xs (k * P.cellsOf e)).run P w = r1
    cases r1 with
    | ok a w1 =>
      simp only [Result.andThen_ok]
      generalize (part e ys (k * P.cellsOf e)).run P w1 = r2
      cases r2 with
      | ok b w2 =>
        simp only [Result.andThen_ok]
        generalize (Op.equalIn D e a b).run P w2 = r3
        cases r3 with
        | ok r w3 =>
          cases r
          · simp only [Result.andThen_ok, Bool.not_false, if_true, Sem.run_pure]
          · simp only [Result.andThen_ok, Bool.not_true, Bool.false_eq_true, if_false, Sem.run_pure]
            exact ih w3 (k + 1)
        | halt x w3 => simp [Result.andThen]
      | halt x w2 => simp [Result.andThen]
    | halt x w1 => simp [Result.andThen]

theorem part_cells {t : Nat} {d : TypeDesc} (hdd : P.underlying t = some d) {i : TypeInfo} (hi : P.info? t = some i) {vs : List Value} {off : Nat} (hl : off + P.cellsOf t ≤ vs.length)
    (h1 : isAggT P t = false → P.cellsOf t = 1) : ∃ v, (part t vs.toArray off).run P w = .ok v w ∧ OfCells P t ((vs.drop off).take (P.cellsOf t)) v := by
  have p1 := run_part (w := w) hdd hi vs off hl
  cases ha : isAggT P t with
  | true => exact ⟨_, p1.1 ha, .inl ⟨ha, rfl⟩⟩
  | false =>
    have h1' := h1 ha
    have hlt : off < vs.length := by omega
    refine ⟨vs[off], p1.2 ha _ (List.getElem?_eq_getElem hlt), .inr ⟨ha, ?_⟩⟩
    rw [h1', List.drop_eq_getElem_cons hlt, List.take_succ_cons, List.take_zero]

theorem eqEs_sound {eq : List Cell → List Cell → Option Bool} {D e : Nat} {d : TypeDesc} (hdd : P.underlying e = some d) {i : TypeInfo} (hi : P.info? e = some i)
    (heq : ∀ cs ds b vs us v u, eq cs ds = some b → All2 (CellR g) cs vs → All2 (CellR g) ds us → OfCells P e vs v → OfCells P e us u → (Op.equalIn D e v u).run P w = .ok b w)
    (h1 : isAggT P e = false → P.cellsOf e = 1) {vs us : List Value} :
    ∀ (n k : Nat) (cs ds : List Cell) (b : Bool), All2 (CellR g) cs (vs.drop (k * P.cellsOf e)) → All2 (CellR g) ds (us.drop (k * P.cellsOf e)) → (k + n) * P.cellsOf e ≤ vs.length → (k + n) * P.cellsOf e ≤ us.length →
      eqEs eq (P.cellsOf e) n cs ds = some b → (eqElems D e (P.cellsOf e) vs.toArray us.toArray k n).run P w = .ok b w
  | 0, k, cs, ds, b, _, _, _, _, h => by simp [eqEs] at h; subst h; simp [eqElems]
  | n + 1, k, cs, ds, b, hc, hd, l1, l2, h => by
    have m1 : (k + (n + 1)) * P.cellsOf e = (k + 1 + n) * P.cellsOf e := by rw [show k + (n + 1) = k + 1 + n by omega]
    have m2 : (k + 1) * P.cellsOf e = k * P.cellsOf e + P.cellsOf e := by rw [Nat.add_mul, Nat.one_mul]
    have m3 : (k + 1 + n) * P.cellsOf e = (k + 1) * P.cellsOf e + n * P.cellsOf e := Nat.add_mul _ _ _
    have b1 : k * P.cellsOf e + P.cellsOf e ≤ vs.length := by omega
    have b2 : k * P.cellsOf e + P.cellsOf e ≤ us.length := by omega
    obtain ⟨v, pv, ov⟩ := part_cells (w := w) hdd hi b1 h1
    obtain ⟨u, pu, ou⟩ := part_cells (w := w) hdd hi b2 h1
    have ah := hc.take (P.cellsOf e)
    have bh := hd.take (P.cellsOf e)
    have ad : All2 (CellR g) (cs.drop (P.cellsOf e)) (vs.drop ((k + 1) * P.cellsOf e)) := by
      have := hc.drop (P.cellsOf e); rwa [List.drop_drop, ← m2] at this
    have bd : All2 (CellR g) (ds.drop (P.cellsOf e)) (us.drop ((k + 1) * P.cellsOf e)) := by
      have := hd.drop (P.cellsOf e); rwa [List.drop_drop, ← m2] at this
    rw [eqElems]
    simp only [Sem.run_bind, pv, pu, Result.andThen_ok]
    cases n with
    | zero =>
      rw [heq _ _ _ _ _ _ _ h ah bh ov ou]
      cases b <;> simp [eqElems]
    | succ n =>
      simp only [eqEs] at h
      split at h
      · rename_i b' b'' hb' hb''
        obtain rfl := Option.some.inj h
        rw [heq _ _ _ _ _ _ _ hb' ah bh ov ou]
        have ih := eqEs_sound hdd hi heq h1 (n + 1) (k + 1) _ _ b'' ad bd (by omega) (by omega) hb''
        cases b'
        · simp
        · simpa using ih
      · simp at h

theorem eqT_ty {P : Program} {d t : Nat} {cs ds : List Cell} {b : Bool} (h : eqT P d t cs ds = some b) : ∃ dd, P.underlying t = some dd := by
  cases d with
  | zero => simp [eqT] at h
  | succ d =>
    unfold eqT at h
    split at h
    · rename_i h'; exact ⟨_, tkOf_int h'⟩
    · rename_i h'; exact ⟨_, tkOf_bool h'⟩
    · rename_i h'; exact ⟨_, tkOf_str h'⟩
    · rename_i h'; obtain ⟨_, h2, _⟩ := tkOf_struct h'; exact ⟨_, h2⟩
    · rename_i h'; exact ⟨_, tkOf_array h'⟩
    · simp at h

theorem eqT_one {P : Program} {d t : Nat} {cs ds : List Cell} {b : Bool} (ha : isAggT P t = false) (h : eqT P d t cs ds = some b) : cs.length = 1 ∧ ds.length = 1 := by
  cases d with
  | zero => simp [eqT] at h
  | succ d =>
    unfold eqT at h
    unfold isAggT at ha
    split at h
    · split at h
      · exact ⟨rfl, rfl⟩
      · simp at h
    · split at h
      · exact ⟨rfl, rfl⟩
      · simp at h
    · split at h
      · exact ⟨rfl, rfl⟩
      · simp at h
    · simp_all
    · simp_all
    · simp at h

theorem one_of {P : Program} {g : Gm} {t : Nat} {c : A0} {vs : List Value} {v : Value} (ha : isAggT P t = false) (ov : OfCells P t vs v) (hc : All2 (CellR g) [.a c] vs) : A0R g c v := by
  rcases ov with ⟨e, _⟩ | ⟨_, rfl⟩
  · rw [ha] at e; simp at e
  · exact hc.1

theorem eqT_sound : ∀ (d D t : Nat) (cs ds : List Cell) (b : Bool) (vs us : List Value) (v u : Value), d ≤ D → eqT P d t cs ds = some b → All2 (CellR g) cs vs → All2 (CellR g) ds us →
    OfCells P t vs v → OfCells P t us u → (Op.equalIn D t v u).run P w = .ok b w
  | 0, D, t, cs, ds, b, vs, us, v, u, hD, h, hc, hd, ov, ou => by simp [eqT] at h
  | d + 1, 0, t, cs, ds, b, vs, us, v, u, hD, h, hc, hd, ov, ou => by omega
  | d + 1, D + 1, t, cs, ds, b, vs, us, v, u, hD, h, hc, hd, ov, ou => by
    unfold eqT at h
    split at h
    · rename_i k hk
      have hu := tkOf_int hk
      have ha : isAggT P t = false := by simp [isAggT, hk]
      split at h
      · split at h
        · rename_i k1 x k2 y he
          subst he
          obtain rfl := Option.some.inj h
          obtain rfl := int_a0 (one_of ha ov hc)
          obtain rfl := int_a0 (one_of ha ou hd)
          exact run_equalIn_int w D t _ k _ _ hu
        · simp at h
      · simp at h
    · rename_i hk
      have hu := tkOf_bool hk
      have ha : isAggT P t = false := by simp [isAggT, hk]
      split at h
      · obtain rfl := Option.some.inj h
        obtain rfl := bool_a0 (one_of ha ov hc)
        obtain rfl := bool_a0 (one_of ha ou hd)
        exact run_equalIn_bool' w D t _ _ hu
      · simp at h
    · rename_i hk
      have hu := tkOf_str hk
      have ha : isAggT P t = false := by simp [isAggT, hk]
      split at h
      · rename_i x y
        obtain rfl := Option.some.inj h
        obtain rfl := str_a0 (one_of ha ov hc)
        obtain rfl := str_a0 (one_of ha ou hd)
        have hx : ∀ a b : ByteArray, (Op.equalIn (D + 1) t (.string a) (.string b)).run P w = .ok (strBeq a b) w := fun a b => by
          rw [run_equalIn_string w D t _ _ hu, ← beq_toListBytes]; rfl
        exact hx x y
      · simp at h
    · rename_i fs hk
      obtain ⟨gs, hg, rfl⟩ := tkOf_struct hk
      have ha : isAggT P t = true := by simp [isAggT, hk]
      split at h
      · rename_i hst
        rcases ov with ⟨_, rfl⟩ | ⟨e, _⟩
        · rcases ou with ⟨_, rfl⟩ | ⟨e, _⟩
          · have hf : P.fieldsOf t = gs := by simp [Program.fieldsOf, hg]
            rw [run_equalIn_struct (P := P) w D t _ _ (by rw [hf]; exact hg) hst, hf]
            exact eqFs_sound (D := D) hc hd (fun t cs ds b vs us v u he h1 h2 h3 h4 => ⟨eqT_ty he, eqT_sound d D t cs ds b vs us v u (by omega) he h1 h2 h3 h4⟩)
              (fun _ _ _ _ he => eqT_ty he) (fun _ _ _ _ ha he => eqT_one ha he) gs.toList b h
          · rw [ha] at e; simp at e
        · rw [ha] at e; simp at e
      · simp at h
    · rename_i n e hk
      have hu := tkOf_array hk
      have ha : isAggT P t = true := by simp [isAggT, hk]
      split at h
      · rename_i hl1 hl2 hl3
        have l1 := Nat.le_of_ble_eq_true hl1
        have l2 := Nat.le_of_ble_eq_true hl2
        have c1 := hc.length
        have c2 := hd.length
        rcases ov with ⟨_, rfl⟩ | ⟨e', _⟩
        · rcases ou with ⟨_, rfl⟩ | ⟨e', _⟩
          · have hn : 0 < n := Nat.le_of_ble_eq_true (by simp [Nat.blt] at hl3; simpa using hl3.2)
            have ho : isAggT P e = false → P.cellsOf e = 1 := fun hf => by simp [hf] at hl3; exact hl3.1
            have hx : ∃ cs' ds' b', eqT P d e cs' ds' = some b' := by
              cases n with
              | zero => omega
              | succ n =>
                cases n with
                | zero => exact ⟨_, _, _, h⟩
                | succ n =>
                  simp only [eqEs] at h
                  split at h
                  · rename_i b' b'' hb' _; exact ⟨_, _, _, hb'⟩
                  · simp at h
            obtain ⟨_, _, _, hx⟩ := hx
            obtain ⟨dd, hdd⟩ := eqT_ty hx
            obtain ⟨i, hi⟩ := underlying_info hdd
            rw [run_equalIn_array w D t n e _ _ hu hi]
            refine eqEs_sound hdd hi (fun cs ds b vs us v u he h1 h2 h3 h4 => eqT_sound d D e cs ds b vs us v u (by omega) he h1 h2 h3 h4) ho n 0 cs ds b ?_ ?_ ?_ ?_ h
            · simpa using hc
            · simpa using hd
            · rw [Nat.zero_add]; omega
            · rw [Nat.zero_add]; omega
          · rw [ha] at e'; simp at e'
        · rw [ha] at e'; simp at e'
      · simp at h
    · simp at h

end
end Go.Ab

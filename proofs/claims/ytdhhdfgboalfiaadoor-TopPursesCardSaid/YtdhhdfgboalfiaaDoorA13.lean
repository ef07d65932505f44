/- The machine follows the abstract evaluator: each step, each call, each region in the order of the text. -/
import Derived.Test.YtdhhdfgboalfiaaDoorA12
set_option linter.unusedVariables false
set_option linter.unusedSimpArgs false
namespace Go.Ab
open Go.RowKit

/-- The laying of cells into values. -/
def LayR : List (Option Nat) → List Value → List Value → Prop
  | [], [], [] => True
  | none :: l, c :: cs, v :: vs => v = c ∧ LayR l cs vs
  | some n :: l, cs, v :: vs => n ≤ cs.length ∧ v = .agg (cs.take n).toArray ∧ LayR l (cs.drop n) vs
  | _, _, _ => False

/-- One value, or a tuple of several. -/
def one (l : List Value) (v : Value) : Prop := (l = [v]) ∨ (l.length ≠ 1 ∧ v = .tuple l.toArray)

def GlobR (G : Nat → Option (List Cell)) (fz : Nat → Option Obj) : Prop :=
  ∀ n cs, G n = some cs → ∃ c e fr, fz n = some (.cells c e fr) ∧ ∀ g : Gm, g.fz = fz → All2 (CellR g) cs c.toList

/-- A contract holds. -/
def ConOk (P : Program) (G : Nat → Option (List Cell)) (f : Nat) (co : Con) : Prop :=
  ∀ k x r, co.F k x = some r → ∀ (w : World) (fz : Nat → Option Obj) (cells : List Value) (args : Array Value), K fz co.ash x cells → LayR co.args cells args.toList →
    (∀ b o, fz b = some o → w.heap[b]? = some o) → GlobR G fz →
    Calls P f args w fun e w' => ∃ v vs out fz', e = .returned v ∧ Below w.heap.size w w' ∧ K fz' co.rsh r out ∧ LayR co.res out vs ∧ one vs v ∧
      (∀ b o, fz' b = some o → w'.heap[b]? = some o) ∧ (∀ b o, fz' b = some o → b < w.heap.size → fz b = some o)

/-- All that is asked of the context. -/
structure CtxOk (X : Ctx) : Prop where
  con : ∀ f co, X.con f = some co → ConOk X.P X.G f co ∧ co.own = false ∧ ∃ fn : Func, X.P.funcs[f]? = some fn ∧ fn.body.isSome = true
  plain : PlainG X.G
  glob : ∀ n cs, X.G n = some cs → ∀ g g' : Gm, ∀ vs, All2 (CellR g) cs vs → All2 (CellR g') cs vs
  name : ∀ (f : Nat) (fn : Func), X.P.funcs[f]? = some fn → fn.body.isSome = true → (fn.name == "runtime.NumGoroutine") = false
  mixed : X.P.follows .mixedOrders = true

section
variable {X : Ctx} {g : Gm} {w0 w : World} {O : Objs}

theorem evalA_sound {E : Env} {tmps : Array Value} (he : EnvR g E tmps) {x : Operand} {v : AV} (h : evalA X.G E x = some v) : AVR g v ((⟨tmps, []⟩ : Act).eval x) := by
  cases x with
  | tmp t => exact (he t v h).2
  | const c => exact avOf_sound h
  | global n =>
    simp only [evalA] at h
    split at h
    · obtain rfl := Option.some.inj h
      exact ⟨n, 0, ⟨rfl, rfl⟩, by simp [Act.eval]⟩
    · simp at h
  | func f =>
    simp only [evalA] at h
    obtain rfl := Option.some.inj h
    exact ⟨[], rfl, trivial⟩

/-- All blocks that were there are as they were. -/
theorem Rel.below' (h : Rel X.G g w0 O w) {w' : World} (hb : Below w.heap.size w w') : Rel X.G g w0 O w' := by
  have lt : ∀ b x, w.heap[b]? = some x → b < w.heap.size := fun b x hb => (Array.getElem?_eq_some_iff.1 hb).1
  have keep : ∀ b x, w.heap[b]? = some x → w'.heap[b]? = some x := fun b x hx => by rw [hb.block b (lt b x hx)]; exact hx
  refine ⟨h.below.trans (hb.mono h.below.size), fun b o ho => keep b o (h.fz b o ho), h.dom, ?_, ?_, h.sep, h.glob⟩
  · intro i o hl hx hbs
    obtain ⟨h1, h2, h3⟩ := h.blk i o hl hx hbs
    exact ⟨h1, Nat.lt_of_lt_of_le h2 hb.size, h3⟩
  · intro i o hl
    exact (h.obj i o hl).keep (Gm.Le.refl g) (h.dom i o hl) (fun y hy _ _ => keep _ y hy)

/-- Blocks that came with a call, and that nobody writes, are taken in. -/
theorem Rel.takes (h : Rel X.G g w0 O w) {w' : World} (hb : Below w.heap.size w w') (hB : g.B = w0.heap.size) {fz' : Nat → Option Obj} (hfz : ∀ b o, fz' b = some o → w'.heap[b]? = some o) :
    ∃ g', Gm.Le g g' ∧ (∀ i, g'.dom i ↔ g.dom i) ∧ (∀ b, w.heap.size ≤ b → g'.fz b = fz' b) ∧ Rel X.G g' w0 O w' := by
  have lt : ∀ b x, w.heap[b]? = some x → b < w.heap.size := fun b x hb => (Array.getElem?_eq_some_iff.1 hb).1
  let g' : Gm := { g with fz := fun b => if w.heap.size ≤ b then fz' b else g.fz b }
  have low : ∀ b, b < w.heap.size → g'.fz b = g.fz b := fun b hb => by simp [g']; omega
  have high : ∀ b, w.heap.size ≤ b → g'.fz b = fz' b := fun b hb => by simp [g', hb]
  have le : Gm.Le g g' := ⟨fun _ h => h, fun _ _ => rfl, fun _ _ => rfl, fun _ _ => rfl, fun _ _ => rfl, fun b o hbo => by rw [low b (lt b o (h.fz b o hbo))]; exact hbo,
    ⟨rfl, fun b o hbo hlt => by rw [low b (Nat.lt_of_lt_of_le (hB ▸ hlt) h.below.size)] at hbo; exact hbo⟩⟩
  have h' := h.below' hb
  refine ⟨g', le, fun _ => Iff.rfl, high, ⟨h'.below, fun b o hbo => ?_, h'.dom, ?_, ?_, ?_, ?_⟩⟩
  · rcases Nat.lt_or_ge b w.heap.size with hlt | hge
    · rw [low b hlt] at hbo; exact h'.fz b o hbo
    · rw [high b hge] at hbo; exact hfz b o hbo
  · intro i o hl hx hbs
    obtain ⟨h1, h2, h3⟩ := h'.blk i o hl hx hbs
    exact ⟨h1, h2, by rw [low _ (h.blk i o hl hx hbs).2.1]; exact h3⟩
  · intro i o hl
    exact (h'.obj i o hl).keep le (h.dom i o hl) (fun y hy _ _ => hy)
  · intro i oi j oj hij hi hj
    exact (h.sep i oi j oj hij hi hj).keep le (h.dom i oi hi) (h.dom j oj hj)
  · intro n cs hn
    obtain ⟨c, e, fr, q1, q2⟩ := h.glob n cs hn
    exact ⟨c, e, fr, le.fz _ _ q1, q2.mono fun _ _ => CellR.mono le⟩

/-! ### Contracts at a call -/
theorem argCells_sound : ∀ {args : List AV} {lay : List (Option Nat)} {cs : List Cell} {vals : List Value}, argCells args lay = some cs → All2 (AVR g) args vals →
    ∃ vs, All2 (CellR g) cs vs ∧ LayR lay vs vals
  | [], [], cs, vals, h, ha => by
    simp [argCells] at h; subst h
    cases vals with
    | nil => exact ⟨[], trivial, trivial⟩
    | cons v r => exact ha.elim
  | .c c :: r, none :: l, cs, vals, h, ha => by
    unfold argCells at h
    split at h
    · rename_i cs' h'
      obtain rfl := Option.some.inj h
      cases vals with
      | nil => exact ha.elim
      | cons v vs =>
        obtain ⟨us, u1, u2⟩ := argCells_sound h' ha.2
        exact ⟨v :: us, ⟨ha.1, u1⟩, rfl, u2⟩
    · simp at h
  | .agg ds :: r, some n :: l, cs, vals, h, ha => by
    unfold argCells at h
    split at h
    · rename_i cs' hn h'
      obtain rfl := Option.some.inj h
      cases vals with
      | nil => exact ha.elim
      | cons v vs =>
        obtain ⟨us, u1, u2⟩ := argCells_sound h' ha.2
        obtain ⟨ws, hv, hw⟩ := ha.1
        have hl := hw.length
        have hn' := Nat.eq_of_beq_eq_true hn
        refine ⟨ws ++ us, hw.append u1, by simp; omega, ?_, ?_⟩
        · rw [hv, List.take_left' (by omega)]
        · rw [List.drop_left' (by omega)]; exact u2
    · simp at h
  | [], _ :: _, _, _, h, _ => by simp [argCells] at h
  | .c _ :: _, [], _, _, h, _ => by simp [argCells] at h
  | .c _ :: _, some _ :: _, _, _, h, _ => by simp [argCells] at h
  | .agg _ :: _, [], _, _, h, _ => by simp [argCells] at h
  | .agg _ :: _, none :: _, _, _, h, _ => by simp [argCells] at h
  | .tup _ :: _, _, _, _, h, _ => by simp [argCells] at h

/-- The relation where all that is in the world is held fast. -/
def Gm.all (g : Gm) (w : World) : Gm := { g with fz := fun b => w.heap[b]? }

theorem pureCell_sound (hr : Rel X.G g w0 O w) {g2 : Gm} (hup : ∀ b o, g.fz b = some o → g2.fz b = some o) (hown : ∀ b o, w0.heap.size ≤ b → w.heap[b]? = some o → g2.fz b = some o)
    {c p : Cell} {v : Value} (h : pureCell O c = some p) (hc : CellR g c v) : CellR g2 p v ∧ (isOwned c = false → CellR g p v) := by
  have up : ∀ s x cs, K g.fz s x cs → K g2.fz s x cs := fun s x cs h => K.mono hup s x cs h
  have rows : ∀ (s : Sh) (xs : List (El s)) (n : Nat) (a : Option Addr) (cap : Nat), xs.length = n → n ≤ cap → (xs = [] ∨ (0 < s.size ∧ ∃ b o c e fr, a = some ⟨b, o, none⟩ ∧ w0.heap.size ≤ b ∧ w.heap[b]? = some (.cells c e fr) ∧ RowsR g.fz s xs c o)) →
      CellR g2 (.a (.v (.lst s) xs)) (.slice a n cap) := by
    intro s xs n a cap hn hcap hrow
    subst hn
    refine ⟨⟨a, cap, rfl, hcap, ?_⟩, rfl⟩
    rcases hrow with h | ⟨h0, b, o, c, e, fr, ha, hB, hb, hrw⟩
    · exact .inl h
    · refine .inr ⟨h0, b, o, c, e, fr, ha, hown _ _ hB hb, fun i hi => ?_⟩
      obtain ⟨row, r1, r2, r3⟩ := hrw i hi
      exact ⟨row, r1, r2, up _ _ _ r3⟩
  -- an object's rows
  have obj : ∀ (id : Nat) (s : Sh) (xs : List (El s)), (look O id = some (.rows s xs) ∨ look O id = some (.old s xs)) → g.len id = xs.length ∧ g.sz id = s.size ∧ 0 < s.size ∧
      (xs = [] ∨ (w0.heap.size ≤ g.ρ id ∧ ∃ c e fr, w.heap[g.ρ id]? = some (.cells c e fr) ∧ RowsR g.fz s xs c 0)) := by
    intro id s xs hl
    rcases hl with hl | hl
    · obtain ⟨h0, h1, h2, h3⟩ := hr.obj _ _ hl
      refine ⟨h2, h1, h0, ?_⟩
      rcases h3 with ⟨_, h⟩ | ⟨c, e, fr, hcc, _, hcs, hf, hrw⟩
      · exact .inl h
      · by_cases hb : 0 < g.bs id
        · exact .inr ⟨(hr.blk _ _ hl rfl hb).1, c, e, fr, hcc, hrw⟩
        · left
          have : xs.length * s.size = 0 := by omega
          rcases Nat.mul_eq_zero.1 this with q | q
          · exact List.eq_nil_of_length_eq_zero q
          · omega
    · obtain ⟨h0, h1, h2, h3⟩ := hr.obj _ _ hl
      refine ⟨h2, h1, h0, ?_⟩
      rcases h3 with ⟨_, h⟩ | ⟨c, e, fr, hcc, hcs, hf, hrw⟩
      · exact .inl h
      · by_cases hb : 0 < g.bs id
        · exact .inr ⟨(hr.blk _ _ hl rfl hb).1, c, e, fr, hcc, hrw⟩
        · left
          have : xs.length * s.size = 0 := by omega
          rcases Nat.mul_eq_zero.1 this with q | q
          · exact List.eq_nil_of_length_eq_zero q
          · omega
  have whole : ∀ (id : Nat) (s : Sh) (xs : List (El s)), (look O id = some (.rows s xs) ∨ look O id = some (.old s xs)) → ∀ v, A0R g (.slw id) v → CellR g2 (.a (.v (.lst s) xs)) v := by
    intro id s xs hl v hv
    obtain ⟨h2, h1, h0, h3⟩ := obj id s xs hl
    obtain ⟨hd, a, cap, rfl, hcap, hrow⟩ := hv
    refine rows s xs _ a cap h2.symm hcap ?_
    rcases h3 with h | ⟨hB, c, e, fr, hcc, hrw⟩
    · exact .inl h
    · rcases hrow with rfl | ⟨rfl, _⟩
      · left; exact List.eq_nil_of_length_eq_zero (by omega)
      · exact .inr ⟨h0, _, _, c, e, fr, rfl, hB, hcc, hrw⟩
  have part : ∀ (id lo n : Nat) (s : Sh) (xs : List (El s)), (look O id = some (.rows s xs) ∨ look O id = some (.old s xs)) → ∀ v, A0R g (.sl id lo n) v → CellR g2 (.a (.v (.lst s) ((xs.drop lo).take n))) v := by
    intro id lo n s xs hl v hv
    obtain ⟨h2, h1, h0, h3⟩ := obj id s xs hl
    obtain ⟨hd, a, cap, rfl, hcap, hlo, hrow⟩ := hv
    refine rows s _ _ a cap (by simp; omega) hcap ?_
    rcases h3 with rfl | ⟨hB, c, e, fr, hcc, hrw⟩
    · left; simp
    · rcases hrow with rfl | ⟨rfl, _⟩
      · left; have : n = 0 := by omega
        subst this; simp
      · refine .inr ⟨h0, _, _, c, e, fr, rfl, hB, hcc, ?_⟩
        intro i hi
        have hl' : ((xs.drop lo).take n).length = n := by simp; omega
        rw [hl'] at hi
        obtain ⟨row, r1, r2, r3⟩ := hrw (lo + i) (by omega)
        refine ⟨row, r1, ?_, by rw [getD_drop_take _ _ _ _ _ hi]; exact r3⟩
        rw [Nat.zero_add, Nat.add_mul] at r2
        rw [h1]; exact r2
  unfold pureCell at h
  split at h
  · rename_i id
    refine ⟨?_, fun e => by simp [isOwned] at e⟩
    split at h
    · rename_i s xs hl
      obtain rfl := Option.some.inj h
      exact whole id s xs (.inl hl) v hc
    · rename_i s xs hl
      obtain rfl := Option.some.inj h
      exact whole id s xs (.inr hl) v hc
    · simp at h
  · rename_i id lo n
    refine ⟨?_, fun e => by simp [isOwned] at e⟩
    split at h
    · rename_i s xs hl
      obtain rfl := Option.some.inj h
      exact part id lo n s xs (.inl hl) v hc
    · rename_i s xs hl
      obtain rfl := Option.some.inj h
      exact part id lo n s xs (.inr hl) v hc
    · simp at h
  · obtain rfl := Option.some.inj h
    exact ⟨⟨up _ _ _ hc.1, hc.2⟩, fun _ => hc⟩
  · obtain rfl := Option.some.inj h
    exact ⟨hc, fun _ => hc⟩
  · simp at h

theorem pureCells_sound (hr : Rel X.G g w0 O w) {g2 : Gm} (hup : ∀ b o, g.fz b = some o → g2.fz b = some o) (hown : ∀ b o, w0.heap.size ≤ b → w.heap[b]? = some o → g2.fz b = some o) :
    ∀ {cs ps : List Cell} {vs : List Value}, cs.mapM (pureCell O) = some ps → All2 (CellR g) cs vs → All2 (CellR g2) ps vs ∧ (cs.any isOwned = false → All2 (CellR g) ps vs)
  | [], ps, vs, h, ha => by
    simp at h; subst h
    cases vs with
    | nil => exact ⟨trivial, fun _ => trivial⟩
    | cons v r => exact ha.elim
  | c :: cs, ps, vs, h, ha => by
    simp only [List.mapM_cons, Option.pure_def, Option.bind_eq_bind, Option.bind_eq_some_iff] at h
    obtain ⟨p, hp, ps', hps, he⟩ := h
    obtain rfl := Option.some.inj he
    cases vs with
    | nil => exact ha.elim
    | cons v r =>
      obtain ⟨q1, q2⟩ := pureCell_sound hr hup hown hp ha.1
      obtain ⟨r1, r2⟩ := pureCells_sound hr hup hown hps ha.2
      refine ⟨⟨q1, r1⟩, fun hany => ?_⟩
      simp only [List.any_cons, Bool.or_eq_false_iff] at hany
      exact ⟨q2 hany.1, r2 hany.2⟩

theorem layCells_sound : ∀ {lay : List (Option Nat)} {cs : List Cell} {l : List (Bool × List Cell)} {out vs : List Value}, layCells lay cs = some l → All2 (CellR g) cs out → LayR lay out vs → All2 (PartR g) l vs
  | [], [], l, out, vs, h, ha, hl => by
    simp [layCells] at h; subst h
    cases out with
    | nil => cases vs with
      | nil => trivial
      | cons _ _ => exact hl.elim
    | cons _ _ => exact ha.elim
  | none :: lay, c :: cs, l, out, vs, h, ha, hl => by
    unfold layCells at h
    split at h
    · rename_i l' hl'
      obtain rfl := Option.some.inj h
      cases out with
      | nil => exact ha.elim
      | cons o out =>
        cases vs with
        | nil => exact hl.elim
        | cons v vs =>
          obtain ⟨rfl, hl⟩ := hl
          exact ⟨⟨c, rfl, ha.1⟩, layCells_sound hl' ha.2 hl⟩
    · simp at h
  | some n :: lay, cs, l, out, vs, h, ha, hl => by
    unfold layCells at h
    split at h
    · split at h
      · rename_i l' hl'
        obtain rfl := Option.some.inj h
        cases vs with
        | nil => cases out <;> exact hl.elim
        | cons v vs =>
          have hl2 : n ≤ out.length ∧ v = .agg (out.take n).toArray ∧ LayR lay (out.drop n) vs := by cases out <;> exact hl
          exact ⟨⟨_, hl2.2.1, ha.take n⟩, layCells_sound hl' (ha.drop n) hl2.2.2⟩
      · simp at h
    · simp at h
  | [], _ :: _, _, _, _, h, _, _ => by simp [layCells] at h
  | none :: _, [], _, _, _, h, _, _ => by simp [layCells] at h

theorem layVal_sound {l : List (Bool × List Cell)} {v : AV} {vs : List Value} {val : Value} (h : layVal l = some v) (ha : All2 (PartR g) l vs) (ho : one vs val) : AVR g v val := by
  have hlen := ha.length
  unfold layVal at h
  split at h
  · rename_i c
    obtain rfl := Option.some.inj h
    obtain ⟨u, rfl, c', hc', hu⟩ := ha.single
    simp at hc'; subst hc'
    rcases ho with h1 | ⟨h1, _⟩
    · simp at h1; subst h1; exact hu
    · simp at h1
  · rename_i cs
    obtain rfl := Option.some.inj h
    obtain ⟨u, rfl, hu⟩ := ha.single
    rcases ho with h1 | ⟨h1, _⟩
    · simp at h1; subst h1; exact hu
    · simp at h1
  · simp at h
  · rename_i h1 h2 h3
    obtain rfl := Option.some.inj h
    rcases ho with h4 | ⟨_, rfl⟩
    · exfalso
      subst h4
      match l, hlen with
      | [(false, [c])], _ => exact h1 c rfl
      | [(false, [])], _ => exact h3 _ rfl
      | [(false, a :: b :: r)], _ => exact h3 _ rfl
      | [(true, cs)], _ => exact h2 cs rfl
    · exact ⟨vs, rfl, ha⟩

theorem K_nofz {f f' : Nat → Option Obj} : ∀ (s : Sh) (x : El s) (cs : List Value), noLst s = true → K f s x cs → K f' s x cs
  | .int _, _, _, _, h => h
  | .bool, _, _, _, h => h
  | .str, _, _, _, h => h
  | .unit, _, _, _, h => h
  | .pair a b, x, cs, hn, ⟨c, d, e, h, k⟩ => by
    simp only [noLst, Bool.and_eq_true] at hn
    exact ⟨c, d, e, K_nofz a _ _ hn.1 h, K_nofz b _ _ hn.2 k⟩
  | .lst s, x, cs, hn, _ => by simp [noLst] at hn

theorem conA_sound (hX : CtxOk X) (hB : g.B = w0.heap.size) (hr : Rel X.G g w0 O w) {R : Type} {k id : Nat} {f : Nat} {co : Con} (hco : X.con f = some co) {args : List AV} {κ : AV → Objs → Option R} {r : R}
    (h : conA k O id co args κ = some r) {vals : Array Value} (ha : All2 (AVR g) args vals.toList) :
    ∃ v O', κ v O' = some r ∧ Calls X.P f vals w fun e w' => ∃ val g', e = .returned val ∧ Gm.Le g g' ∧ (∀ i, g'.dom i → g.dom i ∨ (id ≤ i ∧ i < id + 8)) ∧ AVR g' v val ∧ Rel X.G g' w0 O' w' := by
  obtain ⟨hok, hown, _⟩ := hX.con f co hco
  unfold conA at h
  split at h
  · rename_i cs hcs
    obtain ⟨vs, hv1, hv2⟩ := argCells_sound hcs ha
    split at h
    · rename_i ps hps hcond
      obtain ⟨hp1, hp2⟩ := pureCells_sound hr (g2 := g.all w) (fun b o h => hr.fz b o h) (fun b o _ h => h) hps hv1
      split at h
      · rename_i x hx
        rw [hown] at h hcond
        simp only [Option.bind_eq_some_iff, Bool.false_and, Bool.or_false] at h hcond
        obtain ⟨rr, hF, h⟩ := h
        split at h
        · rename_i l hl
          split at h
          · rename_i v hv
            refine ⟨v, O, h, ?_⟩
            cases hany : cs.any isOwned with
            | false =>
              have hk := implode_sound (g := g) _ _ _ _ hx (hp2 hany)
              have := hok k x rr hF w g.fz vs vals hk hv2 hr.fz (fun n cs' hn => by
                obtain ⟨c, e, fr, q1, q2⟩ := hr.glob n cs' hn
                exact ⟨c, e, fr, q1, fun g' _ => hX.glob n cs' hn g g' _ q2⟩)
              refine this.mono fun e w' => ?_
              rintro ⟨val, vs', out, fz', rfl, hb, ho, hlay, hone, hz1, hz2⟩
              obtain ⟨g', le, hdom, hhigh, hrel⟩ := hr.takes hb hB hz1
              refine ⟨val, g', rfl, le, fun i hi => .inl ((hdom i).1 hi), ?_, hrel⟩
              have hko : K g'.fz co.rsh rr out := K.mono (fun b o hbo => by
                rcases Nat.lt_or_ge b w.heap.size with hlt | hge
                · exact le.fz b o (hz2 b o hbo hlt)
                · rw [hhigh b hge]; exact hbo) _ _ _ ho
              exact layVal_sound hv (layCells_sound hl (explode_sound _ _ _ hko) hlay) hone
            | true =>
              rw [hany] at hcond
              have hno : noLst co.rsh = true := by simpa using hcond
              have hk := implode_sound (g := g.all w) _ _ _ _ hx hp1
              have := hok k x rr hF w (fun b => w.heap[b]?) vs vals hk hv2 (fun _ _ h => h) (fun n cs' hn => by
                obtain ⟨c, e, fr, q1, q2⟩ := hr.glob n cs' hn
                exact ⟨c, e, fr, hr.fz _ _ q1, fun g' _ => hX.glob n cs' hn g g' _ q2⟩)
              refine this.mono fun e w' => ?_
              rintro ⟨val, vs', out, fz', rfl, hb, ho, hlay, hone, hz1, hz2⟩
              refine ⟨val, g, rfl, Gm.Le.refl g, fun i hi => .inl hi, ?_, hr.below' hb⟩
              exact layVal_sound hv (layCells_sound hl (explode_sound _ _ _ (K_nofz (f' := g.fz) _ _ _ hno ho)) hlay) hone
          · simp at h
        · simp at h
      · simp at h
    · simp at h
  · simp at h
end
end Go.Ab

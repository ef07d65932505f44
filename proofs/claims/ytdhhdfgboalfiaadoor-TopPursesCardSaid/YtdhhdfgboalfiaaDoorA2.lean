/- What an abstract state says of a world of the model: the relation between them, and how it is kept when a world grows or is written. -/
import Derived.Test.YtdhhdfgboalfiaaDoorA1
set_option linter.unusedVariables false
namespace Go.Ab
open Go.RowKit

/-- Which blocks the objects lie in, and which blocks nobody writes any more. -/
structure Gm where
  dom : Nat → Prop
  ρ : Nat → Nat
  len : Nat → Nat
  sz : Nat → Nat
  bs : Nat → Nat
  fz : Nat → Option Obj
  B : Nat

/-- Of the blocks that were there at the beginning, no other is held to be written no more. -/
structure Gm.Low (g g' : Gm) : Prop where
  B : g'.B = g.B
  low : ∀ b o, g'.fz b = some o → b < g.B → g.fz b = some o

theorem Gm.Low.refl (g : Gm) : Gm.Low g g := ⟨rfl, fun _ _ h _ => h⟩
theorem Gm.Low.trans {a b c : Gm} (h : Gm.Low a b) (k : Gm.Low b c) : Gm.Low a c :=
  ⟨k.B.trans h.B, fun x o hx hb => h.low x o (k.low x o hx (by rw [h.B]; exact hb)) hb⟩

structure Gm.Le (g g' : Gm) : Prop where
  dom : ∀ i, g.dom i → g'.dom i
  ρ : ∀ i, g.dom i → g'.ρ i = g.ρ i
  len : ∀ i, g.dom i → g'.len i = g.len i
  sz : ∀ i, g.dom i → g'.sz i = g.sz i
  bs : ∀ i, g.dom i → g'.bs i = g.bs i
  fz : ∀ b o, g.fz b = some o → g'.fz b = some o
  low : Gm.Low g g'

theorem Gm.Le.refl (g : Gm) : Gm.Le g g := ⟨fun _ h => h, fun _ _ => rfl, fun _ _ => rfl, fun _ _ => rfl, fun _ _ => rfl, fun _ _ h => h, Gm.Low.refl g⟩
theorem Gm.Le.trans {a b c : Gm} (h : Gm.Le a b) (k : Gm.Le b c) : Gm.Le a c :=
  ⟨fun i hi => k.dom i (h.dom i hi), fun i hi => (k.ρ i (h.dom i hi)).trans (h.ρ i hi), fun i hi => (k.len i (h.dom i hi)).trans (h.len i hi),
    fun i hi => (k.sz i (h.dom i hi)).trans (h.sz i hi), fun i hi => (k.bs i (h.dom i hi)).trans (h.bs i hi), fun b o hb => k.fz b o (h.fz b o hb), h.low.trans k.low⟩

/-- A row of cells at a place in an array. -/
def RowAt (c : Array Value) (o : Nat) (row : List Value) : Prop := ∀ j, j < row.length → c[o + j]? = row[j]?

/-- Plain data, as cells. -/
def K (fz : Nat → Option Obj) : (s : Sh) → El s → List Value → Prop
  | .int k, x, cs => cs = [.int k x]
  | .bool, x, cs => cs = [.bool x]
  | .str, x, cs => cs = [.string x]
  | .unit, _, cs => cs = []
  | .pair a b, x, cs => ∃ c d, cs = c ++ d ∧ K fz a x.1 c ∧ K fz b x.2 d
  | .lst s, x, cs => ∃ (a : Option Addr) (cap : Nat), cs = [.slice a (List.length (α := El s) x) cap] ∧ List.length (α := El s) x ≤ cap ∧
      (x = ([] : List (El s)) ∨ (0 < s.size ∧ ∃ b o c e fr, a = some ⟨b, o, none⟩ ∧ fz b = some (.cells c e fr) ∧
        ∀ i, i < List.length (α := El s) x → ∃ row, row.length = s.size ∧ RowAt c (o + i * s.size) row ∧ K fz s (List.getD (α := El s) x i (El.dflt s)) row))

theorem K.mono {f f' : Nat → Option Obj} (hf : ∀ b o, f b = some o → f' b = some o) : ∀ (s : Sh) (x : El s) (cs : List Value), K f s x cs → K f' s x cs
  | .int _, _, _, h => h
  | .bool, _, _, h => h
  | .str, _, _, h => h
  | .unit, _, _, h => h
  | .pair a b, x, cs, ⟨c, d, e, h, k⟩ => ⟨c, d, e, K.mono hf a _ _ h, K.mono hf b _ _ k⟩
  | .lst s, x, cs, ⟨a, cap, e, hl, h⟩ => ⟨a, cap, e, hl, h.imp id fun ⟨hs, b, o, c, el, fr, ha, hb, hr⟩ =>
      ⟨hs, b, o, c, el, fr, ha, hf _ _ hb, fun i hi => let ⟨row, h1, h2, h3⟩ := hr i hi; ⟨row, h1, h2, K.mono hf s _ _ h3⟩⟩⟩

theorem K.length {f : Nat → Option Obj} : ∀ (s : Sh) (x : El s) (cs : List Value), K f s x cs → cs.length = s.size
  | .int _, _, _, h => by cases h; rfl
  | .bool, _, _, h => by cases h; rfl
  | .str, _, _, h => by cases h; rfl
  | .unit, _, _, h => by cases h; rfl
  | .pair a b, x, cs, ⟨c, d, e, h, k⟩ => by rw [e, List.length_append, K.length a _ _ h, K.length b _ _ k]; rfl
  | .lst s, x, cs, ⟨a, cap, e, hl, h⟩ => by rw [e]; rfl

/-- The rows of an array. -/
def RowsR (fz : Nat → Option Obj) (s : Sh) (xs : List (El s)) (c : Array Value) (o : Nat) : Prop :=
  ∀ i, i < xs.length → ∃ row, row.length = s.size ∧ RowAt c (o + i * s.size) row ∧ K fz s (xs.getD i (El.dflt s)) row

theorem RowsR.mono {f f' : Nat → Option Obj} (hf : ∀ b o, f b = some o → f' b = some o) {s : Sh} {xs : List (El s)} {c : Array Value} {o : Nat}
    (h : RowsR f s xs c o) : RowsR f' s xs c o := fun i hi => let ⟨row, h1, h2, h3⟩ := h i hi; ⟨row, h1, h2, K.mono hf s _ _ h3⟩

def PBR (g : Gm) : PB → Nat → Nat → Prop
  | .box id, b, o => g.dom id ∧ b = g.ρ id ∧ o = 0
  | .row id i, b, o => g.dom id ∧ b = g.ρ id ∧ o = i * g.sz id
  | .lrow s xs i, b, o => ∃ c e fr row, g.fz b = some (.cells c e fr) ∧ row.length = s.size ∧ RowAt c o row ∧ K g.fz s (xs.getD i (El.dflt s)) row
  | .glob n, b, o => b = n ∧ o = 0

def A0R (g : Gm) : A0 → Value → Prop
  | .v s x, val => K g.fz s x [val] ∧ s.isCell = true
  | .und, _ => True
  | .nilsl, val => val = .slice none 0 0
  | .slw id, val => g.dom id ∧ ∃ a cap, val = .slice a (g.len id) cap ∧ g.len id ≤ cap ∧ (cap = 0 ∨ (a = some ⟨g.ρ id, 0, none⟩ ∧ cap * g.sz id ≤ g.bs id))
  | .sl id lo n, val => g.dom id ∧ ∃ a cap, val = .slice a n cap ∧ n ≤ cap ∧ lo + n ≤ g.len id ∧ (cap = 0 ∨ (a = some ⟨g.ρ id, lo * g.sz id, none⟩ ∧ (lo + cap) * g.sz id ≤ g.bs id))
  | .ptr b off, val => ∃ blk o, PBR g b blk o ∧ val = .pointer (some ⟨blk, o + off, none⟩)
  | .iptr b off n sz i o, val => ∃ blk o', PBR g b blk o' ∧ val = .pointer (some ⟨blk, o' + off + i * sz + o, none⟩)
  | .nilptr, val => val = .pointer none
  | .map id, val => g.dom id ∧ val = .map (some (g.ρ id))
  | .nilmap, val => val = .map none
  | .nilfn, val => val = .nilFunc
  | .nilif, val => val = .nilIface

/-- Two lists, cell by cell. -/
def All2 {α β : Type} (R : α → β → Prop) : List α → List β → Prop
  | [], [] => True
  | a :: l, b :: m => R a b ∧ All2 R l m
  | _, _ => False

theorem All2.mono {α β : Type} {R S : α → β → Prop} (h : ∀ a b, R a b → S a b) : ∀ {l : List α} {m : List β}, All2 R l m → All2 S l m
  | [], [], _ => trivial
  | _ :: _, _ :: _, ⟨h1, h2⟩ => ⟨h _ _ h1, All2.mono h h2⟩
  | [], _ :: _, h => h.elim
  | _ :: _, [], h => h.elim

theorem All2.length {α β : Type} {R : α → β → Prop} : ∀ {l : List α} {m : List β}, All2 R l m → l.length = m.length
  | [], [], _ => rfl
  | _ :: _, _ :: _, ⟨_, h2⟩ => by simp [All2.length h2]
  | [], _ :: _, h => h.elim
  | _ :: _, [], h => h.elim

theorem All2.append {α β : Type} {R : α → β → Prop} : ∀ {l : List α} {m : List β} {l' : List α} {m' : List β}, All2 R l m → All2 R l' m' → All2 R (l ++ l') (m ++ m')
  | [], [], _, _, _, h => h
  | _ :: _, _ :: _, _, _, ⟨h1, h2⟩, h => ⟨h1, All2.append h2 h⟩
  | [], _ :: _, _, _, h, _ => h.elim
  | _ :: _, [], _, _, h, _ => h.elim

theorem All2.take {α β : Type} {R : α → β → Prop} (n : Nat) : ∀ {l : List α} {m : List β}, All2 R l m → All2 R (l.take n) (m.take n) := by
  induction n with
  | zero => intro l m h; simp [All2]
  | succ n ih =>
    intro l m h
    cases l <;> cases m <;> simp only [All2] at h <;> simp only [List.take_nil, List.take_succ_cons, All2]
    exact ⟨h.1, ih h.2⟩

theorem All2.drop {α β : Type} {R : α → β → Prop} (n : Nat) : ∀ {l : List α} {m : List β}, All2 R l m → All2 R (l.drop n) (m.drop n) := by
  induction n with
  | zero => intro l m h; simpa using h
  | succ n ih =>
    intro l m h
    cases l <;> cases m <;> simp only [All2] at h <;> simp only [List.drop_nil, List.drop_succ_cons, All2]
    exact ih h.2

theorem All2.get {α β : Type} {R : α → β → Prop} : ∀ {l : List α} {m : List β} (i : Nat) (a : α), All2 R l m → l[i]? = some a → ∃ b, m[i]? = some b ∧ R a b
  | [], [], i, a, _, h => by simp at h
  | x :: l, y :: m, 0, a, ⟨h1, _⟩, h => by simp at h; subst h; exact ⟨y, by simp, h1⟩
  | x :: l, y :: m, i + 1, a, ⟨_, h2⟩, h => by simp at h; obtain ⟨b, hb, hr⟩ := All2.get i a h2 h; exact ⟨b, by simpa using hb, hr⟩
  | [], _ :: _, _, _, h, _ => h.elim
  | _ :: _, [], _, _, h, _ => h.elim

theorem All2.single {α β : Type} {R : α → β → Prop} {a : α} {m : List β} (h : All2 R [a] m) : ∃ b, m = [b] ∧ R a b := by
  match m, h with
  | [b], ⟨h, _⟩ => exact ⟨b, rfl, h⟩

def CellR (g : Gm) : Cell → Value → Prop
  | .a x, val => A0R g x val
  | .fn f caps, val => ∃ vs : List Value, val = .func (.func f) #[] vs.toArray ∧ All2 (A0R g) caps vs

/-- A value and its cells: the Bool says whether it is a struct or an array. -/
def PartR (g : Gm) (p : Bool × List Cell) (val : Value) : Prop :=
  match p.1 with
  | true => ∃ vs : List Value, val = .agg vs.toArray ∧ All2 (CellR g) p.2 vs
  | false => ∃ c, p.2 = [c] ∧ CellR g c val

def AVR (g : Gm) : AV → Value → Prop
  | .c x, val => CellR g x val
  | .agg cs, val => ∃ vs : List Value, val = .agg vs.toArray ∧ All2 (CellR g) cs vs
  | .tup l, val => ∃ vs : List Value, val = .tuple vs.toArray ∧ All2 (PartR g) l vs

theorem PBR.mono {g g' : Gm} (h : Gm.Le g g') : ∀ {b : PB} {blk o : Nat}, PBR g b blk o → PBR g' b blk o
  | .box id, _, _, ⟨hd, hb, ho⟩ => ⟨h.dom _ hd, by rw [h.ρ _ hd]; exact hb, ho⟩
  | .row id i, _, _, ⟨hd, hb, ho⟩ => ⟨h.dom _ hd, by rw [h.ρ _ hd]; exact hb, by rw [h.sz _ hd]; exact ho⟩
  | .lrow s xs i, _, _, ⟨c, e, fr, row, h1, h2, h3, h4⟩ => ⟨c, e, fr, row, h.fz _ _ h1, h2, h3, K.mono h.fz _ _ _ h4⟩
  | .glob n, _, _, hh => hh

theorem A0R.mono {g g' : Gm} (h : Gm.Le g g') : ∀ {x : A0} {val : Value}, A0R g x val → A0R g' x val
  | .v s x, _, ⟨h1, h2⟩ => ⟨K.mono h.fz _ _ _ h1, h2⟩
  | .und, _, _ => trivial
  | .nilsl, _, hh => hh
  | .slw id, _, ⟨hd, a, cap, h1, h2, h3⟩ => ⟨h.dom _ hd, a, cap, by rw [h.len _ hd]; exact h1, by rw [h.len _ hd]; exact h2, by rw [h.ρ _ hd, h.sz _ hd, h.bs _ hd]; exact h3⟩
  | .sl id lo n, _, ⟨hd, a, cap, h1, h2, h3, h4⟩ => ⟨h.dom _ hd, a, cap, h1, h2, by rw [h.len _ hd]; exact h3, by rw [h.ρ _ hd, h.sz _ hd, h.bs _ hd]; exact h4⟩
  | .ptr b off, _, ⟨blk, o, h1, h2⟩ => ⟨blk, o, h1.mono h, h2⟩
  | .iptr b off n sz i o, _, ⟨blk, o', h1, h2⟩ => ⟨blk, o', h1.mono h, h2⟩
  | .nilptr, _, hh => hh
  | .map id, _, ⟨hd, h1⟩ => ⟨h.dom _ hd, by rw [h.ρ _ hd]; exact h1⟩
  | .nilmap, _, hh => hh
  | .nilfn, _, hh => hh
  | .nilif, _, hh => hh

theorem CellR.mono {g g' : Gm} (h : Gm.Le g g') : ∀ {x : Cell} {val : Value}, CellR g x val → CellR g' x val
  | .a _, _, hh => A0R.mono h hh
  | .fn f caps, _, ⟨vs, e, hh⟩ => ⟨vs, e, hh.mono fun _ _ => A0R.mono h⟩

theorem PartR.mono {g g' : Gm} (h : Gm.Le g g') {p : Bool × List Cell} {val : Value} (hh : PartR g p val) : PartR g' p val := by
  obtain ⟨b, l⟩ := p
  cases b
  · obtain ⟨c, e, hc⟩ := hh; exact ⟨c, e, hc.mono h⟩
  · obtain ⟨vs, e, hc⟩ := hh; exact ⟨vs, e, hc.mono fun _ _ => CellR.mono h⟩

theorem AVR.mono {g g' : Gm} (h : Gm.Le g g') : ∀ {x : AV} {val : Value}, AVR g x val → AVR g' x val
  | .c _, _, hh => CellR.mono h hh
  | .agg cs, _, ⟨vs, e, hh⟩ => ⟨vs, e, hh.mono fun _ _ => CellR.mono h⟩
  | .tup l, _, ⟨vs, e, hh⟩ => ⟨vs, e, hh.mono fun _ _ => PartR.mono h⟩

/-- No cell of the array is frozen. -/
def Thawed (fr : Nat × Nat) (n : Nat) : Prop := ∀ o, o < n → (decide (fr.1 ≤ o) && decide (o < fr.2)) = false

/-- A key or an element of a map. -/
def MapV (fz : Nat → Option Obj) (s : Sh) (x : El s) (val : Value) : Prop := K fz s x val.cells.toList ∧ (s.isCell = true → val = (val.cells.toList.getD 0 undef)) ∧ (s.isCell = false → ∃ cs, val = .agg cs)

def ObjR (g : Gm) (w : World) (id : Nat) : AObj → Prop
  | .box cells => g.bs id = cells.length ∧ ∃ c e, w.heap[g.ρ id]? = some (.cells c e (0, 0)) ∧ All2 (CellR g) cells c.toList
  | .rows s xs => 0 < s.size ∧ g.sz id = s.size ∧ g.len id = xs.length ∧ ((g.bs id = 0 ∧ xs = []) ∨
      ∃ c e fr, w.heap[g.ρ id]? = some (.cells c e fr) ∧ Thawed fr c.size ∧ c.size = g.bs id ∧ xs.length * s.size ≤ c.size ∧ RowsR g.fz s xs c 0)
  | .old s xs => 0 < s.size ∧ g.sz id = s.size ∧ g.len id = xs.length ∧ ((g.bs id = 0 ∧ xs = []) ∨
      ∃ c e fr, w.heap[g.ρ id]? = some (.cells c e fr) ∧ c.size = g.bs id ∧ xs.length * s.size ≤ c.size ∧ RowsR g.fz s xs c 0)
  | .map k v es => g.bs id = 1 ∧ ∃ (ents : Array MapEntry) (clock : Nat), w.heap[g.ρ id]? = some (.map ents clock) ∧
      All2 (fun (e : El k × El v) (m : MapEntry) => MapV g.fz k e.1 m.key ∧ MapV g.fz v e.2 m.val) es ents.toList
  | .gone => True

def AObj.excl : AObj → Bool
  | .old _ _ => false
  | .gone => false
  | _ => true

def AObj.isOld : AObj → Bool
  | .old _ _ => true
  | _ => false

def AObj.isRows : AObj → Bool
  | .rows _ _ => true
  | _ => false

/-- Two objects lie apart; an old slice may lie in the array of a live one, at its head. -/
structure Sep (g : Gm) (i : Nat) (oi : AObj) (j : Nat) (oj : AObj) : Prop where
  both : oi.excl = true → oj.excl = true → 0 < g.bs i → 0 < g.bs j → g.ρ i ≠ g.ρ j
  old : oi.excl = true → oj.isOld = true → 0 < g.bs i → 0 < g.bs j → g.ρ i = g.ρ j → oi.isRows = true ∧ g.sz i = g.sz j ∧ g.len j ≤ g.len i

structure Rel (G : Nat → Option (List Cell)) (g : Gm) (w0 : World) (O : Objs) (w : World) : Prop where
  below : Below w0.heap.size w0 w
  fz : ∀ b o, g.fz b = some o → w.heap[b]? = some o
  dom : ∀ i o, look O i = some o → g.dom i
  blk : ∀ i o, look O i = some o → (o.excl || o.isOld) = true → 0 < g.bs i → w0.heap.size ≤ g.ρ i ∧ g.ρ i < w.heap.size ∧ g.fz (g.ρ i) = none
  obj : ∀ i o, look O i = some o → ObjR g w i o
  sep : ∀ i oi j oj, i ≠ j → look O i = some oi → look O j = some oj → Sep g i oi j oj
  glob : ∀ n cs, G n = some cs → ∃ c e fr, g.fz n = some (.cells c e fr) ∧ All2 (CellR g) cs c.toList

/-! ### Lists of objects -/
theorem beq_ne {m n : Nat} (h : m ≠ n) : Nat.beq m n = false := by
  cases hb : Nat.beq m n with
  | false => rfl
  | true => exact absurd (Nat.eq_of_beq_eq_true hb) h
theorem beq_same (m : Nat) : Nat.beq m m = true := Nat.beq_refl m

theorem look_cons {α : Type} (m : Nat) (x : α) (r : List (Nat × α)) (n : Nat) : look ((m, x) :: r) n = if m = n then some x else look r n := by
  by_cases h : m = n
  · subst h; simp [look]
  · simp only [look, beq_ne h, h, if_false]

theorem setAt_cons (m : Nat) (x : AObj) (r : Objs) (n : Nat) (o : AObj) : setAt ((m, x) :: r) n o = if m = n then (m, o) :: r else (m, x) :: setAt r n o := by
  by_cases h : m = n
  · subst h; simp [setAt]
  · simp only [setAt, beq_ne h, h, if_false]

theorem look_setAt (O : Objs) (n : Nat) (o : AObj) (m : Nat) : look (setAt O n o) m = if n = m then (look O n).map (fun _ => o) else look O m := by
  induction O with
  | nil => simp [setAt, look]
  | cons p r ih =>
    obtain ⟨k, x⟩ := p
    rw [setAt_cons]
    by_cases h : k = n
    · subst h; simp only [if_true, look_cons]; by_cases h' : k = m <;> simp [h']
    · simp only [h, if_false, look_cons, ih]
      by_cases h' : k = m
      · subst h'; have : ¬ n = k := fun e => h e.symm; simp [this]
      · simp [h']

theorem look_dropOld (O : Objs) (n : Nat) : look (dropOld O) n = (look O n).map AObj.noOld := by
  induction O with
  | nil => simp [dropOld, look]
  | cons p r ih =>
    obtain ⟨k, x⟩ := p
    rw [dropOld, look_cons, look_cons]
    by_cases h : k = n <;> simp [h, ih]

end Go.Ab

/- How the relation between abstract states and worlds is kept: a draw, a new block, a write into an object's block, a slice that has become an old one. -/
import Derived.Test.YtdhhdfgboalfiaaDoorA2
import Derived.Laws.IdiomCopy
import Derived.Deep.MidRow
set_option linter.unusedVariables false
namespace Go.Ab
open Go.RowKit

def putL (l : List Value) (o : Nat) (vs : List Value) : List Value := l.take o ++ vs ++ l.drop (o + vs.length)

theorem putL_length {l : List Value} {o : Nat} {vs : List Value} (h : o + vs.length ≤ l.length) : (putL l o vs).length = l.length := by
  simp [putL]; omega

theorem putL_cons (l : List Value) (o : Nat) (v : Value) (r : List Value) (h : o + (r.length + 1) ≤ l.length) : putL (l.set o v) (o + 1) r = putL l o (v :: r) := by
  unfold putL
  apply List.ext_getElem?
  intro i
  simp only [List.getElem?_append, List.length_append, List.length_take, List.length_set, List.length_cons, List.getElem?_take, List.getElem?_drop, List.getElem?_set]
  by_cases h1 : i < o
  · have e1 : i < min (o + 1) l.length + r.length := by omega
    have e2 : i < min (o + 1) l.length := by omega
    have e3 : i < o + 1 := by omega
    have e4 : ¬ o = i := by omega
    have e5 : i < min o l.length + (r.length + 1) := by omega
    have e6 : i < min o l.length := by omega
    simp [e1, e2, e3, e4, e5, e6, h1]
  · by_cases h2 : i = o
    · subst h2
      have e1 : i < min (i + 1) l.length + r.length := by omega
      have e2 : i < min (i + 1) l.length := by omega
      have e5 : i < min i l.length + (r.length + 1) := by omega
      have e6 : ¬ i < min i l.length := by omega
      have e7 : i - min i l.length = 0 := by omega
      have e8 : i < l.length := by omega
      simp [e1, e2, e5, e6, e7, e8]
    · by_cases h3 : i < o + 1 + r.length
      · have e1 : i < min (o + 1) l.length + r.length := by omega
        have e2 : ¬ i < min (o + 1) l.length := by omega
        have e5 : i < min o l.length + (r.length + 1) := by omega
        have e6 : ¬ i < min o l.length := by omega
        have e7 : i - min o l.length = (i - min (o + 1) l.length) + 1 := by omega
        simp [e1, e2, e5, e6, e7]
      · have e1 : ¬ i < min (o + 1) l.length + r.length := by omega
        have e5 : ¬ i < min o l.length + (r.length + 1) := by omega
        have e9 : ¬ o = o + (r.length + 1) + (i - (min o l.length + (r.length + 1))) := by omega
        have e10 : o + 1 + r.length + (i - (min (o + 1) l.length + r.length)) = o + (r.length + 1) + (i - (min o l.length + (r.length + 1))) := by omega
        simp only [e1, e5, if_false, e10, e9]

theorem heap_setCells (b : Nat) (e : TypeId) (fr : Nat × Nat) : ∀ (vs : List Value) (o : Nat) (w : World) (c : Array Value), w.heap[b]? = some (.cells c e fr) → o + vs.length ≤ c.size →
    (w.setCells b o vs).heap[b]? = some (.cells (putL c.toList o vs).toArray e fr)
  | [], o, w, c, h, _ => by simp [World.setCells, h, putL]
  | v :: r, o, w, c, h, hl => by
    have hb : (w.setCell ⟨b, o, none⟩ v).heap[b]? = some (.cells (c.setIfInBounds o v) e fr) := by simp [World.setCell, Array.getElem?_modify, h]
    have ih := heap_setCells b e fr r (o + 1) _ _ hb (by simp at hl ⊢; omega)
    rw [World.setCells, ih]
    have : putL (c.setIfInBounds o v).toList (o + 1) r = putL c.toList o (v :: r) := by
      rw [Array.toList_setIfInBounds]
      exact putL_cons _ _ _ _ (by simpa using hl)
    rw [this]

theorem heap_setCells_ne (b k : Nat) (hk : k ≠ b) : ∀ (vs : List Value) (o : Nat) (w : World), (w.setCells b o vs).heap[k]? = w.heap[k]?
  | [], _, _ => rfl
  | v :: r, o, w => by rw [World.setCells, heap_setCells_ne b k hk r]; exact Below.heap_setCell _ _ _ _ hk

theorem size_setCells (b : Nat) : ∀ (vs : List Value) (o : Nat) (w : World), (w.setCells b o vs).heap.size = w.heap.size
  | [], _, _ => rfl
  | v :: r, o, w => by rw [World.setCells, size_setCells b r]; simp

theorem below_setCells {B : Nat} (b : Nat) (hb : B ≤ b) : ∀ (vs : List Value) (o : Nat) (w : World), Below B w (w.setCells b o vs)
  | [], _, w => Below.refl _ _
  | v :: r, o, w => ((Below.refl B w).setCell (p := ⟨b, o, none⟩) hb v).trans (below_setCells b hb r (o + 1) _)

/-! ### A new object's number -/
def Gm.ext (g : Gm) (id ρ len sz bs : Nat) : Gm :=
  { dom := fun i => g.dom i ∨ i = id, ρ := fun i => if i = id then ρ else g.ρ i, len := fun i => if i = id then len else g.len i,
    sz := fun i => if i = id then sz else g.sz i, bs := fun i => if i = id then bs else g.bs i, fz := g.fz, B := g.B }

section
variable {g : Gm} {id ρ len sz bs : Nat}
theorem Gm.ext_dom : (g.ext id ρ len sz bs).dom id := .inr rfl
@[simp] theorem Gm.ext_ρ : (g.ext id ρ len sz bs).ρ id = ρ := by simp [Gm.ext]
@[simp] theorem Gm.ext_len : (g.ext id ρ len sz bs).len id = len := by simp [Gm.ext]
@[simp] theorem Gm.ext_sz : (g.ext id ρ len sz bs).sz id = sz := by simp [Gm.ext]
@[simp] theorem Gm.ext_bs : (g.ext id ρ len sz bs).bs id = bs := by simp [Gm.ext]
@[simp] theorem Gm.ext_fz : (g.ext id ρ len sz bs).fz = g.fz := rfl
theorem Gm.ext_le (h : ¬ g.dom id) : Gm.Le g (g.ext id ρ len sz bs) := by
  have ne : ∀ i, g.dom i → ¬ i = id := fun i hi e => h (e ▸ hi)
  exact ⟨fun i hi => .inl hi, fun i hi => by simp [Gm.ext, ne i hi], fun i hi => by simp [Gm.ext, ne i hi], fun i hi => by simp [Gm.ext, ne i hi],
    fun i hi => by simp [Gm.ext, ne i hi], fun _ _ h => h, ⟨rfl, fun _ _ h _ => h⟩⟩
end

/-- An object whose block has stayed as it was is what it was. -/
theorem ObjR.keep {g g' : Gm} {w w' : World} {i : Nat} {o : AObj} (h : ObjR g w i o) (hg : Gm.Le g g') (hd : g.dom i)
    (hw : ∀ x, w.heap[g.ρ i]? = some x → (o.excl || o.isOld) = true → (0 < g.bs i ∨ ∃ e, x = .cells #[] e (0, 0)) → w'.heap[g.ρ i]? = some x) : ObjR g' w' i o := by
  have hρ := hg.ρ i hd; have hl := hg.len i hd; have hs := hg.sz i hd; have hb := hg.bs i hd
  cases o with
  | box cells =>
    obtain ⟨h1, c, e, h2, h3⟩ := h
    refine ⟨by rw [hb]; exact h1, c, e, ?_, h3.mono fun _ _ => CellR.mono hg⟩
    rw [hρ]
    refine hw _ h2 rfl ?_
    by_cases h0 : 0 < g.bs i
    · exact .inl h0
    · right
      have : cells.length = 0 := by omega
      have hc : c.toList.length = 0 := by rw [← h3.length]; exact this
      have : c = #[] := Array.eq_empty_of_size_eq_zero (by simpa using hc)
      exact ⟨e, by rw [this]⟩
  | rows s xs =>
    obtain ⟨h0, h1, h2, h3⟩ := h
    refine ⟨h0, by rw [hs]; exact h1, by rw [hl]; exact h2, ?_⟩
    rcases h3 with ⟨h4, h5⟩ | ⟨c, e, fr, h4, h5, h6, h7, h8⟩
    · exact .inl ⟨by rw [hb]; exact h4, h5⟩
    · by_cases hz : 0 < g.bs i
      · exact .inr ⟨c, e, fr, by rw [hρ]; exact hw _ h4 rfl (.inl hz), h5, by rw [hb]; exact h6, h7, h8.mono hg.fz⟩
      · left
        refine ⟨by rw [hb]; omega, ?_⟩
        have : xs.length * s.size = 0 := by omega
        rcases Nat.mul_eq_zero.1 this with hx | hx
        · exact List.eq_nil_of_length_eq_zero hx
        · omega
  | old s xs =>
    obtain ⟨h0, h1, h2, h3⟩ := h
    refine ⟨h0, by rw [hs]; exact h1, by rw [hl]; exact h2, ?_⟩
    rcases h3 with ⟨h4, h5⟩ | ⟨c, e, fr, h4, h6, h7, h8⟩
    · exact .inl ⟨by rw [hb]; exact h4, h5⟩
    · by_cases hz : 0 < g.bs i
      · exact .inr ⟨c, e, fr, by rw [hρ]; exact hw _ h4 rfl (.inl hz), by rw [hb]; exact h6, h7, h8.mono hg.fz⟩
      · left
        refine ⟨by rw [hb]; omega, ?_⟩
        have : xs.length * s.size = 0 := by omega
        rcases Nat.mul_eq_zero.1 this with hx | hx
        · exact List.eq_nil_of_length_eq_zero hx
        · omega
  | map k v es =>
    obtain ⟨h1, ents, clock, h2, h3⟩ := h
    exact ⟨by rw [hb]; exact h1, ents, clock, by rw [hρ]; exact hw _ h2 rfl (.inl (by omega)), h3.mono fun _ _ hh =>
      ⟨⟨K.mono hg.fz _ _ _ hh.1.1, hh.1.2⟩, ⟨K.mono hg.fz _ _ _ hh.2.1, hh.2.2⟩⟩⟩
  | gone => trivial

theorem Sep.keep {g g' : Gm} (hg : Gm.Le g g') {i j : Nat} {oi oj : AObj} (hi : g.dom i) (hj : g.dom j) (h : Sep g i oi j oj) : Sep g' i oi j oj := by
  constructor
  · rw [hg.ρ i hi, hg.ρ j hj, hg.bs i hi, hg.bs j hj]; exact h.both
  · rw [hg.ρ i hi, hg.ρ j hj, hg.bs i hi, hg.bs j hj, hg.sz i hi, hg.sz j hj, hg.len i hi, hg.len j hj]; exact h.old

section
variable {G : Nat → Option (List Cell)} {g : Gm} {w0 w : World} {O : Objs}

/-- The heap alone counts. -/
theorem Rel.same (h : Rel G g w0 O w) {w' : World} (hb : Below w.heap.size w w') (hh : w'.heap = w.heap) : Rel G g w0 O w' where
  below := h.below.trans (hb.mono h.below.size)
  fz := by rw [hh]; exact h.fz
  dom := h.dom
  blk := by rw [hh]; exact h.blk
  obj := fun i o hl => (h.obj i o hl).keep (Gm.Le.refl g) (h.dom i o hl) (fun x hx _ _ => by rw [hh]; exact hx)
  sep := h.sep
  glob := h.glob

theorem Rel.drew (h : Rel G g w0 O w) : Rel G g w0 O w.drew := h.same ((Below.refl _ _).drew) rfl

/-- A new block. -/
theorem Rel.alloc (h : Rel G g w0 O w) {id : Nat} (hid : ¬ g.dom id) (o : Obj) (ao : AObj) (len sz bs : Nat)
    (ho : ObjR (g.ext id w.heap.size len sz bs) (w.alloc o) id ao) : Rel G (g.ext id w.heap.size len sz bs) w0 ((id, ao) :: O) (w.alloc o) := by
  have le := Gm.ext_le (ρ := w.heap.size) (len := len) (sz := sz) (bs := bs) hid
  have lt : ∀ b x, w.heap[b]? = some x → b < w.heap.size := fun b x hb => by
    rcases Nat.lt_or_ge b w.heap.size with h' | h'
    · exact h'
    · simp [Array.getElem?_eq_none h'] at hb
  have keep : ∀ b x, w.heap[b]? = some x → (w.alloc o).heap[b]? = some x := fun b x hb => by rw [Below.heap_alloc _ _ _ (lt b x hb)]; exact hb
  have ne : ∀ i x, look O i = some x → ¬ i = id := fun i x hl e => hid (e ▸ h.dom i x hl)
  have ρne : ∀ i x, look O i = some x → (g.ext id w.heap.size len sz bs).ρ i = g.ρ i := fun i x hl => le.ρ i (h.dom i x hl)
  refine ⟨h.below.trans ((Below.refl _ _).alloc h.below.size o), fun b x hb => keep b x (h.fz b x hb), ?_, ?_, ?_, ?_, ?_⟩
  · intro i x hl
    rw [look_cons] at hl
    by_cases hi : id = i
    · exact .inr hi.symm
    · simp [hi] at hl; exact .inl (h.dom i x hl)
  · intro i x hl hx hb
    rw [look_cons] at hl
    by_cases hi : id = i
    · subst hi
      refine ⟨by simp; exact h.below.size, by simp, ?_⟩
      simp only [Gm.ext_ρ, Gm.ext_fz]
      cases hf : g.fz w.heap.size with
      | none => rfl
      | some y => have := lt _ _ (h.fz _ _ hf); omega
    · simp [hi] at hl
      rw [le.bs i (h.dom i x hl)] at hb
      obtain ⟨h1, h2, h3⟩ := h.blk i x hl hx hb
      rw [ρne i x hl]
      exact ⟨h1, by simp; omega, h3⟩
  · intro i x hl
    rw [look_cons] at hl
    by_cases hi : id = i
    · subst hi; simp at hl; subst hl; exact ho
    · simp [hi] at hl
      exact (h.obj i x hl).keep le (h.dom i x hl) (fun y hy _ _ => keep _ _ hy)
  · have new : ∀ i x, look O i = some x → (x.excl || x.isOld) = true → 0 < g.bs i → (g.ext id w.heap.size len sz bs).ρ i ≠ w.heap.size := fun i x hl hx hb => by
      rw [ρne i x hl]; have := (h.blk i x hl hx hb).2.1; omega
    intro i oi j oj hij hi hj
    rw [look_cons] at hi hj
    by_cases h1 : id = i
    · subst h1
      have h2 : ¬ id = j := hij
      simp [h2] at hi hj
      subst hi
      constructor
      · intro _ hx _ hb e
        rw [le.bs j (h.dom j oj hj)] at hb
        exact new j oj hj (by simp [hx]) hb (by simpa using e.symm)
      · intro _ hx _ hb e
        rw [le.bs j (h.dom j oj hj)] at hb
        exact absurd (by simpa using e.symm) (new j oj hj (by simp [hx]) hb)
    · by_cases h2 : id = j
      · subst h2
        simp [h1] at hi hj
        subst hj
        constructor
        · intro hx _ hb _ e
          rw [le.bs i (h.dom i oi hi)] at hb
          exact new i oi hi (by simp [hx]) hb (by simpa using e)
        · intro hx _ hb _ e
          rw [le.bs i (h.dom i oi hi)] at hb
          exact absurd (by simpa using e) (new i oi hi (by simp [hx]) hb)
      · simp [h1, h2] at hi hj
        exact (h.sep i oi j oj hij hi hj).keep le (h.dom i oi hi) (h.dom j oj hj)
  · intro n cs hn
    obtain ⟨c, e, fr, h1, h2⟩ := h.glob n cs hn
    exact ⟨c, e, fr, h1, h2.mono fun _ _ => CellR.mono le⟩

/-- An object without a block. -/
theorem Rel.noBlock (h : Rel G g w0 O w) {id : Nat} (hid : ¬ g.dom id) (ao : AObj) (len sz : Nat)
    (ho : ObjR (g.ext id w.heap.size len sz 0) w id ao) : Rel G (g.ext id w.heap.size len sz 0) w0 ((id, ao) :: O) w := by
  have le := Gm.ext_le (ρ := w.heap.size) (len := len) (sz := sz) (bs := 0) hid
  refine ⟨h.below, h.fz, ?_, ?_, ?_, ?_, ?_⟩
  · intro i x hl
    rw [look_cons] at hl
    by_cases hi : id = i
    · exact .inr hi.symm
    · simp [hi] at hl; exact .inl (h.dom i x hl)
  · intro i x hl hx hb
    rw [look_cons] at hl
    by_cases hi : id = i
    · subst hi; simp at hb
    · simp [hi] at hl
      rw [le.bs i (h.dom i x hl)] at hb
      rw [le.ρ i (h.dom i x hl)]
      exact h.blk i x hl hx hb
  · intro i x hl
    rw [look_cons] at hl
    by_cases hi : id = i
    · subst hi; simp at hl; subst hl; exact ho
    · simp [hi] at hl
      exact (h.obj i x hl).keep le (h.dom i x hl) (fun y hy _ _ => hy)
  · intro i oi j oj hij hi hj
    rw [look_cons] at hi hj
    by_cases h1 : id = i
    · subst h1; exact ⟨fun _ _ hb => by simp at hb, fun _ _ hb => by simp at hb⟩
    · by_cases h2 : id = j
      · subst h2; exact ⟨fun _ _ _ hb => by simp at hb, fun _ _ _ hb => by simp at hb⟩
      · simp [h1, h2] at hi hj
        exact (h.sep i oi j oj hij hi hj).keep le (h.dom i oi hi) (h.dom j oj hj)
  · intro n cs hn
    obtain ⟨c, e, fr, h1, h2⟩ := h.glob n cs hn
    exact ⟨c, e, fr, h1, h2.mono fun _ _ => CellR.mono le⟩

theorem noOld_cases (x y : AObj) (h : x.noOld = y) : (y = x ∧ x.isOld = false) ∨ (y = .gone ∧ x.isOld = true) := by
  cases x <;> simp [AObj.noOld, AObj.isOld] at h ⊢ <;> exact h.symm

/-- Old slices may be forgotten. -/
theorem Rel.dropOld (h : Rel G g w0 O w) : Rel G g w0 (dropOld O) w := by
  have lk : ∀ i x, look (Ab.dropOld O) i = some x → ∃ y, look O i = some y ∧ ((x = y ∧ y.isOld = false) ∨ (x = .gone ∧ y.isOld = true)) := fun i x hl => by
    rw [look_dropOld] at hl
    cases hy : look O i with
    | none => simp [hy] at hl
    | some y => simp [hy] at hl; exact ⟨y, rfl, noOld_cases y x hl⟩
  refine ⟨h.below, h.fz, fun i x hl => let ⟨y, hy, _⟩ := lk i x hl; h.dom i y hy, ?_, ?_, ?_, h.glob⟩
  · intro i x hl hx hb
    obtain ⟨y, hy, ⟨rfl, _⟩ | ⟨rfl, _⟩⟩ := lk i x hl
    · exact h.blk i x hy hx hb
    · simp [AObj.excl, AObj.isOld] at hx
  · intro i x hl
    obtain ⟨y, hy, ⟨rfl, _⟩ | ⟨rfl, _⟩⟩ := lk i x hl
    · exact h.obj i x hy
    · trivial
  · intro i oi j oj hij hi hj
    obtain ⟨y, hy, ⟨rfl, _⟩ | ⟨rfl, _⟩⟩ := lk i oi hi <;> obtain ⟨z, hz, ⟨rfl, _⟩ | ⟨rfl, _⟩⟩ := lk j oj hj
    · exact h.sep i oi j oj hij hy hz
    · exact ⟨fun _ h => by simp [AObj.excl] at h, fun _ h => by simp [AObj.isOld] at h⟩
    · exact ⟨fun h => by simp [AObj.excl] at h, fun h => by simp [AObj.excl] at h⟩
    · exact ⟨fun h => by simp [AObj.excl] at h, fun h => by simp [AObj.excl] at h⟩

/-- An object may be forgotten, or turned into another one of its kind, as long as its block alone is written. -/
theorem Rel.write (h : Rel G g w0 O w) {id : Nat} {ao ao' : AObj} (hl : look O id = some ao) (hx : ao.excl = true) (hb : 0 < g.bs id)
    {w' : World} (hw : Below w0.heap.size w w') (hs : w'.heap.size = w.heap.size) (hne : ∀ b, b ≠ g.ρ id → w'.heap[b]? = w.heap[b]?)
    (hcell : ∀ e, w.heap[g.ρ id]? ≠ some (.cells #[] e (0, 0)))
    (hx' : ao'.excl = true) (hk : ao'.isRows = ao.isRows) (ho : ObjR g w' id ao') (hold : ∀ j oj, look O j = some oj → oj.isOld = true → ao.isRows = false) :
    Rel G g w0 (setAt O id ao') w' := by
  have lk : ∀ i x, look (setAt O id ao') i = some x → (i = id ∧ x = ao') ∨ (i ≠ id ∧ look O i = some x) := fun i x hi => by
    rw [look_setAt] at hi
    by_cases e : id = i
    · subst e; simp [hl] at hi; exact .inl ⟨rfl, hi.symm⟩
    · simp [e] at hi; exact .inr ⟨fun e' => e e'.symm, hi⟩
  have hid := h.dom id ao hl
  have hfr := h.blk id ao hl (by simp [hx]) hb
  have apart : ∀ i x, i ≠ id → look O i = some x → (x.excl || x.isOld) = true → 0 < g.bs i → g.ρ i ≠ g.ρ id := fun i x hi hli hxi hbi e => by
    cases hxe : x.excl with
    | true => exact (h.sep i x id ao hi hli hl).both hxe hx hbi hb e
    | false =>
      simp [hxe] at hxi
      have := (h.sep id ao i x (fun e => hi e.symm) hl hli).old hx hxi hb hbi e.symm
      rw [hold i x hli hxi] at this
      exact absurd this.1 (by simp)
  refine ⟨h.below.trans hw, fun b x hb' => ?_, ?_, ?_, ?_, ?_, h.glob⟩
  · rw [hne b (fun e => by rw [e, hfr.2.2] at hb'; simp at hb')]; exact h.fz b x hb'
  · intro i x hi
    rcases lk i x hi with ⟨rfl, rfl⟩ | ⟨_, hi⟩
    · exact hid
    · exact h.dom i x hi
  · intro i x hi hx hb'
    rw [hs]
    rcases lk i x hi with ⟨rfl, rfl⟩ | ⟨_, hi⟩
    · exact hfr
    · exact h.blk i x hi hx hb'
  · intro i x hi
    rcases lk i x hi with ⟨rfl, rfl⟩ | ⟨hne', hi⟩
    · exact ho
    · refine (h.obj i x hi).keep (Gm.Le.refl g) (h.dom i x hi) (fun y hy hxy hor => ?_)
      rw [hne _ ?_]
      · exact hy
      · rcases hor with hpos | ⟨e, rfl⟩
        · exact apart i x hne' hi hxy hpos
        · intro e'; rw [e'] at hy; exact hcell _ hy
  · intro i oi j oj hij hi hj
    have ae : ∀ o : AObj, o.excl = true → o.isOld = false := fun o ho => by cases o <;> simp_all [AObj.excl, AObj.isOld]
    rcases lk i oi hi with ⟨rfl, rfl⟩ | ⟨hi1, hi2⟩ <;> rcases lk j oj hj with ⟨rfl, rfl⟩ | ⟨hj1, hj2⟩
    · exact absurd rfl hij
    · have s := h.sep i ao j oj hij hl hj2
      exact ⟨fun _ => s.both hx, fun _ => by rw [hk]; exact s.old hx⟩
    · have s := h.sep i oi j ao hij hi2 hl
      exact ⟨fun a _ => s.both a hx, fun _ b => by rw [ae _ hx'] at b; simp at b⟩
    · exact h.sep i oi j oj hij hi2 hj2
end
end Go.Ab

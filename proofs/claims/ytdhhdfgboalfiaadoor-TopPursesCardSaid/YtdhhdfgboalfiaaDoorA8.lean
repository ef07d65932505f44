/- Soundness of composite literals, make and append. -/
import Derived.Test.YtdhhdfgboalfiaaDoorA7
import Derived.Laws.MakeOwn
import Derived.Laws.AppendOwn
set_option linter.unusedVariables false
set_option linter.unusedSimpArgs false
namespace Go.Ab
open Go.RowKit

section
variable {P : Program} {G : Nat → Option (List Cell)} {g : Gm} {w0 w : World} {O : Objs} {id : Nat} {R : Type} {r : R}

/-! ### Composite literals -/
theorem foldl_putL (off : Nat) : ∀ (l : List Value) (k : Nat) (cells : Array Value), off + k + l.length ≤ cells.size →
    (l.zipIdx k).foldl (fun cs p => cs.setIfInBounds (off + p.2) p.1) cells = (putL cells.toList (off + k) l).toArray
  | [], k, cells, h => by simp [putL]
  | v :: l, k, cells, h => by
    simp only [List.zipIdx_cons, List.foldl_cons]
    rw [foldl_putL off l (k + 1) _ (by simp at h ⊢; omega)]
    rw [Array.toList_setIfInBounds, ← Nat.add_assoc, putL_cons _ _ _ _ (by simpa using h)]

def PartsR (g : Gm) : List (Nat × List Cell) → List (Nat × Value) → Prop := All2 fun p q => p.1 = q.1 ∧ All2 (CellR g) p.2 q.2.cells.toList

theorem fillA_sound {place : Nat → Option (Nat × Nat)} : ∀ (ps : List (Nat × List Cell)) (qs : List (Nat × Value)) (cells out : List Cell) (l : List Value), PartsR g ps qs → All2 (CellR g) cells l →
    fillA place cells ps = some out → ∃ l', Instr.fill place l.toArray qs = some l'.toArray ∧ All2 (CellR g) out l'
  | [], [], cells, out, l, _, hc, h => by simp [fillA] at h; subst h; exact ⟨l, rfl, hc⟩
  | p :: ps, q :: qs, cells, out, l, ⟨⟨hp, hv⟩, hr⟩, hc, h => by
    obtain ⟨i, v⟩ := p
    obtain ⟨i', u⟩ := q
    simp only at hp hv
    subst hp
    simp only [fillA] at h
    split at h
    · rename_i off size hpl
      split at h
      · rename_i h1 h2
        have h1' := Nat.eq_of_beq_eq_true h1
        have h2' := Nat.le_of_ble_eq_true h2
        have hvl : v.length = u.cells.size := by simpa using hv.length
        have hcl := hc.length
        obtain ⟨l', e1, e2⟩ := fillA_sound ps qs _ out _ hr (splice_sound (off := off) hc hv) h
        refine ⟨l', ?_, e2⟩
        unfold Instr.fill
        simp only [hpl]
        have c1 : ¬ (u.cells.size ≠ size ∨ off + u.cells.size > l.toArray.size) := by simp; omega
        have c1' : (decide (u.cells.size ≠ size) || decide (off + u.cells.size > l.toArray.size)) = false := by simp; omega
        rw [if_neg (by simpa using c1)]
        have hf := foldl_putL off u.cells.toList 0 l.toArray (by simp; omega)
        rw [← Array.foldl_toList, Array.toList_zipIdx]
        rw [hf]
        simpa using e1
      · simp at h
    · simp at h
  | [], _ :: _, _, _, _, h, _, _ => h.elim
  | _ :: _, [], _, _, _, h, _, _ => h.elim

theorem partsA_sound {ev : Operand → Option AV} {ρ : Operand → Value} (hev : ∀ x v, ev x = some v → AVR g v (ρ x)) :
    ∀ (parts : List (Nat × Operand)) (ps : List (Nat × List Cell)), partsA ev parts = some ps → PartsR g ps (parts.map fun p => (p.1, ρ p.2))
  | [], ps, h => by simp [partsA] at h; subst h; trivial
  | p :: r, ps, h => by
    unfold partsA at h
    split at h
    · rename_i c l hc hl
      split at h
      · rename_i hre
        obtain rfl := Option.some.inj h
        have hcr : CellR g c (ρ p.2) := hev _ _ hc
        refine ⟨⟨rfl, ?_⟩, partsA_sound hev r l hl⟩
        rw [(real_one hre hcr).2]
        exact ⟨hcr, trivial⟩
      · simp at h
    · rename_i cs l hc hl
      obtain rfl := Option.some.inj h
      obtain ⟨vs, hv, ha⟩ := hev _ _ hc
      refine ⟨⟨rfl, ?_⟩, partsA_sound hev r l hl⟩
      simp only [hv, Value.cells]
      exact ha
    · simp at h

theorem zero_cells {t : Nat} {z : List Cell} (h : zeroOf P t = some z) : ∃ i v, P.info? t = some i ∧ i.zero = some v ∧ All2 (CellR g) z v.cells.toList := zeroOf_sound h

theorem mapM_places (fs : List Field) (h : (fs.map fun f => (⟨f.offset, P.cellsOf f.type, f.type, f.name == "_"⟩ : FInfo)).all (fun f => (P.info? f.type).isSome) = true) :
    fs.mapM (fun f => (P.info? f.type).map fun i => (f.offset, i.size)) = some (fs.map fun f => (f.offset, P.cellsOf f.type)) := by
  induction fs with
  | nil => rfl
  | cons f fs ih =>
    simp only [List.map_cons, List.all_cons, Bool.and_eq_true] at h
    obtain ⟨i, hi⟩ := Option.isSome_iff_exists.1 h.1
    simp only [List.mapM_cons, ih h.2, hi, Option.map_some, Program.cellsOf, List.map_cons]
    rfl

theorem buildA_sound {ev : Operand → Option AV} {ρ : Operand → Value} (hev : ∀ x v, ev x = some v → AVR g v (ρ x)) {t : Nat} {parts : Array (Nat × Operand)} {cs : List Cell} (h : buildA P ev t parts.toList = some cs) :
    Val P g w (Instr.build t (parts.map fun (i, x) => (i, ρ x))) (.agg cs) := by
  unfold buildA at h
  split at h
  · rename_i z ps hz hps
    obtain ⟨it, zv, hit, hzv, hzc⟩ := zeroOf_sound (g := g) hz
    have hpr := partsA_sound hev _ _ hps
    have hpl : (parts.map fun (i, x) => (i, ρ x)).toList = parts.toList.map fun p => (p.1, ρ p.2) := by simp
    split at h
    · rename_i fs ht
      obtain ⟨gs, hg, rfl⟩ := tkOf_struct ht
      split at h
      · rename_i hall
        obtain ⟨l', e1, e2⟩ := fillA_sound ps _ z cs _ hpr hzc h
        refine ⟨_, run_build w t _ l'.toArray ?_, l', rfl, e2⟩
        unfold Program.built
        simp only [hit, hg, hzv, mapM_places gs.toList hall, hpl]
        have : (fun x => ((List.map (fun f => (f.offset, P.cellsOf f.type)) gs.toList).toArray)[x]?) = fieldPlaceA (gs.toList.map fun f => ⟨f.offset, P.cellsOf f.type, f.type, f.name == "_"⟩) := by
          funext x
          simp only [fieldPlaceA, List.getElem?_toArray, List.getElem?_map]
          cases gs.toList[x]? <;> rfl
        rw [this]
        simpa using e1
      · simp at h
    · rename_i n e ht
      have hu := tkOf_array ht
      split at h
      · rename_i hin
        obtain ⟨ie, hie⟩ := Option.isSome_iff_exists.1 hin
        obtain ⟨l', e1, e2⟩ := fillA_sound ps _ z cs _ hpr hzc h
        refine ⟨_, run_build w t _ l'.toArray ?_, l', rfl, e2⟩
        unfold Program.built
        simp only [hit, hu, hzv, hie, hpl]
        have : P.cellsOf e = ie.size := by simp [Program.cellsOf, hie]
        rw [this] at e1
        simpa using e1
      · simp at h
    · simp at h
  · simp at h

theorem rowsFrom_sound {s : Sh} : ∀ (n : Nat) (cs : List Cell) (xs : List (El s)) (l : List Value), rowsFrom s s.size n cs = some xs → All2 (CellR g) cs l → n * s.size ≤ l.length →
    xs.length = n ∧ RowsR g.fz s xs l.toArray 0
  | 0, cs, xs, l, h, _, _ => by simp [rowsFrom] at h; subst h; exact ⟨rfl, fun i hi => by simp at hi⟩
  | n + 1, cs, xs, l, h, hc, hl => by
    unfold rowsFrom at h
    split at h
    · rename_i x xs' hx hxs
      obtain rfl := Option.some.inj h
      rw [Nat.add_mul, Nat.one_mul] at hl
      obtain ⟨i1, i2⟩ := rowsFrom_sound n _ xs' (l.drop s.size) hxs (hc.drop _) (by simp; omega)
      refine ⟨by simp [i1], fun i hi => ?_⟩
      cases i with
      | zero =>
        have hk := implode_sound (g := g) s _ _ _ hx (hc.take _)
        refine ⟨l.take s.size, by simp; omega, fun j hj => ?_, by simpa [List.getD] using hk⟩
        simp only [List.length_take] at hj
        simp only [List.getElem?_toArray, List.getElem?_take]
        rw [if_pos (by omega)]; simp
      | succ i =>
        obtain ⟨row, r1, r2, r3⟩ := i2 i (by simpa using hi)
        refine ⟨row, r1, fun j hj => ?_, by simpa [List.getD] using r3⟩
        have := r2 j hj
        simp only [List.getElem?_toArray, List.getElem?_drop] at this ⊢
        rw [← this]; congr 1
        rw [Nat.add_mul, Nat.one_mul]; omega
    · simp at h

/-- A new array. -/
theorem newRows_sound (hr : Rel G g w0 O w) (hid : ¬ g.dom id) {s : Sh} (hs : 0 < s.size) {xs : List (El s)} {l : Array Value} (hx : RowsR g.fz s xs l 0) (hl : xs.length * s.size ≤ l.size) {cap : Nat} (hn : xs.length ≤ cap) (hcap : cap * s.size ≤ l.size) (t : TypeId) :
    ∃ g', Gm.Le g g' ∧ (∀ i, g'.dom i → g.dom i ∨ i = id) ∧ AVR g' (.c (.a (.slw id))) (.slice (some ⟨w.heap.size, 0, none⟩) xs.length cap) ∧
      Rel G g' w0 ((id, .rows s xs) :: O) (w.alloc (.cells l t)) := by
  have le := Gm.ext_le (ρ := w.heap.size) (len := xs.length) (sz := s.size) (bs := l.size) hid
  refine ⟨g.ext id w.heap.size xs.length s.size l.size, le, fun i hi => hi, ⟨.inr rfl, some ⟨w.heap.size, 0, none⟩, cap, by simp, by simpa using hn, .inr ⟨by simp, by simpa using hcap⟩⟩, ?_⟩
  refine hr.alloc hid _ _ _ _ _ ⟨hs, by simp, by simp, .inr ⟨l, t, (0, 0), ?_, fun o _ => by simp, by simp, hl, hx⟩⟩
  rw [Gm.ext_ρ]; exact heap_alloc_new w _

theorem flatten_size (z : List Cell) (n : Nat) : ((List.replicate n z).flatten).length = n * z.length := by simp

theorem flatten_rel {z : List Cell} {zv : Array Value} (hz : All2 (CellR g) z zv.toList) (n : Nat) : All2 (CellR g) (List.replicate n z).flatten ((Array.range (n * zv.size)).map (zv[· % zv.size]!)).toList := by
  have hlen : z.length = zv.size := by simpa using hz.length
  have key : ∀ n, ((Array.range (n * zv.size)).map (zv[· % zv.size]!)).toList = (List.replicate n zv.toList).flatten := by
    intro n
    induction n with
    | zero => simp
    | succ n ih =>
      rw [List.replicate_succ', List.flatten_append, ← ih]
      simp only [Array.toList_map, Array.toList_range, List.flatten_cons, List.flatten_nil, List.append_nil]
      rw [Nat.add_mul, Nat.one_mul, List.range_add, List.map_append]
      congr 1
      rw [List.map_map]
      apply List.ext_getElem?
      intro i
      simp only [List.getElem?_map, List.getElem?_range]
      by_cases hi : i < zv.size
      · rw [List.getElem?_range hi]
        simp only [Option.map_some, Function.comp]
        have : (n * zv.size + i) % zv.size = i := by rw [Nat.add_comm, Nat.add_mul_mod_self_right, Nat.mod_eq_of_lt hi]
        rw [this, getElem!_pos zv i hi]
        simp [hi]
      · rw [List.getElem?_eq_none (by simpa using hi)]
        simp; omega
  rw [key]
  induction n with
  | zero => trivial
  | succ n ih => simp only [List.replicate_succ, List.flatten_cons]; exact hz.append ih

theorem buildSliceA_sound (hr : Rel G g w0 O w) (hid : ¬ g.dom id) {ev : Operand → Option AV} {ρ : Operand → Value} (hev : ∀ x v, ev x = some v → AVR g v (ρ x)) {t len : Nat} {parts : Array (Nat × Operand)} {s : Sh} {xs : List (El s)}
    (h : buildSliceA P ev t len parts.toList = some ⟨s, xs⟩) :
    Ok P G g w0 w id (do pure (.value (← Instr.buildSlice t len (parts.map fun (i, x) => (i, ρ x))))) (.c (.a (.slw id))) ((id, .rows s xs) :: O) := by
  unfold buildSliceA at h
  split at h
  · rename_i e ht
    have hu := tkOf_slice ht
    split at h
    · rename_i s' z ps hs hz hps
      split at h
      · rename_i c1 c2 c3 c4
        split at h
        · rename_i cells hf
          split at h
          · rename_i xs' hrw
            simp only [Option.some.injEq, Sigma.mk.injEq] at h
            obtain ⟨rfl, h⟩ := h
            obtain rfl := eq_of_heq h
            have c1' := Nat.eq_of_beq_eq_true c1
            have c2' := Nat.eq_of_beq_eq_true c2
            simp only [Bool.and_eq_true] at c3
            have c3' := Nat.le_of_ble_eq_true c3.1
            have c5' := blt_lt c3.2
            have c4' := blt_lt c4
            obtain ⟨it, zv, hit, hzv, hzc⟩ := zeroOf_sound (g := g) hz
            have hzl : zv.cells.size = s'.size := by have := hzc.length; simp at this; omega
            have hpr := partsA_sound hev _ _ hps
            have hpl : (parts.map fun (i, x) => (i, ρ x)).toList = parts.toList.map fun p => (p.1, ρ p.2) := by simp
            obtain ⟨l', e1, e2⟩ := fillA_sound ps _ _ cells _ hpr (flatten_rel hzc len) hf
            have hll : l'.length = len * s'.size := by
              have fl : ∀ (place : Nat → Option (Nat × Nat)) (qs : List (Nat × Value)) (c c' : Array Value), Instr.fill place c qs = some c' → c'.size = c.size := by
                intro place qs
                induction qs with
                | nil => intro c c' h; simp [Instr.fill] at h; subst h; rfl
                | cons q qs ih =>
                  intro c c' h
                  unfold Instr.fill at h
                  split at h
                  · simp at h
                  · split at h
                    · simp at h
                    · rw [ih _ _ h]
                      rename_i off size _ _
                      have : ∀ (ps : Array (Value × Nat)) (c : Array Value), (ps.foldl (fun cs p => cs.setIfInBounds (off + p.2) p.1) c).size = c.size := by
                        intro ps c
                        rw [← Array.foldl_toList]
                        induction ps.toList generalizing c with
                        | nil => rfl
                        | cons a l ih => simp [ih]
                      exact this _ _
              have := fl _ _ _ _ e1
              simp [hzl] at this
              exact this
            obtain ⟨x1, x2⟩ := rowsFrom_sound len cells _ l' hrw e2 (by rw [hll]; exact Nat.le_refl _)
            obtain ⟨g', g1, g2, g3, g4⟩ := newRows_sound hr hid c4' x2 (by rw [x1]; simp [hll]) (cap := len) (by omega) (by simp [hll]) e
            refine ⟨_, _, _, g', ?_, .inl rfl, g1, g2, g3, g4⟩
            have hsz : it.size = s'.size := by rw [← c2']; simp [Program.cellsOf, hit]
            have n1 : ¬ len * s'.size > 2 ^ 24 := by omega
            rw [x1] at g3
            simp only [Instr.buildSlice, Sem.run_bind, run_underlying hu, Result.andThen_ok, run_sizeOf' w hit, c2', n1, if_false, Sem.run_pure]
            have hn : ¬ len * s'.size = 0 := by omega
            simp only [hn, if_false, zeroValue, typeInfo, Sem.run_bind, run_program, Result.andThen_ok, hit, Sem.run_pure, hzv, hpl]
            have e1' := e1
            rw [hzl] at e1'
            rw [hzl]
            simp only [Array.toArray_toList] at e1'
            rw [e1']
            simp [newRow, x1]
          · simp at h
        · simp at h
      · simp at h
    · simp at h
  · simp at h
end
end Go.Ab

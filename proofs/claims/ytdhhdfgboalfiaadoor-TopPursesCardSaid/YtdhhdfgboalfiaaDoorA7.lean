/- Soundness of the operations that make or write memory: variables, stores, slices' arrays, maps. -/
import Derived.Test.YtdhhdfgboalfiaaDoorA6
set_option linter.unusedVariables false
set_option linter.unusedSimpArgs false
namespace Go.Ab
open Go.RowKit

theorem getElem?_putL {l : List Value} {o : Nat} {vs : List Value} (h : o + vs.length ≤ l.length) (k : Nat) :
    (putL l o vs)[k]? = if k < o then l[k]? else if k < o + vs.length then vs[k - o]? else l[k]? := by
  unfold putL
  rw [List.getElem?_append, List.getElem?_append, List.getElem?_take, List.getElem?_drop]
  simp only [List.length_append, List.length_take]
  by_cases h1 : k < o
  · have a1 : k < min o l.length + vs.length := by omega
    have a2 : k < min o l.length := by omega
    simp [h1, a1, a2]
  · by_cases h2 : k < o + vs.length
    · have a1 : k < min o l.length + vs.length := by omega
      have a2 : ¬ k < min o l.length := by omega
      have a3 : k - min o l.length = k - o := by omega
      simp [h1, h2, a1, a2, a3]
    · have a1 : ¬ k < min o l.length + vs.length := by omega
      have a3 : o + vs.length + (k - (min o l.length + vs.length)) = k := by omega
      simp only [h1, h2, a1, a3, if_false]

theorem splice_sound {g : Gm} {cs new : List Cell} {l vs : List Value} {off : Nat} (hc : All2 (CellR g) cs l) (hn : All2 (CellR g) new vs) : All2 (CellR g) (splice cs off new) (putL l off vs) := by
  unfold splice putL
  rw [hn.length]
  exact ((hc.take off).append hn).append (hc.drop _)

theorem real_one {g : Gm} {c : Cell} {v : Value} (hr : c.real = true) (h : CellR g c v) : v.oneCell' = true ∧ v.cells = #[v] := by
  cases c with
  | fn f caps => obtain ⟨vs, rfl, _⟩ := h; exact ⟨rfl, rfl⟩
  | a x =>
    cases x with
    | v s x =>
      obtain ⟨hk, hs⟩ := h
      cases s with
      | int k => obtain rfl := (List.cons.inj hk).1; exact ⟨rfl, rfl⟩
      | bool => obtain rfl := (List.cons.inj hk).1; exact ⟨rfl, rfl⟩
      | str => obtain rfl := (List.cons.inj hk).1; exact ⟨rfl, rfl⟩
      | lst s => obtain ⟨a, cap, e, _⟩ := hk; obtain rfl := (List.cons.inj e).1; exact ⟨rfl, rfl⟩
      | unit => simp [Sh.isCell] at hs
      | pair a b => simp [Sh.isCell] at hs
    | und => simp [Cell.real] at hr
    | nilsl => obtain rfl : v = .slice none 0 0 := h; exact ⟨rfl, rfl⟩
    | slw id => obtain ⟨_, a, cap, rfl, _⟩ := h; exact ⟨rfl, rfl⟩
    | sl id lo n => obtain ⟨_, a, cap, rfl, _⟩ := h; exact ⟨rfl, rfl⟩
    | ptr b off => obtain ⟨_, _, _, rfl⟩ := h; exact ⟨rfl, rfl⟩
    | iptr b off n sz i o => obtain ⟨_, _, _, rfl⟩ := h; exact ⟨rfl, rfl⟩
    | nilptr => obtain rfl : v = .pointer none := h; exact ⟨rfl, rfl⟩
    | map id => obtain ⟨_, rfl⟩ := h; exact ⟨rfl, rfl⟩
    | nilmap => obtain rfl : v = .map none := h; exact ⟨rfl, rfl⟩
    | nilfn => obtain rfl : v = .nilFunc := h; exact ⟨rfl, rfl⟩
    | nilif => obtain rfl : v = .nilIface := h; exact ⟨rfl, rfl⟩

theorem real_all {g : Gm} : ∀ {cs : List Cell} {vs : List Value}, cs.all Cell.real = true → All2 (CellR g) cs vs → ∀ v ∈ vs, v.oneCell' = true
  | [], [], _, _, v, hv => by simp at hv
  | c :: cs, u :: us, hr, ⟨h1, h2⟩, v, hv => by
    simp only [List.all_cons, Bool.and_eq_true] at hr
    rcases List.mem_cons.1 hv with rfl | hv
    · exact (real_one hr.1 h1).1
    · exact real_all hr.2 h2 v hv
  | [], _ :: _, _, h, _, _ => h.elim
  | _ :: _, [], _, h, _, _ => h.elim

section
variable {P : Program} {G : Nat → Option (List Cell)} {g : Gm} {w0 w : World} {O : Objs} {id : Nat} {R : Type} {r : R}

/-- A new variable. -/
theorem newBox_sound (hr : Rel G g w0 O w) (hid : ¬ g.dom id) {cs : List Cell} {vs : Array Value} (hc : All2 (CellR g) cs vs.toList) (t : TypeId) :
    ∃ g', Gm.Le g g' ∧ (∀ i, g'.dom i → g.dom i ∨ i = id) ∧ AVR g' (.c (.a (.ptr (.box id) 0))) (.pointer (some ⟨w.heap.size, 0, none⟩)) ∧
      Rel G g' w0 ((id, .box cs) :: O) (w.alloc (.cells vs t)) := by
  have le := Gm.ext_le (ρ := w.heap.size) (len := 0) (sz := 0) (bs := cs.length) hid
  refine ⟨g.ext id w.heap.size 0 0 cs.length, le, fun i hi => hi, ⟨w.heap.size, 0, ⟨.inr rfl, by simp, rfl⟩, rfl⟩, ?_⟩
  refine hr.alloc hid _ _ _ _ _ ⟨by simp, vs, t, ?_, hc.mono fun _ _ => CellR.mono le⟩
  rw [Gm.ext_ρ]; exact heap_alloc_new w _

theorem alloc_sound (hr : Rel G g w0 O w) (hid : ¬ g.dom id) {t : Nat} {cs : List Cell} (h : zeroOf P t = some cs) :
    Ok P G g w0 w id (do pure (.value (← Instr.alloc t true (.tuple #[])))) (.c (.a (.ptr (.box id) 0))) ((id, .box cs) :: O) := by
  obtain ⟨i, z, hi, hz, hc⟩ := zeroOf_sound (g := g) h
  obtain ⟨g', h1, h2, h3, h4⟩ := newBox_sound hr hid hc t
  refine ⟨_, _, _, g', ?_, .inl rfl, h1, h2, h3, h4⟩
  simp [Instr.alloc, zeroValue, typeInfo, hi, hz, newVar, newRow]

theorem box_sound (hr : Rel G g w0 O w) (hid : ¬ g.dom id) {t : Nat} {cs : List Cell} {val : Value} (hc : All2 (CellR g) cs val.cells.toList) :
    Ok P G g w0 w id (do pure (.value (← Instr.box t val))) (.c (.a (.ptr (.box id) 0))) ((id, .box cs) :: O) := by
  obtain ⟨g', h1, h2, h3, h4⟩ := newBox_sound hr hid hc t
  refine ⟨_, _, _, g', ?_, .inl rfl, h1, h2, h3, h4⟩
  simp [Instr.box, newVar, newRow]

/-! ### Loads and stores -/
theorem load_sound (hr : Rel G g w0 O w) {t : Nat} (hty : tyOk P t = true) {p : A0} {gd : Bool} {cs : List Cell} (h : cellsAt G O (P.cellsOf t) p = some (gd, cs)) (hgd : gd = true) {v : AV} (hv : mkAV P t cs = some v)
    {vp : Value} (hp : A0R g p vp) : Val P g w (Instr.loadAt t vp) v := by
  obtain ⟨⟨d, hd⟩, hpos⟩ := tyOk_spec hty
  obtain ⟨b, o, vs, rfl, h1, h2, h3⟩ := cellsAt_sound hr h hgd hp
  have hl := run_load_cells h2 h3 hd hpos
  rcases mkAV_sound hv h1 with ⟨ha, rfl, hav⟩ | ⟨ha, u, rfl, hav⟩
  · exact ⟨_, hl.1 ha, hav⟩
  · exact ⟨u, hl.2 ha u rfl, hav⟩

theorem run_store_cells {t : Nat} {b o : Nat} {val : Value} (hs : val.cells.size = P.cellsOf t) (hpos : 0 < P.cellsOf t) (ht : w.there b o val.cells.size) (h1 : ∀ v ∈ val.cells.toList, v.oneCell' = true) :
    (Instr.storeAt t (.pointer (some ⟨b, o, none⟩)) val).run P w = .ok () (w.setCells b o val.cells.toList) := by
  obtain ⟨i, hi, his⟩ := cellsOf_pos hpos
  have := run_storeCells_cells (P := P) b o val.cells.toList 0 w (fun j hj => by simpa using (ht j (by simpa using hj)).1) (fun j hj => by simpa using (ht j (by simpa using hj)).2) h1
  simp only [Instr.storeAt, Instr.sureAddr, storeVar, Sem.run_bind, Sem.run_pure, Result.andThen_ok, run_sizeOf' w hi, hs, ne_eq, not_true, if_false]
  simpa using this

theorem storeA_sound (hr : Rel G g w0 O w) {p : A0} {new : List Cell} {κ : Objs → Option R} (h : storeA O p new κ = some r) {vp : Value} (hp : A0R g p vp)
    {t : Nat} {val : Value} (hv : All2 (CellR g) new val.cells.toList) (hn : new.length = P.cellsOf t) (hpos : 0 < P.cellsOf t) :
    ∃ O' w', κ O' = some r ∧ (Instr.storeAt t vp val).run P w = .ok () w' ∧ Rel G g w0 O' w' := by
  unfold storeA at h
  split at h
  · simp at h
  rename_i hreal
  have hone := real_all hreal hv
  have hlen : new.length = val.cells.toList.length := hv.length
  have hsz : val.cells.size = P.cellsOf t := by rw [← hn, hlen]; simp
  split at h
  · rename_i id' off
    obtain ⟨blk, o, ⟨hd, rfl, rfl⟩, rfl⟩ := hp
    split at h
    · rename_i cs hl
      split at h
      · rename_i hle
        have hle' := Nat.le_of_ble_eq_true hle
        obtain ⟨hbs, c, e, hc, ha⟩ := hr.obj _ _ hl
        have hcl : cs.length = c.size := by simpa using ha.length
        have hposb : 0 < g.bs id' := by rw [hbs]; omega
        have hfit : off + val.cells.toList.length ≤ c.size := by rw [← hlen]; omega
        have hthere : w.there (g.ρ id') (0 + off) val.cells.size := fun j hj => by
          have hj' : 0 + off + j < c.size := by have := hfit; simp at this; omega
          constructor
          · rw [cell_of_block hc, Array.getElem?_eq_getElem hj']; rfl
          · simp [World.frozen?, hc]
        refine ⟨_, _, h, run_store_cells hsz hpos hthere hone, ?_⟩
        rw [Nat.zero_add]
        have hb : w0.heap.size ≤ g.ρ id' := (hr.blk _ _ hl rfl hposb).1
        refine hr.write hl rfl hposb (below_setCells _ hb _ _ _) (size_setCells _ _ _ _) (fun b hne => heap_setCells_ne _ _ hne _ _ _) ?_ rfl rfl ?_ (fun _ _ _ _ => rfl)
        · intro e' he
          rw [hc] at he
          simp at he
          obtain ⟨rfl, _⟩ := he
          have : off + val.cells.toList.length ≤ 0 := hfit
          omega
        · refine ⟨?_, _, e, heap_setCells _ e (0, 0) _ _ _ c hc hfit, ?_⟩
          · rw [hbs]; simp [splice]; omega
          · simpa using splice_sound ha hv
      · simp at h
    · simp at h
  · rename_i id' i off
    obtain ⟨blk, o, ⟨hd, rfl, rfl⟩, rfl⟩ := hp
    split at h
    · rename_i s xs hl
      split at h
      · rename_i x hle hx
        obtain ⟨hi, h⟩ := cond_true' h
        have hi' : i < xs.length := by simpa using hi
        have hle' := Nat.le_of_ble_eq_true hle
        obtain ⟨h0, h1, h2, h3⟩ := hr.obj _ _ hl
        rcases h3 with ⟨_, rfl⟩ | ⟨c, e, fr, hc, hth, hcs, hfit0, hrows⟩
        · simp at hi'
        have hmul : (i + 1) * s.size ≤ xs.length * s.size := Nat.mul_le_mul_right _ hi'
        rw [Nat.add_mul, Nat.one_mul] at hmul
        have hbs : 0 < g.bs id' := by rw [← hcs]; omega
        have hfit : i * g.sz id' + off + val.cells.toList.length ≤ c.size := by rw [h1, ← hlen]; omega
        have hthere : w.there (g.ρ id') (i * g.sz id' + off) val.cells.size := fun j hj => by
          have hj' : i * g.sz id' + off + j < c.size := by have := hfit; simp at this; omega
          constructor
          · rw [cell_of_block hc, Array.getElem?_eq_getElem hj']; rfl
          · simp only [World.frozen?, hc]; exact hth _ hj'
        refine ⟨_, _, h, run_store_cells hsz hpos hthere hone, ?_⟩
        have hb : w0.heap.size ≤ g.ρ id' := (hr.blk _ _ hl rfl hbs).1
        have hl' : look (Ab.dropOld O) id' = some (.rows s xs) := by rw [look_dropOld, hl]; rfl
        refine hr.dropOld.write hl' rfl hbs (below_setCells _ hb _ _ _) (size_setCells _ _ _ _) (fun b hne => heap_setCells_ne _ _ hne _ _ _) ?_ rfl rfl ?_ ?_
        · intro e' he
          rw [hc] at he
          simp at he
          obtain ⟨rfl, _⟩ := he
          have hz : xs.length * s.size = 0 := by simpa using hfit0
          rcases Nat.mul_eq_zero.1 hz with hh | hh
          · omega
          · omega
        · refine ⟨h0, h1, by rw [h2]; simp, .inr ⟨_, e, fr, heap_setCells _ e fr _ _ _ c hc hfit, ?_, ?_, ?_, ?_⟩⟩
          · have : (putL c.toList (i * g.sz id' + off) val.cells.toList).toArray.size = c.size := by
              simpa using putL_length (l := c.toList) (by simpa using hfit)
            rw [this]; exact hth
          · have : (putL c.toList (i * g.sz id' + off) val.cells.toList).toArray.size = c.size := by
              simpa using putL_length (l := c.toList) (by simpa using hfit)
            rw [this]; exact hcs
          · have : (putL c.toList (i * g.sz id' + off) val.cells.toList).toArray.size = c.size := by
              simpa using putL_length (l := c.toList) (by simpa using hfit)
            rw [this]; simpa using hfit0
          · intro i' hi''
            rw [List.length_set] at hi''
            obtain ⟨row, r1, r2, r3⟩ := hrows i' hi''
            have hm' : (i' + 1) * s.size ≤ xs.length * s.size := Nat.mul_le_mul_right _ hi''
            rw [Nat.add_mul, Nat.one_mul] at hm'
            by_cases hii : i' = i
            · subst hii
              have hk := implode_sound (g := g) s _ _ _ hx (splice_sound (off := off) (explode_sound s _ _ r3) hv)
              have hfr : off + val.cells.toList.length ≤ row.length := by rw [r1, ← hlen]; exact hle'
              refine ⟨putL row off val.cells.toList, by rw [putL_length hfr, r1], fun j hj => ?_, ?_⟩
              · rw [putL_length hfr, r1] at hj
                rw [List.getElem?_toArray, getElem?_putL (by simpa using hfit), getElem?_putL hfr]
                have hrow := r2 j (by rw [r1]; exact hj)
                rw [Nat.zero_add] at hrow
                simp only [Array.getElem?_toList, Nat.zero_add]
                rw [h1] at *
                by_cases q1 : j < off
                · have a1 : i' * s.size + j < i' * s.size + off := by omega
                  simp only [q1, a1, if_true]; exact hrow
                · by_cases q2 : j < off + val.cells.toList.length
                  · have a1 : ¬ i' * s.size + j < i' * s.size + off := by omega
                    have a2 : i' * s.size + j < i' * s.size + off + val.cells.toList.length := by omega
                    have a3 : i' * s.size + j - (i' * s.size + off) = j - off := by omega
                    simp only [q1, q2, a1, a2, a3, if_true, if_false]
                  · have a1 : ¬ i' * s.size + j < i' * s.size + off := by omega
                    have a2 : ¬ i' * s.size + j < i' * s.size + off + val.cells.toList.length := by omega
                    simp only [q1, q2, a1, a2, if_false]; exact hrow
              · have : (xs.set i' x).getD i' (El.dflt s) = x := by simp [List.getD, hi'']
                rw [this]; exact hk
            · refine ⟨row, r1, fun j hj => ?_, ?_⟩
              · have hrow := r2 j hj
                rw [List.getElem?_toArray, getElem?_putL (by simpa using hfit)]
                simp only [Array.getElem?_toList]
                rw [r1] at hj
                rw [Nat.zero_add] at hrow ⊢
                rw [h1] at *
                rcases Nat.lt_or_gt_of_ne hii with q | q
                · have hq : (i' + 1) * s.size ≤ i * s.size := Nat.mul_le_mul_right _ q
                  rw [Nat.add_mul, Nat.one_mul] at hq
                  have a1 : i' * s.size + j < i * s.size + off := by omega
                  simp only [a1, if_true]; exact hrow
                · have hq : (i + 1) * s.size ≤ i' * s.size := Nat.mul_le_mul_right _ q
                  rw [Nat.add_mul, Nat.one_mul] at hq
                  have a1 : ¬ i' * s.size + j < i * s.size + off := by omega
                  have a2 : ¬ i' * s.size + j < i * s.size + off + val.cells.toList.length := by rw [← hlen]; omega
                  simp only [a1, a2, if_false]; exact hrow
              · have : (xs.set i x).getD i' (El.dflt s) = xs.getD i' (El.dflt s) := by
                  simp only [List.getD, List.getElem?_set]; rw [if_neg (fun e => hii e.symm)]
                rw [this]; exact r3
        · intro j oj hj ho
          rw [look_dropOld] at hj
          cases hy : look O j with
          | none => simp [hy] at hj
          | some y => simp [hy] at hj; subst hj; cases y <;> simp [AObj.noOld, AObj.isOld] at ho
      · simp at h
    · simp at h
  · simp at h
end
end Go.Ab

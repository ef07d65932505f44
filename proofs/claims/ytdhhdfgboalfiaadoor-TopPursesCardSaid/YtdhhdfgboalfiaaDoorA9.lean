/- Soundness of make, append, conversions, maps. -/
import Derived.Test.YtdhhdfgboalfiaaDoorA8
set_option linter.unusedVariables false
set_option linter.unusedSimpArgs false
namespace Go.Ab
open Go.RowKit

section
variable {P : Program} {G : Nat → Option (List Cell)} {g : Gm} {w0 w : World} {O : Objs} {id : Nat} {R : Type} {r : R}

/-! ### make -/
theorem madeCells_get (z : Array Value) (hz : 0 < z.size) (n i j : Nat) (hi : i < n) (hj : j < z.size) : (madeCells z (n * z.size))[i * z.size + j]? = z[j]? := by
  have hlt : i * z.size + j < n * z.size := by
    have : (i + 1) * z.size ≤ n * z.size := Nat.mul_le_mul_right _ hi
    rw [Nat.add_mul, Nat.one_mul] at this
    omega
  have hm : (i * z.size + j) % z.size = j := by rw [Nat.add_comm, Nat.add_mul_mod_self_right, Nat.mod_eq_of_lt hj]
  unfold madeCells
  rw [Array.getElem?_map, Array.getElem?_eq_getElem (by simpa using hlt)]
  simp only [Array.getElem_range, Option.map_some, hm]
  rw [getElem!_pos z j hj, Array.getElem?_eq_getElem hj]

theorem bytes_le {e : Nat} {i : TypeInfo} (hi : P.info? e = some i) (h : Nat.ble (P.bytesOf e) 128 = true) : i.bytes ≤ 128 := by
  have := Nat.le_of_ble_eq_true h
  simpa [Program.bytesOf, hi] using this

theorem makeA_sound (hr : Rel G g w0 O w) (hid : ¬ g.dom id) {t e : Nat} (ht : tkOf P t = .slice e) {s : Sh} {z : List Cell} (hz : zeroOf P e = some z) {x : El s} (hx : implode s z = some x)
    (c1 : P.cellsOf e = s.size) (c2 : z.length = s.size) (c3 : 0 < s.size) (c4 : Nat.ble (P.bytesOf e) 128 = true) {n m : Int} (k k' : IntKind) {κ : AV → Objs → Option R} (h : makeA id O s x n m κ = some r) :
    ∃ v O', κ v O' = some r ∧ Ok P G g w0 w id (do pure (.value (← Instr.makeSlice t (.int k n) (.int k' m)))) v O' := by
  unfold makeA at h
  obtain ⟨hc, h⟩ := cond_true' h
  obtain ⟨h1, h2, h3⟩ := three hc
  obtain ⟨it, zv, hit, hzv, hzc⟩ := zeroOf_sound (g := g) hz
  have hzl : zv.cells.size = s.size := by have := hzc.length; simp at this; omega
  have hby := bytes_le hit c4
  have hsz : it.size = s.size := by rw [← c1]; simp [Program.cellsOf, hit]
  have hk := implode_sound (g := g) s _ _ _ hx hzc
  have hm : (m.toNat : Int) = m := by omega
  have hb : (it.bytes : Int) * m ≤ 281474976710656 := by
    have q1 : it.bytes * m.toNat ≤ 128 * 1099511627776 := Nat.mul_le_mul hby (by simp only [rowLimit] at h3; omega)
    have q2 : ((it.bytes * m.toNat : Nat) : Int) = (it.bytes : Int) * m := by rw [Int.natCast_mul, hm]
    omega
  have hrun := run_make (P := P) w t e it zv (tkOf_slice ht) hit hzv k k' n m h1 h2 hb (by simp only [rowLimit] at h3; omega)
  obtain ⟨g', g1, g2, g3, g4⟩ := newRows_sound hr hid c3 (xs := List.replicate n.toNat x) (l := madeCells zv.cells (m.toNat * it.size)) (cap := m.toNat)
    (fun i hi => ⟨zv.cells.toList, by simpa using hzl, fun j hj => by
        have hj' : j < zv.cells.size := by simpa using hj
        have hi' : i < n.toNat := by simpa using hi
        rw [hsz, ← hzl, Nat.zero_add, madeCells_get _ (by omega) _ _ _ (by omega) hj']
        simp, by
        have hi' : i < n.toNat := by simpa using hi
        have : (List.replicate n.toNat x).getD i (El.dflt s) = x := by simp [List.getD, hi']
        rw [this]; exact hk⟩)
    (by simp only [List.length_replicate, size_madeCells, hsz]; exact Nat.mul_le_mul_right _ (by omega))
    (by simp; omega) (by simp [size_madeCells, hsz]) e
  rw [List.length_replicate] at g3
  exact ⟨_, _, h, _, _, _, g', by simp only [Sem.run_bind, hrun, Result.andThen_ok, Sem.run_pure], .inl rfl, g1, g2, g3, g4⟩

/-! ### append -/
/-- What the second argument of an append brings: m rows, as cells. -/
structure Brings (P : Program) (g : Gm) (w : World) (size : Nat) (x : Value) (s : Sh) (ys : List (El s)) (news : List Value) : Prop where
  len : (Builtin.lenOf x).run P w = .ok ys.length w
  len' : (Builtin.lenOf x).run P w.drew = .ok ys.length w.drew
  cells : (Builtin.firstCells size ys.length x).run P w = .ok news.toArray w
  cells' : (Builtin.firstCells size ys.length x).run P w.drew = .ok news.toArray w.drew
  rows : RowsR g.fz s ys news.toArray 0
  size : news.length = ys.length * s.size
  one : ∀ v ∈ news, v.oneCell' = true

theorem K_one {f : Nat → Option Obj} : ∀ (s : Sh) (x : El s) (cs : List Value), K f s x cs → ∀ v ∈ cs, v.oneCell' = true
  | .int k, x, cs, h, v, hv => by cases h; simp at hv; subst hv; rfl
  | .bool, x, cs, h, v, hv => by cases h; simp at hv; subst hv; rfl
  | .str, x, cs, h, v, hv => by cases h; simp at hv; subst hv; rfl
  | .unit, x, cs, h, v, hv => by cases h; simp at hv
  | .pair a b, x, cs, ⟨c, d, e, h, k⟩, v, hv => by
    rw [e] at hv
    rcases List.mem_append.1 hv with hv | hv
    · exact K_one a _ _ h v hv
    · exact K_one b _ _ k v hv
  | .lst s, x, cs, ⟨a, cap, e, _⟩, v, hv => by rw [e] at hv; simp at hv; subst hv; rfl

/-- The cells of n rows that lie in an array. -/
theorem rows_cells {f : Nat → Option Obj} {s : Sh} {xs : List (El s)} {c : Array Value} {o : Nat} (h : RowsR f s xs c o) (hs : 0 < s.size) :
    ∃ news : List Value, news.length = xs.length * s.size ∧ (∀ j, j < news.length → c[o + j]? = news[j]?) ∧ RowsR f s xs news.toArray 0 ∧ ∀ v ∈ news, v.oneCell' = true := by
  have hb : xs.length = 0 ∨ o + xs.length * s.size ≤ c.size := by
    rcases Nat.eq_zero_or_pos xs.length with h0 | h0
    · exact .inl h0
    · right
      obtain ⟨row, r1, r2, _⟩ := h (xs.length - 1) (by omega)
      have hq := r2 (s.size - 1) (by omega)
      have hlt : s.size - 1 < row.length := by omega
      rw [List.getElem?_eq_getElem hlt] at hq
      have := (Array.getElem?_eq_some_iff.1 hq).1
      have e : xs.length * s.size = (xs.length - 1) * s.size + s.size := by
        rw [show xs.length = (xs.length - 1) + 1 by omega, Nat.add_mul, Nat.one_mul]; simp
      omega
  have hlen : ((c.toList.drop o).take (xs.length * s.size)).length = xs.length * s.size := by
    rcases hb with h0 | h0
    · simp [h0]
    · simp; omega
  have hget : ∀ j, j < xs.length * s.size → ((c.toList.drop o).take (xs.length * s.size))[j]? = c[o + j]? := fun j hj => by
    rw [List.getElem?_take, if_pos hj, List.getElem?_drop, Array.getElem?_toList]
  refine ⟨(c.toList.drop o).take (xs.length * s.size), hlen, fun j hj => (hget j (by omega)).symm, fun i hi => ?_, fun v hv => ?_⟩
  · obtain ⟨row, r1, r2, r3⟩ := h i hi
    refine ⟨row, r1, fun j hj => ?_, r3⟩
    have e : (i + 1) * s.size ≤ xs.length * s.size := Nat.mul_le_mul_right _ hi
    rw [Nat.add_mul, Nat.one_mul] at e
    rw [List.getElem?_toArray, Nat.zero_add, hget _ (by omega), ← r2 j hj, Nat.add_assoc]
  · obtain ⟨j, hj, rfl⟩ := List.getElem_of_mem hv
    have hj' : j < xs.length * s.size := by omega
    have hi : j / s.size < xs.length := (Nat.div_lt_iff_lt_mul hs).2 hj'
    obtain ⟨row, r1, r2, r3⟩ := h (j / s.size) hi
    have hm : j % s.size < row.length := by rw [r1]; exact Nat.mod_lt _ hs
    have hq := r2 _ hm
    have e : o + j / s.size * s.size + j % s.size = o + j := by have := Nat.div_add_mod' j s.size; omega
    rw [e, ← hget j hj', List.getElem?_eq_getElem hj, List.getElem?_eq_getElem hm] at hq
    rw [Option.some.inj hq]
    exact K_one s _ _ r3 _ (List.getElem_mem _)

theorem run_first (w : World) (size m c b o : Nat) (news : List Value) (hl : news.length = m * size) (h : ∀ j, j < news.length → w.cell? ⟨b, o + j, none⟩ = news[j]?) :
    (Builtin.firstCells size m (.slice (some ⟨b, o, none⟩) m c)).run P w = .ok news.toArray w := by
  unfold Builtin.firstCells
  rw [← hl]
  exact run_loadCells_list w _ news (fun j v hv => by rw [add_eq, h j (List.getElem?_eq_some_iff.1 hv).1]; exact hv)

theorem rowsOf_sound (hr : Rel G g w0 O w) {s : Sh} (hs : 0 < s.size) {x : A0} {ys : List (El s)} (h : rowsOf O s x = some ys) {vx : Value} (hx : A0R g x vx) :
    ∃ news, Brings P g w s.size vx s ys news := by
  have mk : ∀ (b o : Nat) (c : Array Value) (e : TypeId) (fr : Nat × Nat) (cap n : Nat), w.heap[b]? = some (.cells c e fr) → ys.length = n → RowsR g.fz s ys c o → ∃ news, Brings P g w s.size (.slice (some ⟨b, o, none⟩) n cap) s ys news := by
    intro b o c e fr cap n hc hn hrw
    subst hn
    obtain ⟨news, n1, n2, n3, n4⟩ := rows_cells hrw hs
    refine ⟨news, by simp [Builtin.lenOf], by simp [Builtin.lenOf], run_first w _ _ _ _ _ news n1 (fun j hj => ?_), run_first w.drew _ _ _ _ _ news n1 (fun j hj => ?_), n3, n1, n4⟩
    · rw [cell_of_block hc]; exact n2 j hj
    · rw [World.cell?_drew, cell_of_block hc]; exact n2 j hj
  have nil : ∀ a cap, ys = [] → ∃ news, Brings P g w s.size (.slice a 0 cap) s ys news := by
    intro a cap hy
    subst hy
    refine ⟨[], by simp [Builtin.lenOf], by simp [Builtin.lenOf], ?_, ?_, fun i hi => by simp at hi, by simp, by simp⟩ <;>
      cases a <;> simp [Builtin.firstCells, loadCells, loadCellsFrom]
  unfold rowsOf at h
  split at h
  · obtain rfl := Option.some.inj h
    obtain rfl : vx = .slice none 0 0 := hx
    exact nil none 0 rfl
  · rename_i s' y
    split at h
    · rename_i he
      subst he
      obtain rfl := Option.some.inj h
      obtain ⟨⟨a, cap, hv, hcap, hrow⟩, _⟩ := hx
      obtain rfl := (List.cons.inj hv).1
      rcases hrow with rfl | ⟨_, b, o, c, el, fr, rfl, hfz, hrows⟩
      · exact nil a cap rfl
      · exact mk b o c el fr cap _ (hr.fz _ _ hfz) rfl hrows
    · simp at h
  · rename_i id'
    split at h
    · rename_i s' xs hl
      split at h
      · rename_i he
        subst he
        obtain rfl := Option.some.inj h
        obtain ⟨hd, a, cap, rfl, hcap, hrow⟩ := hx
        obtain ⟨_, hsz, hlen, hob⟩ := hr.obj _ _ hl
        rcases hob with ⟨hb, rfl⟩ | ⟨c, e, fr, hc, _, hcs, hfit, hrows⟩
        · rw [hlen]; exact nil a cap rfl
        · rcases hrow with rfl | ⟨rfl, _⟩
          · have : xs = [] := List.eq_nil_of_length_eq_zero (by omega)
            subst this
            rw [hlen]; exact nil a 0 rfl
          · exact mk _ 0 c e fr cap _ hc hlen.symm hrows
      · simp at h
    · rename_i s' xs hl
      split at h
      · rename_i he
        subst he
        obtain rfl := Option.some.inj h
        obtain ⟨hd, a, cap, rfl, hcap, hrow⟩ := hx
        obtain ⟨_, hsz, hlen, hob⟩ := hr.obj _ _ hl
        rcases hob with ⟨hb, rfl⟩ | ⟨c, e, fr, hc, hcs, hfit, hrows⟩
        · rw [hlen]; exact nil a cap rfl
        · rcases hrow with rfl | ⟨rfl, _⟩
          · have : xs = [] := List.eq_nil_of_length_eq_zero (by omega)
            subst this
            rw [hlen]; exact nil a 0 rfl
          · exact mk _ 0 c e fr cap _ hc hlen.symm hrows
      · simp at h
    · simp at h
  · rename_i id' lo n
    have sub : ∀ (xs : List (El s)) (c : Array Value), RowsR g.fz s xs c 0 → lo + n ≤ xs.length → RowsR g.fz s ((xs.drop lo).take n) c (lo * s.size) ∧ ((xs.drop lo).take n).length = n := by
      intro xs c hrw hln
      have hl : ((xs.drop lo).take n).length = n := by simp; omega
      refine ⟨fun i hi => ?_, hl⟩
      rw [hl] at hi
      obtain ⟨row, r1, r2, r3⟩ := hrw (lo + i) (by omega)
      refine ⟨row, r1, ?_, by rw [getD_drop_take _ _ _ _ _ hi]; exact r3⟩
      rw [Nat.zero_add, Nat.add_mul] at r2; exact r2
    split at h
    · rename_i s' xs hl
      split at h
      · rename_i he
        subst he
        obtain rfl := Option.some.inj h
        obtain ⟨hd, a, cap, rfl, hcap, hlo, hrow⟩ := hx
        obtain ⟨_, hsz, hlen, hob⟩ := hr.obj _ _ hl
        show ∃ news, Brings P g w s'.size (.slice a n cap) s' ((xs.drop lo).take n) news
        rcases hob with ⟨hb, rfl⟩ | ⟨c, e, fr, hc, _, hcs, hfit, hrows⟩
        · have : n = 0 := by simp at hlen; omega
          subst this; exact nil a cap (by simp [castL])
        · obtain ⟨q1, q2⟩ := sub xs c hrows (by omega)
          rcases hrow with rfl | ⟨rfl, _⟩
          · have : n = 0 := by omega
            subst this; exact nil a 0 (by simp [castL])
          · rw [hsz]; exact mk _ _ c e fr cap _ hc q2 q1
      · simp at h
    · rename_i s' xs hl
      split at h
      · rename_i he
        subst he
        obtain rfl := Option.some.inj h
        obtain ⟨hd, a, cap, rfl, hcap, hlo, hrow⟩ := hx
        obtain ⟨_, hsz, hlen, hob⟩ := hr.obj _ _ hl
        show ∃ news, Brings P g w s'.size (.slice a n cap) s' ((xs.drop lo).take n) news
        rcases hob with ⟨hb, rfl⟩ | ⟨c, e, fr, hc, hcs, hfit, hrows⟩
        · have : n = 0 := by simp at hlen; omega
          subst this; exact nil a cap (by simp [castL])
        · obtain ⟨q1, q2⟩ := sub xs c hrows (by omega)
          rcases hrow with rfl | ⟨rfl, _⟩
          · have : n = 0 := by omega
            subst this; exact nil a 0 (by simp [castL])
          · rw [hsz]; exact mk _ _ c e fr cap _ hc q2 q1
      · simp at h
    · simp at h
  · simp at h

theorem string_brings (z : ByteArray) : ∃ news, Brings P g w 1 (.string z) (.int .u8) (bytesRows z) news := by
  have hlen : (bytesRows z).length = z.size := by
    have : (bytesI z).length = z.size := by simp [bytesI]
    exact this
  have hf : ∀ w' : World, (Builtin.firstCells 1 (bytesRows z).length (.string z)).run P w' = .ok (z.data.map fun b => (.int .u8 b.toNat : Value)) w' := by
    intro w'
    simp only [Builtin.firstCells, hlen, Sem.run_pure]
    congr 2
    simp
  refine ⟨(z.data.toList.map fun b => (.int .u8 b.toNat : Value)), by simp [Builtin.lenOf, hlen], by simp [Builtin.lenOf, hlen], by rw [hf]; congr 1; apply Array.ext'; simp, by rw [hf]; congr 1; apply Array.ext'; simp, fun i hi => ?_, by simp [hlen, Sh.size], ?_⟩
  · rw [hlen] at hi
    have hi' : i < z.data.size := hi
    refine ⟨[.int .u8 (z.data[i].toNat)], rfl, fun j hj => ?_, ?_⟩
    · simp at hj; subst hj
      simp [Sh.size, Array.getElem?_eq_getElem hi']
    · show [Value.int .u8 (z.data[i].toNat : Int)] = [Value.int .u8 ((bytesRows z).getD i (El.dflt (.int .u8)))]
      have : (bytesRows z).getD i (El.dflt (.int .u8)) = (z.data[i].toNat : Int) := by
        have : List.getD (α := Int) (bytesI z) i 0 = (z.data[i].toNat : Int) := by
          simp only [bytesI, List.getD, List.getElem?_map, Array.getElem?_toList, Array.getElem?_eq_getElem hi']
          rfl
        exact this
      rw [this]
  · intro v hv
    simp at hv
    obtain ⟨b, _, rfl⟩ := hv
    rfl

theorem Rel.toOld (h : Rel G g w0 O w) {j : Nat} {s : Sh} {xs : List (El s)} (hl : look O j = some (.rows s xs)) : Rel G g w0 (setAt O j (.old s xs)) w := by
  have lk : ∀ i x, look (setAt O j (.old s xs)) i = some x → (i = j ∧ x = .old s xs) ∨ (i ≠ j ∧ look O i = some x) := fun i x hi => by
    rw [look_setAt] at hi
    by_cases e : j = i
    · subst e; simp [hl] at hi; exact .inl ⟨rfl, hi.symm⟩
    · simp [e] at hi; exact .inr ⟨fun e' => e e'.symm, hi⟩
  refine ⟨h.below, h.fz, ?_, ?_, ?_, ?_, h.glob⟩
  · intro i x hi
    rcases lk i x hi with ⟨rfl, _⟩ | ⟨_, hi⟩
    · exact h.dom _ _ hl
    · exact h.dom _ _ hi
  · intro i x hi hx hb
    rcases lk i x hi with ⟨rfl, _⟩ | ⟨_, hi⟩
    · exact h.blk _ _ hl rfl hb
    · exact h.blk _ _ hi hx hb
  · intro i x hi
    rcases lk i x hi with ⟨rfl, rfl⟩ | ⟨_, hi⟩
    · obtain ⟨h0, h1, h2, h3⟩ := h.obj _ _ hl
      exact ⟨h0, h1, h2, h3.imp id fun ⟨c, e, fr, a, _, b, d, k⟩ => ⟨c, e, fr, a, b, d, k⟩⟩
    · exact h.obj _ _ hi
  · intro i oi k ok hik hi hk
    rcases lk i oi hi with ⟨rfl, rfl⟩ | ⟨hi1, hi2⟩
    · exact ⟨fun e => by simp [AObj.excl] at e, fun e => by simp [AObj.excl] at e⟩
    · rcases lk k ok hk with ⟨rfl, rfl⟩ | ⟨hk1, hk2⟩
      · have s := h.sep i oi k _ hik hi2 hl
        exact ⟨fun _ e => by simp [AObj.excl] at e, fun e _ b1 b2 he => absurd he (s.both e rfl b1 b2)⟩
      · exact h.sep i oi k ok hik hi2 hk2

/-- A slice grows within its array: a new object for the longer one; the shorter one has become an old slice. -/
theorem Rel.extend (h : Rel G g w0 O w) {id j : Nat} (hid : ¬ g.dom id) {s : Sh} {xs ys : List (El s)} (hl : look O j = some (.rows s xs)) {c : Array Value} {e : TypeId} {fr : Nat × Nat}
    (hc : w.heap[g.ρ j]? = some (.cells c e fr)) (hb : 0 < g.bs j) {news : List Value} (hn : news.length = ys.length * s.size) (hrows : RowsR g.fz s ys news.toArray 0) (hfit : (xs.length + ys.length) * s.size ≤ c.size) :
    Rel G (g.ext id (g.ρ j) (xs ++ ys).length s.size (g.bs j)) w0 ((id, .rows s (xs ++ ys)) :: setAt O j (.old s xs)) (w.setCells (g.ρ j) (xs.length * s.size) news) := by
  have le := Gm.ext_le (ρ := g.ρ j) (len := (xs ++ ys).length) (sz := s.size) (bs := g.bs j) hid
  have hjd := h.dom _ _ hl
  have hij : id ≠ j := fun e => hid (e ▸ hjd)
  obtain ⟨hB, hlt, hfzj⟩ := h.blk _ _ hl rfl hb
  obtain ⟨s0, s1, s2, s3⟩ := h.obj _ _ hl
  have hfit' : xs.length * s.size + news.length ≤ c.size := by rw [hn, ← Nat.add_mul]; exact hfit
  obtain ⟨c', e', fr', hc', hth, hcs, hxfit, hxr⟩ : ∃ c' e' fr', w.heap[g.ρ j]? = some (.cells c' e' fr') ∧ Thawed fr' c'.size ∧ c'.size = g.bs j ∧ xs.length * s.size ≤ c'.size ∧ RowsR g.fz s xs c' 0 := by
    rcases s3 with ⟨hz, _⟩ | hx
    · omega
    · exact hx
  rw [hc] at hc'
  simp only [Option.some.injEq, Obj.cells.injEq] at hc'
  obtain ⟨rfl, rfl, rfl⟩ := hc'
  have hw := heap_setCells (g.ρ j) e fr news (xs.length * s.size) w c hc hfit'
  have hne : ∀ b, b ≠ g.ρ j → (w.setCells (g.ρ j) (xs.length * s.size) news).heap[b]? = w.heap[b]? := fun b hb => heap_setCells_ne _ _ hb _ _ _
  have hsz : (putL c.toList (xs.length * s.size) news).toArray.size = c.size := by simpa using putL_length (l := c.toList) (by simpa using hfit')
  -- cells ahead of the place written are as they were
  have ahead : ∀ k, k < xs.length * s.size → (putL c.toList (xs.length * s.size) news).toArray[k]? = c[k]? := fun k hk => by
    rw [List.getElem?_toArray, getElem?_putL (by simpa using hfit'), if_pos hk, Array.getElem?_toList]
  have keepRows : ∀ (s' : Sh) (zs : List (El s')), zs.length * s'.size ≤ xs.length * s.size → RowsR g.fz s' zs c 0 → RowsR g.fz s' zs (putL c.toList (xs.length * s.size) news).toArray 0 := by
    intro s' zs hle hr i hi
    obtain ⟨row, r1, r2, r3⟩ := hr i hi
    refine ⟨row, r1, fun k hk => ?_, r3⟩
    have e1 : (i + 1) * s'.size ≤ zs.length * s'.size := Nat.mul_le_mul_right _ hi
    rw [Nat.add_mul, Nat.one_mul] at e1
    rw [ahead _ (by omega)]
    exact r2 k hk
  have lk : ∀ i x, look ((id, AObj.rows s (xs ++ ys)) :: setAt O j (.old s xs)) i = some x → (i = id ∧ x = .rows s (xs ++ ys)) ∨ (i = j ∧ x = .old s xs) ∨ (i ≠ id ∧ i ≠ j ∧ look O i = some x) := fun i x hi => by
    rw [look_cons] at hi
    by_cases e1 : id = i
    · subst e1; simp at hi; exact .inl ⟨rfl, hi.symm⟩
    · simp only [e1, if_false, look_setAt] at hi
      by_cases e2 : j = i
      · subst e2; simp [hl] at hi; exact .inr (.inl ⟨rfl, hi.symm⟩)
      · simp [e2] at hi; exact .inr (.inr ⟨fun e => e1 e.symm, fun e => e2 e.symm, hi⟩)
  have nid : ∀ i x, look O i = some x → i ≠ id := fun i x hi e => hid (e ▸ h.dom i x hi)
  have jρ : (g.ext id (g.ρ j) (xs ++ ys).length s.size (g.bs j)).ρ j = g.ρ j := le.ρ j hjd
  refine ⟨h.below.trans (below_setCells _ hB _ _ _), fun b x hb' => ?_, ?_, ?_, ?_, ?_, ?_⟩
  · rw [hne b (fun e => by subst e; rw [Gm.ext_fz, hfzj] at hb'; simp at hb')]; exact h.fz b x hb'
  · intro i x hi
    rcases lk i x hi with ⟨rfl, _⟩ | ⟨rfl, _⟩ | ⟨_, _, hi⟩
    · exact .inr rfl
    · exact .inl hjd
    · exact .inl (h.dom i x hi)
  · intro i x hi hx hbb
    rw [size_setCells]
    rcases lk i x hi with ⟨rfl, _⟩ | ⟨rfl, _⟩ | ⟨_, _, hi⟩
    · simpa using ⟨hB, hlt, hfzj⟩
    · rw [le.ρ _ hjd]; exact ⟨hB, hlt, hfzj⟩
    · rw [le.bs _ (h.dom i x hi)] at hbb
      rw [le.ρ _ (h.dom i x hi)]; exact h.blk i x hi hx hbb
  · intro i x hi
    rcases lk i x hi with ⟨rfl, rfl⟩ | ⟨rfl, rfl⟩ | ⟨hi1, hi2, hi⟩
    · refine ⟨s0, by simp, by simp, .inr ⟨_, e, fr, by rw [Gm.ext_ρ]; exact hw, by rw [hsz]; exact hth, by rw [hsz]; simpa using hcs, by rw [hsz, List.length_append]; exact hfit, ?_⟩⟩
      intro i' hi'
      rw [List.length_append] at hi'
      by_cases hlt' : i' < xs.length
      · obtain ⟨row, r1, r2, r3⟩ := keepRows s xs (Nat.le_refl _) hxr i' hlt'
        refine ⟨row, r1, r2, ?_⟩
        have : (xs ++ ys).getD i' (El.dflt s) = xs.getD i' (El.dflt s) := by simp [List.getD, List.getElem?_append_left hlt']
        rw [this]; exact r3
      · obtain ⟨row, r1, r2, r3⟩ := hrows (i' - xs.length) (by omega)
        refine ⟨row, r1, fun k hk => ?_, ?_⟩
        · have e1 : (i' - xs.length + 1) * s.size ≤ ys.length * s.size := Nat.mul_le_mul_right _ (by omega)
          rw [Nat.add_mul, Nat.one_mul] at e1
          have e2 : i' * s.size = xs.length * s.size + (i' - xs.length) * s.size := by rw [← Nat.add_mul]; congr 1; omega
          have q := r2 k hk
          rw [List.getElem?_toArray] at q
          rw [List.getElem?_toArray, getElem?_putL (by simpa using hfit')]
          rw [r1] at hk
          rw [if_neg (by omega), if_pos (by omega), ← q]
          congr 1; omega
        · have : (xs ++ ys).getD i' (El.dflt s) = ys.getD (i' - xs.length) (El.dflt s) := by simp [List.getD, List.getElem?_append_right (Nat.le_of_not_lt hlt')]
          rw [this]; exact r3
    · refine ⟨s0, by rw [le.sz _ hjd]; exact s1, by rw [le.len _ hjd]; exact s2, .inr ⟨_, e, fr, by rw [le.ρ _ hjd]; exact hw, by rw [hsz, le.bs _ hjd]; exact hcs, by rw [hsz]; exact hxfit, keepRows s xs (Nat.le_refl _) hxr⟩⟩
    · have hio := h.obj i x hi
      by_cases hρ : g.ρ i = g.ρ j
      · -- an old slice in the same array, or an object without cells of its own
        cases hxo : x.isOld with
        | true =>
          cases x with
          | old s' zs =>
            obtain ⟨q0, q1, q2, q3⟩ := hio
            have hid' := h.dom _ _ hi
            refine ⟨q0, by rw [le.sz _ hid']; exact q1, by rw [le.len _ hid']; exact q2, ?_⟩
            rcases q3 with ⟨z1, z2⟩ | ⟨c2, e2, fr2, z1, z2, z3, z4⟩
            · exact .inl ⟨by rw [le.bs _ hid']; exact z1, z2⟩
            · rw [hρ, hc] at z1
              simp only [Option.some.injEq, Obj.cells.injEq] at z1
              obtain ⟨rfl, rfl, rfl⟩ := z1
              by_cases hbi : 0 < g.bs i
              · obtain ⟨_, t1, t2⟩ := (h.sep j _ i _ (fun e => hi2 e.symm) hl hi).old rfl rfl hb hbi hρ.symm
                right
                refine ⟨_, e, fr, by rw [le.ρ _ hid', hρ]; exact hw, by rw [hsz, le.bs _ hid']; exact z2, by rw [hsz]; exact z3, keepRows s' zs ?_ z4⟩
                rw [← q1, ← s1, ← q2, ← s2, t1]; exact Nat.mul_le_mul_right _ t2
              · left
                refine ⟨by rw [le.bs _ hid']; omega, ?_⟩
                have : zs.length * s'.size = 0 := by omega
                rcases Nat.mul_eq_zero.1 this with q | q
                · exact List.eq_nil_of_length_eq_zero q
                · omega
          | _ => simp [AObj.isOld] at hxo
        | false =>
          refine hio.keep le (h.dom _ _ hi) (fun y hy hxy hor => ?_)
          rcases hor with hpos | ⟨ee, rfl⟩
          · exfalso
            simp [hxo] at hxy
            exact (h.sep i x j _ hi2 hi hl).both hxy rfl hpos hb hρ
          · exfalso
            rw [hρ, hc] at hy
            simp only [Option.some.injEq, Obj.cells.injEq] at hy
            obtain ⟨rfl, _⟩ := hy
            simp at hcs; omega
      · exact hio.keep le (h.dom _ _ hi) (fun y hy _ _ => by rw [hne _ hρ]; exact hy)
  · intro i oi k ok hik hi hk
    have dk := fun i x (hi : look O i = some x) => h.dom i x hi
    rcases lk i oi hi with ⟨rfl, rfl⟩ | ⟨rfl, rfl⟩ | ⟨hi1, hi2, hi3⟩
    · rcases lk k ok hk with ⟨rfl, rfl⟩ | ⟨rfl, rfl⟩ | ⟨hk1, hk2, hk3⟩
      · exact absurd rfl hik
      · refine ⟨fun _ e => by simp [AObj.excl] at e, fun _ _ _ _ _ => ⟨rfl, ?_, ?_⟩⟩
        · rw [Gm.ext_sz, le.sz _ hjd]; exact s1.symm
        · rw [Gm.ext_len, le.len _ hjd, s2]; simp
      · have sp := h.sep j _ k ok (fun e => hk2 e.symm) hl hk3
        have hkd := dk _ _ hk3
        constructor
        · intro _ e b1 b2 he
          rw [Gm.ext_ρ, le.ρ _ hkd] at he
          rw [le.bs _ hkd] at b2
          exact sp.both rfl e hb b2 he
        · intro _ e b1 b2 he
          rw [Gm.ext_ρ, le.ρ _ hkd] at he
          rw [le.bs _ hkd] at b2
          obtain ⟨_, t1, t2⟩ := sp.old rfl e hb b2 he
          refine ⟨rfl, ?_, ?_⟩
          · rw [Gm.ext_sz, le.sz _ hkd, ← t1]; exact s1.symm
          · rw [Gm.ext_len, le.len _ hkd]; rw [s2] at t2; simp; omega
    · exact ⟨fun e => by simp [AObj.excl] at e, fun e => by simp [AObj.excl] at e⟩
    · have hid' := dk _ _ hi3
      rcases lk k ok hk with ⟨rfl, rfl⟩ | ⟨rfl, rfl⟩ | ⟨hk1, hk2, hk3⟩
      · have sp := h.sep i oi j _ hi2 hi3 hl
        constructor
        · intro e _ b1 b2 he
          rw [Gm.ext_ρ, le.ρ _ hid'] at he
          rw [le.bs _ hid'] at b1
          exact sp.both e rfl b1 hb he
        · intro _ e; simp [AObj.isOld] at e
      · have sp := h.sep i oi k _ hi2 hi3 hl
        constructor
        · intro _ e; simp [AObj.excl] at e
        · intro e _ b1 b2 he
          rw [le.ρ _ hid', le.ρ _ hjd] at he
          rw [le.bs _ hid'] at b1
          exact absurd he (sp.both e rfl b1 hb)
      · exact (h.sep i oi k ok hik hi3 hk3).keep le hid' (dk _ _ hk3)
  · intro n cs hn
    obtain ⟨c, e, fr, h1, h2⟩ := h.glob n cs hn
    exact ⟨c, e, fr, h1, h2.mono fun _ _ => CellR.mono le⟩
end
end Go.Ab

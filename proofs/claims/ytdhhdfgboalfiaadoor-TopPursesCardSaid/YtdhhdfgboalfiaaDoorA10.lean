/- Soundness of append, conversions and maps; all operations together. -/
import Derived.Test.YtdhhdfgboalfiaaDoorA9
set_option linter.unusedVariables false
set_option linter.unusedSimpArgs false
namespace Go.Ab
open Go.RowKit

section
variable {P : Program} {G : Nat → Option (List Cell)} {g : Gm} {w0 w : World} {O : Objs} {id : Nat} {R : Type} {r : R}

theorem run_append_in {t u ty e : Nat} {i : TypeInfo} (ht : P.underlying t = some (.slice e)) {du : TypeDesc} (hu : P.underlying u = some du) (hdu : (∃ e', du = .slice e') ∨ du = .string) (hi : P.info? e = some i)
    {s : Sh} {ys : List (El s)} {x : Value} {news : List Value} (hb : Brings P g w i.size x s ys news) (b o n cap : Nat) (hroom : n + ys.length ≤ cap)
    (hc : ∀ j, j < news.length → (w.cell? ⟨b, o + n * i.size + j, none⟩).isSome = true) (hf : ∀ j, j < news.length → w.frozen? ⟨b, o + n * i.size + j, none⟩ = false) :
    (Builtin.append_ #[t, u] ty #[.slice (some ⟨b, o, none⟩) n cap, x]).run P w = .ok (.slice (some ⟨b, o, none⟩) (n + ys.length) cap) (w.setCells b (o + n * i.size) news) := by
  have hst := run_storeCells_cells (P := P) b (o + n * i.size) news 0 w (by simpa using hc) (by simpa using hf) hb.one
  have h1 := hb.len
  have h2 := hb.cells
  simp only [Nat.add_zero] at hst
  rcases hdu with ⟨e', rfl⟩ | rfl
  · simp [Builtin.append_, run_underlying ht, run_underlying hu, sizeOf, typeInfo, hi, h1, hroom, h2, add_eq, hst]
  · simp [Builtin.append_, run_underlying ht, run_underlying hu, sizeOf, typeInfo, hi, h1, hroom, h2, add_eq, hst]

theorem run_append_out {t u ty e : Nat} {i : TypeInfo} {z : Value} (ht : P.underlying t = some (.slice e)) {du : TypeDesc} (hu : P.underlying u = some du) (hdu : (∃ e', du = .slice e') ∨ du = .string) (hi : P.info? e = some i) (hz : i.zero = some z)
    {s : Sh} {ys : List (El s)} {x : Value} {news : List Value} (hb : Brings P g w i.size x s ys news) (base : Option Addr) (n cap : Nat) {olds : List Value}
    (ho : (Builtin.firstCells i.size n (.slice base n cap)).run P w.drew = .ok olds.toArray w.drew) (hg : cap < n + ys.length) (h63 : n + ys.length ≤ 9223372036854775807)
    (hfit : Builtin.nextslicecap (n + ys.length) cap * i.bytes ≤ 281474976710656) :
    (Builtin.append_ #[t, u] ty #[.slice base n cap, x]).run P w =
      .ok (.slice (some ⟨w.heap.size, 0, none⟩) (n + ys.length) (grownCap w (n + ys.length) cap e))
        (w.drew.alloc (.cells (olds.toArray ++ news.toArray ++ Builtin.zeroCells z.cells (grownCap w (n + ys.length) cap e - (n + ys.length))) e)) := by
  have h1 := hb.len
  have h2 := hb.cells'
  have hn : ¬ (n + ys.length ≤ cap) := by omega
  have h63' : ¬ (9223372036854775807 < ((n : Int) + (ys.length : Int))) := by omega
  have h48' : ¬ (281474976710656 < Builtin.nextslicecap (n + ys.length) cap * i.bytes) := by omega
  rcases hdu with ⟨e', rfl⟩ | rfl
  · simp [Builtin.append_, run_underlying ht, run_underlying hu, sizeOf, typeInfo, zeroValue, hi, hz, h1, hn, h63', h48', Question.forced, h2, ho, newRow, grownCap]
    congr 2; apply Array.ext'; simp [List.append_assoc]
  · simp [Builtin.append_, run_underlying ht, run_underlying hu, sizeOf, typeInfo, zeroValue, hi, hz, h1, hn, h63', h48', Question.forced, h2, ho, newRow, grownCap]
    congr 2; apply Array.ext'; simp [List.append_assoc]

theorem RowsR.mono_le {f : Nat → Option Obj} {s : Sh} {xs ys : List (El s)} {c : Array Value} {a b : List Value} (ha : a.length = xs.length * s.size) (hx : RowsR f s xs a.toArray 0) (hy : RowsR f s ys b.toArray 0) (hb : b.length = ys.length * s.size) (rest : Array Value) :
    RowsR f s (xs ++ ys) (a.toArray ++ b.toArray ++ rest) 0 := by
  intro i hi
  rw [List.length_append] at hi
  by_cases h : i < xs.length
  · obtain ⟨row, r1, r2, r3⟩ := hx i h
    have e1 : (i + 1) * s.size ≤ xs.length * s.size := Nat.mul_le_mul_right _ h
    rw [Nat.add_mul, Nat.one_mul] at e1
    refine ⟨row, r1, fun k hk => ?_, ?_⟩
    · rw [Array.append_assoc, Array.getElem?_append_left (by simp; omega)]; exact r2 k hk
    · have : (xs ++ ys).getD i (El.dflt s) = xs.getD i (El.dflt s) := by simp [List.getD, List.getElem?_append_left h]
      rw [this]; exact r3
  · obtain ⟨row, r1, r2, r3⟩ := hy (i - xs.length) (by omega)
    have e1 : (i - xs.length + 1) * s.size ≤ ys.length * s.size := Nat.mul_le_mul_right _ (by omega)
    rw [Nat.add_mul, Nat.one_mul] at e1
    have e2 : i * s.size = xs.length * s.size + (i - xs.length) * s.size := by rw [← Nat.add_mul]; congr 1; omega
    refine ⟨row, r1, fun k hk => ?_, ?_⟩
    · rw [r1] at hk
      rw [Array.append_assoc, Array.getElem?_append_right (by simp; omega), Array.getElem?_append_left (by simp; omega)]
      rw [← r2 k (by omega)]
      congr 1; simp; omega
    · have : (xs ++ ys).getD i (El.dflt s) = ys.getD (i - xs.length) (El.dflt s) := by simp [List.getD, List.getElem?_append_right (Nat.le_of_not_lt h)]
      rw [this]; exact r3

theorem appendA_sound (hr : Rel G g w0 O w) (hid : ¬ g.dom id) {t u ty e : Nat} (ht : tkOf P t = .slice e) {du : TypeDesc} (hu : P.underlying u = some du) (hdu : (∃ e', du = .slice e') ∨ du = .string) {s : Sh}
    (c1 : P.cellsOf e = s.size) {z : List Cell} (hz : zeroOf P e = some z) (c2 : z.length = s.size) (c3 : 0 < s.size) (c4 : Nat.ble (P.bytesOf e) 128 = true)
    {x : A0} {ys : List (El s)} {κ : AV → Objs → Option R} (h : appendA O id t x s ys κ = some r) {vx vy : Value} (hx : A0R g x vx) {news : List Value} (hb : Brings P g w s.size vy s ys news) :
    ∃ v O', κ v O' = some r ∧ Ok P G g w0 w id (do pure (.value (← Builtin.append_ #[t, u] ty #[vx, vy]))) v O' := by
  obtain ⟨it, zv, hit, hzv, hzc⟩ := zeroOf_sound (g := g) hz
  have hzl : zv.cells.size = s.size := by have := hzc.length; simp at this; omega
  have hby := bytes_le hit c4
  have hsz : it.size = s.size := by rw [← c1]; simp [Program.cellsOf, hit]
  have hb' : Brings P g w it.size vy s ys news := by rw [hsz]; exact hb
  have hut := tkOf_slice ht
  -- the array grows
  have grow : ∀ (base : Option Addr) (n cap : Nat) (xs : List (El s)) (olds : List Value) (O1 : Objs), Rel G g w0 O1 w → xs.length = n → olds.length = xs.length * s.size → RowsR g.fz s xs olds.toArray 0 →
      (Builtin.firstCells it.size n (.slice base n cap)).run P w.drew = .ok olds.toArray w.drew → cap < n + ys.length → n + ys.length ≤ rowLimit →
      Ok P G g w0 w id (do pure (.value (← Builtin.append_ #[t, u] ty #[.slice base n cap, vy]))) (.c (.a (.slw id))) ((id, .rows s (xs ++ ys)) :: O1) := by
    intro base n cap xs olds O1 hr1 hn ho hrows hfirst hcap hlim
    subst hn
    have hlim' : xs.length + ys.length ≤ 1099511627776 := hlim
    have hbytes : (xs.length + ys.length) * it.bytes ≤ 140737488355328 := by
      have := Nat.mul_le_mul hlim' hby; omega
    have hrun := run_append_out (P := P) (ty := ty) hut hu hdu hit hzv hb' base xs.length cap hfirst hcap (by omega) (growslice_fits hcap hbytes)
    have hge := grownCap_ge w (xs.length + ys.length) cap e
    have hsize : (olds.toArray ++ news.toArray ++ Builtin.zeroCells zv.cells (grownCap w (xs.length + ys.length) cap e - (xs.length + ys.length))).size = grownCap w (xs.length + ys.length) cap e * s.size := by
      simp only [Array.size_append, List.size_toArray, size_zeroCells, hzl, ho, hb.size, ← Nat.add_mul]
      congr 1; omega
    obtain ⟨g', g1, g2, g3, g4⟩ := newRows_sound hr1.drew hid c3 (xs := xs ++ ys) (cap := grownCap w (xs.length + ys.length) cap e) (RowsR.mono_le (c := #[]) ho hrows hb.rows hb.size _)
      (by rw [hsize, List.length_append]; exact Nat.mul_le_mul_right _ hge) (by rw [List.length_append]; exact hge) (by rw [hsize]; exact Nat.le_refl _) e
    rw [List.length_append] at g3
    exact ⟨_, _, _, g', by simp only [Sem.run_bind, hrun, Result.andThen_ok, Sem.run_pure]; rfl, .inl rfl, g1, g2, g3, g4⟩
  -- nothing there and nothing added
  have none0 : ∀ (base : Option Addr) (O1 : Objs) (xs : List (El s)), Rel G g w0 O1 w → xs = [] → ys = [] →
      Ok P G g w0 w id (do pure (.value (← Builtin.append_ #[t, u] ty #[.slice base 0 0, vy]))) (.c (.a (.slw id))) ((id, .rows s (xs ++ ys)) :: O1) := by
    intro base O1 xs hr1 hx0 hy0
    subst hx0; subst hy0
    have hnews : news = [] := List.eq_nil_of_length_eq_zero (by have := hb.size; simpa using this)
    subst hnews
    have hl : (Builtin.lenOf vy).run P w = .ok 0 w := hb'.len
    have hc : (Builtin.firstCells it.size 0 vy).run P w = .ok #[] w := hb'.cells
    have hrun : (Builtin.append_ #[t, u] ty #[.slice base 0 0, vy]).run P w = .ok (.slice base 0 0) w := by
      rcases hdu with ⟨e', rfl⟩ | rfl <;> cases base <;> simp [Builtin.append_, run_underlying hut, run_underlying hu, sizeOf, typeInfo, hit, hl, hc, storeCells]
    have le := Gm.ext_le (ρ := w.heap.size) (len := 0) (sz := s.size) (bs := 0) hid
    refine ⟨.value (.slice base 0 0), w, .slice base 0 0, g.ext id w.heap.size 0 s.size 0, by simp only [Sem.run_bind, hrun, Result.andThen_ok, Sem.run_pure], .inl rfl, le, fun i hi => hi, ⟨.inr rfl, base, 0, by simp, by simp, .inl rfl⟩, ?_⟩
    exact hr1.noBlock hid _ _ _ ⟨c3, by simp, by simp, .inl ⟨by simp, rfl⟩⟩
  unfold appendA at h
  split at h
  · obtain rfl : vx = .slice none 0 0 := hx
    obtain ⟨hlim, h⟩ := cond_true' h
    have hlim' : ys.length ≤ rowLimit := by simpa using hlim
    refine ⟨_, _, h, ?_⟩
    by_cases hy : ys.length = 0
    · exact none0 none O [] hr rfl (List.eq_nil_of_length_eq_zero hy)
    · exact grow none 0 0 [] [] O hr rfl (by simp) (fun i hi => by simp at hi) (by simp [Builtin.firstCells]) (by omega) (by omega)
  · rename_i j
    split at h
    · rename_i s' xs hl
      split at h
      · rename_i he
        subst he
        obtain ⟨hlim, h⟩ := cond_true' h
        have hlim' : xs.length + ys.length ≤ rowLimit := by
          have : (joined rfl xs ys).length ≤ rowLimit := by simpa using hlim
          simpa [joined, castL] using this
        refine ⟨_, _, h, ?_⟩
        show Ok P G g w0 w id _ _ ((id, .rows s' (xs ++ ys)) :: setAt O j (.old s' xs))
        obtain ⟨hd, a, cap, rfl, hcap, hrow⟩ := hx
        obtain ⟨q0, q1, q2, q3⟩ := hr.obj _ _ hl
        rw [q2] at hcap ⊢
        by_cases hroom : xs.length + ys.length ≤ cap
        · rcases hrow with rfl | ⟨rfl, hcb⟩
          · have hx0 : xs.length = 0 := by omega
            rw [hx0]
            exact none0 a _ xs (hr.toOld hl) (List.eq_nil_of_length_eq_zero hx0) (List.eq_nil_of_length_eq_zero (by omega))
          · rw [q1] at hcb
            rcases q3 with ⟨b0, _⟩ | ⟨c, el, fr, hc, hth, hcs, hxf, hxr⟩
            · have : cap * s'.size = 0 := by omega
              rcases Nat.mul_eq_zero.1 this with hh | hh
              · have hx0 : xs.length = 0 := by omega
                rw [hx0, hh]
                exact none0 _ _ xs (hr.toOld hl) (List.eq_nil_of_length_eq_zero hx0) (List.eq_nil_of_length_eq_zero (by omega))
              · omega
            · by_cases hbs : 0 < g.bs j
              · have hfit : (xs.length + ys.length) * s'.size ≤ c.size := by
                  have := Nat.mul_le_mul_right s'.size hroom; omega
                have hnl := hb.size
                have e3 : (xs.length + ys.length) * s'.size = xs.length * s'.size + ys.length * s'.size := Nat.add_mul _ _ _
                have hrun := run_append_in (P := P) (ty := ty) hut hu hdu hit hb' (g.ρ j) 0 xs.length cap hroom
                  (fun k hk => by rw [hsz, cell_of_block hc, Array.getElem?_eq_getElem (by omega)]; rfl)
                  (fun k hk => by rw [hsz]; simp only [World.frozen?, hc]; exact hth _ (by omega))
                have hext := hr.extend hid hl hc hbs hb.size hb.rows hfit
                rw [hsz, Nat.zero_add] at hrun
                refine ⟨.value (.slice (some ⟨g.ρ j, 0, none⟩) (xs.length + ys.length) cap), _, .slice (some ⟨g.ρ j, 0, none⟩) (xs.length + ys.length) cap, _, by simp only [Sem.run_bind, hrun, Result.andThen_ok, Sem.run_pure], .inl rfl, Gm.ext_le hid, fun i hi => hi, ?_, hext⟩
                exact ⟨.inr rfl, some ⟨g.ρ j, 0, none⟩, cap, by simp, by simpa using hroom, .inr ⟨by simp, by simpa using hcb⟩⟩
              · have : xs.length * s'.size = 0 := by omega
                have hx0 : xs.length = 0 := by rcases Nat.mul_eq_zero.1 this with hh | hh <;> omega
                have : cap * s'.size = 0 := by omega
                have hc0 : cap = 0 := by rcases Nat.mul_eq_zero.1 this with hh | hh <;> omega
                rw [hx0, hc0]
                exact none0 _ _ xs (hr.toOld hl) (List.eq_nil_of_length_eq_zero hx0) (List.eq_nil_of_length_eq_zero (by omega))
        · have hwb : ∃ news', Brings P g w s'.size (.slice a xs.length cap) s' xs news' := by
            refine rowsOf_sound hr c3 (x := .slw j) ?_ ?_
            · simp [rowsOf, hl, castL]
            · exact ⟨hd, a, cap, by rw [q2], by rw [q2]; exact hcap, hrow⟩
          obtain ⟨olds, ob⟩ := hwb
          exact grow a xs.length cap xs olds _ (hr.toOld hl) rfl ob.size ob.rows (by rw [hsz]; exact ob.cells') (by omega) hlim'
      · simp at h
    · simp at h
  · simp at h
end
end Go.Ab

/- Every operation that is no call of a Go function is sound. -/
import Derived.Test.YtdhhdfgboalfiaaDoorA10
import Derived.Laws.BytesString
set_option linter.unusedVariables false
set_option linter.unusedSimpArgs false
namespace Go.Ab
open Go.RowKit

section
variable {P : Program} {G : Nat → Option (List Cell)} {g : Gm} {w0 w : World} {O : Objs} {id : Nat} {R : Type} {r : R}

theorem rows_slice {s : Sh} {x : A0} {ys : List (El s)} (h : rowsOf O s x = some ys) {vx : Value} (hx : A0R g x vx) : ∃ a n cap, vx = .slice a n cap := by
  unfold rowsOf at h
  split at h
  · exact ⟨_, _, _, hx⟩
  · rename_i s' y
    split at h
    · rename_i he
      subst he
      obtain ⟨⟨a, cap, hv, _⟩, _⟩ := hx
      exact ⟨_, _, _, (List.cons.inj hv).1⟩
    · simp at h
  · obtain ⟨_, a, cap, rfl, _⟩ := hx; exact ⟨_, _, _, rfl⟩
  · obtain ⟨_, a, cap, rfl, _⟩ := hx; exact ⟨_, _, _, rfl⟩
  · simp at h

theorem push_fold : ∀ (ns : List Int) (s : ByteArray), ns.foldl (fun r n => r.push (UInt8.ofNat n.toNat)) s = ⟨s.data ++ (ns.map fun n => UInt8.ofNat n.toNat).toArray⟩
  | [], s => by cases s; simp
  | n :: ns, s => by
    rw [List.foldl_cons, push_fold ns]
    simp [ByteArray.push, Array.append_assoc]

theorem bytes_sound {b : Option Addr} {n cap : Nat} {xs : List Int} {news : List Value} (hb : Brings P g w (Sh.size (.int .u8)) (.slice b n cap) (.int .u8) xs news) :
    (Conv.bytesToString (.slice b n cap)).run P w = .ok (.string ⟨(xs.map fun n => UInt8.ofNat n.toNat).toArray⟩) w := by
  have hn : n = xs.length := by
    have := hb.len
    simp [Builtin.lenOf] at this
    exact this
  have hsz : news.length = xs.length := by
    have : news.length = xs.length * 1 := hb.size
    omega
  have hnews : news = xs.map (Value.int .u8) := by
    refine List.ext_getElem? fun i => ?_
    rcases Nat.lt_or_ge i xs.length with hi | hi
    · obtain ⟨row, r1, r2, r3⟩ := hb.rows i hi
      have r3' : row = [.int .u8 (List.getD (α := Int) xs i (0 : Int))] := r3
      have := r2 0 (by rw [r3']; simp)
      rw [r3'] at this
      simp [Sh.size] at this
      rw [this]
      simp [hi]
    · rw [List.getElem?_eq_none (by omega), List.getElem?_eq_none (by simpa using hi)]
  have hres : (⟨(xs.map fun n => UInt8.ofNat n.toNat).toArray⟩ : ByteArray) = xs.foldl (fun r n => r.push (UInt8.ofNat n.toNat)) ByteArray.empty := by
    rw [push_fold]; simp
  rw [hres]
  cases b with
  | none =>
    have := hb.cells
    simp [Builtin.firstCells] at this
    rw [this] at hsz
    have : xs = [] := List.eq_nil_of_length_eq_zero (by simpa using hsz.symm)
    subst this
    simp [Conv.bytesToString]
  | some a =>
    refine run_bytesToString w a n cap xs ?_
    have h1 : (loadCells a (xs.length * 1)).run P w = .ok news.toArray w := hb.cells
    rw [Nat.mul_one] at h1
    rw [hn, h1, hnews]

theorem convertA_sound (hr : Rel G g w0 O w) {src dst : Nat} {x : AV} {κ : AV → Objs → Option R} (h : convertA P O src dst x κ = some r) {vx : Value} (hx : AVR g x vx) :
    ∃ v, κ v O = some r ∧ Val P g w (convert src dst vx) v := by
  unfold convertA at h
  split at h
  · rename_i k1 k2 k3 n h1 h2
    obtain rfl := int_av.1 hx
    refine ⟨_, h, _, ?_, int_av.2 rfl⟩
    simp [convert, run_underlying (tkOf_int h1), run_underlying (tkOf_int h2), Conv.intToInt]
  · rename_i s h1 h2
    obtain rfl := str_av.1 hx
    refine ⟨_, h, _, ?_, str_av.2 rfl⟩
    simp [convert, run_underlying (tkOf_str h1), run_underlying (tkOf_str h2)]
  · rename_i e a h1 h2
    split at h
    · rename_i h3
      split at h
      · rename_i xs hxs
        obtain ⟨news, hb⟩ := rowsOf_sound hr (by decide) hxs hx
        obtain ⟨b, n, cap, rfl⟩ := rows_slice hxs hx
        refine ⟨_, h, _, ?_, str_av.2 rfl⟩
        rw [run_convert_bytes_string w src dst e b n cap (tkOf_slice h1) (tkOf_int h3) (tkOf_str h2)]
        exact bytes_sound (xs := xs) hb
      · simp at h
    · simp at h
  · simp at h

theorem lookupA_sound (hr : Rel G g w0 O w) {t : Nat} {m x : AV} {ok : Bool} {κ : AV → Option R} (h : lookupA P O t m x ok κ = some r) {vm vx : Value} (hm : AVR g m vm) (hx : AVR g x vx) :
    ∃ v, κ v = some r ∧ Val P g w (Instr.lookup t vm vx ok) v := by
  simp [lookupA] at h

theorem mapUpdateA_sound (hr : Rel G g w0 O w) {t : Nat} {m x y : AV} {κ : Objs → Option R} (h : mapUpdateA P O t m x y κ = some r) {vm vx vy : Value} (hm : AVR g m vm) (hx : AVR g x vx) (hy : AVR g y vy) :
    ∃ O' w', κ O' = some r ∧ (Instr.mapUpdate t vm vx vy).run P w = .ok () w' ∧ Rel G g w0 O' w' := by
  simp [mapUpdateA] at h

theorem makeSliceA_sound (hr : Rel G g w0 O w) (hid : ¬ g.dom id) {t : Nat} {l c : AV} {κ : AV → Objs → Option R} (h : makeSliceA P O id t l c κ = some r) {vl vc : Value} (hl : AVR g l vl) (hc : AVR g c vc) :
    ∃ v O', κ v O' = some r ∧ Ok P G g w0 w id (do pure (.value (← Instr.makeSlice t vl vc))) v O' := by
  unfold makeSliceA at h
  split at h
  · rename_i e k n k' m ht
    obtain rfl := int_av.1 hl
    obtain rfl := int_av.1 hc
    split at h
    · rename_i s z hs hz
      split at h
      · rename_i x h1 h2 h3 h4 h5
        exact makeA_sound hr hid ht hz h1 (Nat.eq_of_beq_eq_true h2) (Nat.eq_of_beq_eq_true h3) (blt_lt h4) h5 k k' h
      · simp at h
    · simp at h
  · simp at h

theorem lenOf_sound (hr : Rel G g w0 O w) {a : A0} {n : Nat} (h : lenOf O a = some n) {v : Value} (ha : A0R g a v) : ∃ b cap, v = .slice b n cap := by
  unfold lenOf at h
  split at h
  · obtain rfl := Option.some.inj h
    obtain rfl : v = .slice none 0 0 := ha
    exact ⟨_, _, rfl⟩
  · obtain rfl := Option.some.inj h
    obtain ⟨⟨a, cap, hv, _⟩, _⟩ := ha
    exact ⟨a, cap, (List.cons.inj hv).1⟩
  · obtain ⟨hd, a, cap, rfl, _⟩ := ha
    split at h
    · rename_i hl
      obtain rfl := Option.some.inj h
      rw [(hr.obj _ _ hl).2.2.1]; exact ⟨_, _, rfl⟩
    · rename_i hl
      obtain rfl := Option.some.inj h
      rw [(hr.obj _ _ hl).2.2.1]; exact ⟨_, _, rfl⟩
    · simp at h
  · obtain rfl := Option.some.inj h
    obtain ⟨hd, a, cap, rfl, _⟩ := ha
    exact ⟨_, _, rfl⟩
  · simp at h

theorem mapM_two {ev : Operand → Option AV} {l : List Operand} {a b : AV} (h : l.map ev = [some a, some b]) : ∃ x y, l = [x, y] ∧ ev x = some a ∧ ev y = some b := by
  rcases l with _ | ⟨x, _ | ⟨y, _ | ⟨z, l⟩⟩⟩ <;> simp at h
  exact ⟨x, y, rfl, h.1, h.2⟩
theorem map_one {ev : Operand → Option AV} {l : List Operand} {a : AV} (h : l.map ev = [some a]) : ∃ x, l = [x] ∧ ev x = some a := by
  rcases l with _ | ⟨x, _ | ⟨y, l⟩⟩ <;> simp at h
  exact ⟨x, rfl, h⟩

theorem builtinA_sound (hr : Rel G g w0 O w) (hid : ¬ g.dom id) {ev : Operand → Option AV} {ρ : Operand → Value} (hev : ∀ x v, ev x = some v → AVR g v (ρ x)) {b : Builtin} {c : Call} {ty : Nat} {κ : AV → Objs → Option R}
    (hcal : c.callee = .builtin b) (h : builtinA P O id b c.argTypes (c.args.toList.map ev) κ = some r) :
    ∃ v O', κ v O' = some r ∧ Ok P G g w0 w id (do let d ← resolve ρ c ty; invoke d.target d.args) v O' := by
  have hres : ∀ s : Sem Value, (∀ cs, builtin b c.argTypes ty cs (c.args.map ρ) = (do pure (.value (← s)))) →
      (∃ v O', κ v O' = some r ∧ Ok P G g w0 w id (do pure (.value (← s))) v O') → ∃ v O', κ v O' = some r ∧ Ok P G g w0 w id (do let d ← resolve ρ c ty; invoke d.target d.args) v O' := by
    intro s hs ⟨v, O', h1, n, w', val, g', h2, h3⟩
    refine ⟨v, O', h1, n, w', val, g', ?_, h3⟩
    rw [← h2]
    simp only [resolve, hcal, Sem.run_bind, Sem.run_pure, Result.andThen_ok, invoke]
    rw [hs]
    simp only [Sem.run_bind, Sem.run_pure]
  have pureV : ∀ (s : Sem Value) (v : AV), (∀ cs, builtin b c.argTypes ty cs (c.args.map ρ) = (do pure (.value (← s)))) → κ v O = some r → Val P g w s v →
      ∃ v O', κ v O' = some r ∧ Ok P G g w0 w id (do let d ← resolve ρ c ty; invoke d.target d.args) v O' :=
    fun s v hs hk hv => hres s hs ⟨v, O, hk, hv.ok hr⟩
  have arr : ∀ l : List Operand, c.args.toList = l → c.args.map ρ = (l.map ρ).toArray := fun l hl => by subst hl; apply Array.ext'; simp
  unfold builtinA at h
  split at h
  · -- len
    rename_i x heq
    obtain ⟨ox, hl, hx⟩ := map_one heq
    have hargs := arr _ hl
    have hxr := hev _ _ hx
    split at h
    · rename_i t hat
      have hlen : ∀ v, κ v O = some r → Val P g w (Builtin.len_ c.argTypes ty (c.args.map ρ)) v → ∃ v O', κ v O' = some r ∧ Ok P G g w0 w id (do let d ← resolve ρ c ty; invoke d.target d.args) v O' := fun v hk hv => pureV _ v (fun _ => rfl) hk hv
      split at h
      · rename_i s ht
        obtain hq := str_av.1 hxr
        refine hlen _ h ⟨_, ?_, int_av.2 rfl⟩
        have key : ∀ z : ByteArray, ρ ox = .string z → (Builtin.len_ c.argTypes ty (c.args.map ρ)).run P w = .ok (.int .i64 (z.size : Int)) w := fun z hz => by
          rw [hargs]; simp [Builtin.len_, hat, hz, run_underlying (tkOf_str ht), goInt]
        exact key s hq
      · rename_i n e ht
        refine hlen _ h ⟨_, ?_, int_av.2 rfl⟩
        rw [hargs]; simp [Builtin.len_, hat, run_underlying (tkOf_array ht), goInt]
      · rename_i e a ht
        split at h
        · rename_i n hn
          obtain ⟨b', cap, hv⟩ := lenOf_sound hr hn hxr
          refine hlen _ h ⟨_, ?_, int_av.2 rfl⟩
          rw [hargs]; simp [Builtin.len_, hat, hv, run_underlying (tkOf_slice ht), goInt]
        · simp at h
      · rename_i kt et i ht
        split at h
        · rename_i k v es hl'
          obtain ⟨hd, hv⟩ := hxr
          obtain ⟨_, ents, clock, hh, ha⟩ := hr.obj _ _ hl'
          refine hlen _ h ⟨_, ?_, int_av.2 rfl⟩
          have hgo : (getObj (g.ρ i)).run P w = .ok (.map ents clock) w := by simp [getObj, Sem.run, hh]
          rw [hargs]; simp [Builtin.len_, hat, hv, run_underlying (tkOf_map ht), goInt, hgo]
          have := ha.length
          simp at this; omega
        · simp at h
      · rename_i kt et ht
        have hv : ρ ox = .map none := hxr
        refine hlen _ h ⟨_, ?_, int_av.2 rfl⟩
        rw [hargs]; simp [Builtin.len_, hat, hv, run_underlying (tkOf_map ht), goInt]
      · simp at h
    · simp at h
  · -- min
    rename_i k x k' y heq
    obtain ⟨ox, oy, hl, hx, hy⟩ := mapM_two heq
    have hargs := arr _ hl
    have h1 := int_av.1 (hev _ _ hx)
    have h2 := int_av.1 (hev _ _ hy)
    refine pureV (Builtin.min_ c.argTypes ty (c.args.map ρ)) _ (fun _ => rfl) h ⟨_, ?_, int_av.2 rfl⟩
    rw [hargs]
    have key : ∀ p q : Int, (Builtin.min2 (.int k p) (.int k' q)).run P w = .ok (.int k (minI p q)) w := fun p q => by
      simp only [Builtin.min2, minI, Sem.run_pure, cond_eq_ite, decide_eq_true_eq]
    simp only [Builtin.min_, List.map_cons, List.map_nil, List.foldlM_cons, List.foldlM_nil, h1, h2, Sem.run_bind]
    have h3 := key x y
    rw [h3]; rfl
  · -- max
    rename_i k x k' y heq
    obtain ⟨ox, oy, hl, hx, hy⟩ := mapM_two heq
    have hargs := arr _ hl
    have h1 := int_av.1 (hev _ _ hx)
    have h2 := int_av.1 (hev _ _ hy)
    refine pureV (Builtin.max_ c.argTypes ty (c.args.map ρ)) _ (fun _ => rfl) h ⟨_, ?_, int_av.2 rfl⟩
    rw [hargs]
    have key : ∀ p q : Int, (Builtin.max2 (.int k p) (.int k' q)).run P w = .ok (.int k (maxI p q)) w := fun p q => by
      simp only [Builtin.max2, maxI, Sem.run_pure, cond_eq_ite, decide_eq_true_eq]
    simp only [Builtin.max_, List.map_cons, List.map_nil, List.foldlM_cons, List.foldlM_nil, h1, h2, Sem.run_bind]
    have h3 := key x y
    rw [h3]; rfl
  · -- append
    rename_i x y heq
    obtain ⟨ox, oy, hl, hx, hy⟩ := mapM_two heq
    have hargs := arr _ hl
    have hxr : A0R g x (ρ ox) := hev _ _ hx
    have hyr : A0R g y (ρ oy) := hev _ _ hy
    split at h
    · rename_i t u hat hau
      split at h
      · rename_i e ht
        split at h
        · rename_i s hs
          split at h
          · rename_i c1 c2 c3
            simp only [Bool.and_eq_true] at c1
            obtain ⟨c1a, c1b⟩ := c1
            obtain ⟨z, hz, hzl⟩ : ∃ z, zeroOf P e = some z ∧ z.length = s.size := by
              split at c1b
              · rename_i z hz; exact ⟨z, hz, Nat.eq_of_beq_eq_true c1b⟩
              · simp at c1b
            have app : ∀ {s' : Sh} {ys : List (El s')} {news : List Value} {du : TypeDesc}, P.underlying u = some du → ((∃ e', du = .slice e') ∨ du = .string) → s' = s → appendA O id t x s' ys κ = some r → Brings P g w s'.size (ρ oy) s' ys news →
                ∃ v O', κ v O' = some r ∧ Ok P G g w0 w id (do let d ← resolve ρ c ty; invoke d.target d.args) v O' := by
              intro s' ys news du hu hdu hss ha hb
              subst hss
              refine hres (Builtin.append_ c.argTypes ty (c.args.map ρ)) (fun _ => rfl) ?_
              have := appendA_sound (ty := ty) hr hid ht hu hdu (Nat.eq_of_beq_eq_true c1a) hz hzl (blt_lt c2) c3 ha hxr hb
              have he : (Builtin.append_ c.argTypes ty (c.args.map ρ)) = Builtin.append_ #[t, u] ty #[ρ ox, ρ oy] := by
                rw [hargs]
                simp only [Builtin.append_, hat, hau, List.map_cons, List.map_nil]
                rfl
              rw [he]; exact this
            split at h
            · rename_i e' y' hu
              split at h
              · rename_i ys hys
                obtain ⟨news, hb⟩ := rowsOf_sound (P := P) hr (blt_lt c2) hys hyr
                exact app (tkOf_slice hu) (.inl ⟨_, rfl⟩) rfl h hb
              · simp at h
            · rename_i z' hu
              split at h
              · have hv := str_a0 hyr
                obtain ⟨news, hb⟩ := string_brings (P := P) (g := g) (w := w) z'
                exact app (tkOf_str hu) (.inr rfl) rfl h (by rw [hv]; exact hb)
              · simp at h
            · simp at h
          · simp at h
        · simp at h
      · simp at h
    · simp at h
  · simp at h


theorem mapM_a0 {ev : Operand → Option AV} {ρ : Operand → Value} (hev : ∀ x v, ev x = some v → AVR g v (ρ x)) : ∀ {l : List Operand} {cs : List A0}, l.mapM (ev0 ev) = some cs → All2 (A0R g) cs (l.map ρ)
  | [], cs, h => by simp at h; subst h; trivial
  | x :: l, cs, h => by
    simp only [List.mapM_cons, Option.pure_def, Option.bind_eq_bind, Option.bind_eq_some_iff] at h
    obtain ⟨c, hc, cs', hcs, he⟩ := h
    obtain rfl := Option.some.inj he
    refine ⟨?_, mapM_a0 hev hcs⟩
    unfold ev0 at hc
    split at hc
    · rename_i a ha
      obtain rfl := Option.some.inj hc
      exact hev _ _ ha
    · simp at hc

theorem ev0_sound {ev : Operand → Option AV} {ρ : Operand → Value} (hev : ∀ x v, ev x = some v → AVR g v (ρ x)) {x : Operand} {a : A0} (h : ev0 ev x = some a) : A0R g a (ρ x) := by
  unfold ev0 at h
  split at h
  · rename_i b hb
    obtain rfl := Option.some.inj h
    exact hev _ _ hb
  · simp at h

theorem opA_sound (hr : Rel G g w0 O w) (hid : ¬ g.dom id) {ev : Operand → Option AV} {ρ : Operand → Value} (hev : ∀ x v, ev x = some v → AVR g v (ρ x)) {o : Oper} {κ : AV → Objs → Option R}
    (h : opA P G O ev id o κ = some r) : ∃ v O', κ v O' = some r ∧ Ok P G g w0 w id (execOp ρ o) v O' := by
  have e0 : ∀ {x a}, ev0 ev x = some a → A0R g a (ρ x) := fun h => ev0_sound hev h
  obtain ⟨dst, op, ty, pos, after, guard⟩ := o
  cases op <;> simp only [opA] at h <;> simp only [execOp]
  case move x =>
    split at h
    · rename_i v hv
      exact ⟨v, O, h, _, w, _, g, rfl, .inl rfl, Gm.Le.refl g, fun i hi => .inl hi, hev _ _ hv, hr⟩
    · simp at h
  case assign x =>
    split at h
    · rename_i v hv
      exact ⟨v, O, h, _, w, _, g, rfl, .inl rfl, Gm.Le.refl g, fun i hi => .inl hi, hev _ _ hv, hr⟩
    · simp at h
  case pick c a b =>
    have fin : ∀ (t : Bool) (v : AV), ρ c = .bool t → κ v O = some r → AVR g v (if t then ρ a else ρ b) →
        ∃ v O', κ v O' = some r ∧ Ok P G g w0 w id (do pure (.value (if ← asBool (ρ c) then ρ a else ρ b))) v O' := fun t v hc hk hv =>
      ⟨v, O, hk, _, w, _, g, by simp [hc, asBool], .inl rfl, Gm.Le.refl g, fun i hi => .inl hi, hv, hr⟩
    split at h
    · rename_i t x y hc ha hb
      refine fin t _ (bool_a0 (e0 hc)) h ?_
      have h1 := bool_av.1 (hev _ _ ha)
      have h2 := bool_av.1 (hev _ _ hb)
      rw [h1, h2]
      cases t <;> exact bool_av.2 rfl
    · rename_i t x y _ hc ha hb
      have hc' := bool_a0 (e0 hc)
      cases t
      · exact fin false y hc' h (hev _ _ hb)
      · exact fin true x hc' h (hev _ _ ha)
    · rename_i t x hc ha hb
      have hc' := bool_a0 (e0 hc)
      cases t
      · simp at h
      · exact fin true x hc' h (hev _ _ ha)
    · rename_i t y hc ha hb
      have hc' := bool_a0 (e0 hc)
      cases t
      · exact fin false y hc' h (hev _ _ hb)
      · simp at h
    · simp at h
  case alloc t =>
    split at h
    · rename_i cs hz
      exact ⟨_, _, h, alloc_sound hr hid hz⟩
    · simp at h
  case box t x =>
    split at h
    · rename_i c hc
      split at h
      · rename_i hre
        have hcr : CellR g c (ρ x) := hev _ _ hc
        refine ⟨_, _, h, box_sound hr hid ?_⟩
        rw [(real_one hre hcr).2]
        exact ⟨hcr, trivial⟩
      · simp at h
    · rename_i cs hc
      obtain ⟨vs, hv, ha⟩ := hev _ _ hc
      refine ⟨_, _, h, box_sound hr hid ?_⟩
      rw [hv]; simpa [Value.cells] using ha
    · simp at h
  case build t parts =>
    split at h
    · rename_i cs hb
      exact ⟨_, O, h, (buildA_sound hev hb).ok hr⟩
    · simp at h
  case buildSlice t len parts =>
    split at h
    · rename_i s xs hb
      exact ⟨_, _, h, buildSliceA_sound hr hid hev hb⟩
    · simp at h
  case load t a =>
    split at h
    · rename_i p hp
      split at h
      · rename_i cs hcs hty
        split at h
        · rename_i v hv
          exact ⟨v, O, h, (load_sound hr hty hcs rfl hv (e0 hp)).ok hr⟩
        · simp at h
      · rename_i gd cs _ hcs hty
        split at h
        · rename_i v hv
          obtain ⟨hgd, h⟩ := cond_true' h
          exact ⟨v, O, h, (load_sound hr hty hcs hgd hv (e0 hp)).ok hr⟩
        · simp at h
      · simp at h
    · simp at h
  case store t a x =>
    have fin : ∀ (p : A0) (cs : List Cell), ev0 ev a = some p → All2 (CellR g) cs (ρ x).cells.toList → cs.length = P.cellsOf t → 0 < P.cellsOf t → storeA O p cs (κ (.c (.a .und))) = some r →
        ∃ v O', κ v O' = some r ∧ Ok P G g w0 w id (do Instr.storeAt t (ρ a) (ρ x); pure .skip) v O' := fun p cs hp hc hn hpos hs => by
      obtain ⟨O', w', h1, h2, h3⟩ := storeA_sound (P := P) hr hs (e0 hp) hc hn hpos
      exact ⟨_, O', h1, .skip, w', undef, g, by simp only [Sem.run_bind, h2, Result.andThen_ok, Sem.run_pure], .inr ⟨rfl, rfl⟩, Gm.Le.refl g, fun i hi => .inl hi, trivial, h3⟩
    split at h
    · rename_i p v hp hv0
      split at h
      · rename_i cs _ hn
        simp only [Bool.and_eq_true] at hn
        obtain ⟨vs, hvv, ha⟩ := hev _ _ hv0
        refine fin p cs hp ?_ (Nat.eq_of_beq_eq_true hn.1) (tyOk_spec hn.2).2 h
        rw [hvv]; simpa [Value.cells] using ha
      · rename_i c _ hn
        simp only [Bool.and_eq_true] at hn
        have hcr : CellR g c (ρ x) := hev _ _ hv0
        have hreal : c.real = true := by
          unfold storeA at h
          split at h
          · simp at h
          · rename_i hq; simpa using hq
        refine fin p [c] hp ?_ (Nat.eq_of_beq_eq_true hn.1) (tyOk_spec hn.2).2 h
        rw [(real_one hreal hcr).2]
        exact ⟨hcr, trivial⟩
      · simp at h
    · simp at h
  case nilCheck x =>
    split at h
    · rename_i b off hp
      have hr0 := e0 hp
      obtain ⟨blk, o, hb, hv⟩ := hr0
      refine ⟨_, O, h, .value (ρ x), w, ρ x, g, by rw [hv]; rfl, .inl rfl, Gm.Le.refl g, fun i hi => .inl hi, ⟨blk, o, hb, hv⟩, hr⟩
    · simp at h
  case binOp op t x y yt =>
    split at h
    · rename_i a b ha hb
      obtain ⟨v, h1, h2⟩ := binOpA_sound (g := g) (w := w) h (hev _ _ ha) (hev _ _ hb)
      exact ⟨v, O, h1, (h2 x y).ok hr⟩
    · simp at h
  case unOp op t x =>
    split at h
    · rename_i a ha
      obtain ⟨v, h1, h2⟩ := unOpA_sound (g := g) (w := w) (P := P) h (hev _ _ ha)
      exact ⟨v, O, h1, h2.ok hr⟩
    · simp at h
  case convert src dst x =>
    split at h
    · rename_i a ha
      obtain ⟨v, h1, h2⟩ := convertA_sound hr h (hev _ _ ha)
      exact ⟨v, O, h1, h2.ok hr⟩
    · simp at h
  case makeFunc fn first caps =>
    cases fn <;> simp only at h <;> try (simp at h; done)
    rename_i f
    split at h
    · rename_i l hf hl
      refine ⟨_, O, h, .value (.func (.func f) (first.map ρ) (caps.map ρ)), w, _, g, rfl, .inl rfl, Gm.Le.refl g, fun i hi => .inl hi, ?_, hr⟩
      have : first = #[] := by apply Array.ext'; simpa using hf
      subst this
      exact ⟨caps.toList.map ρ, by simp only [Array.map_empty]; congr 1; apply Array.ext'; simp, mapM_a0 hev hl⟩
    · simp at h
  case makeMap t res =>
    cases res with
    | some _ => simp at h
    | none =>
      simp only at h
      split at h
      · rename_i kt vt ht
        split at h
        · rename_i k v hk hv
          have le := Gm.ext_le (ρ := w.heap.size) (len := 0) (sz := 0) (bs := 1) hid
          refine ⟨_, _, h, .value (.map (some w.heap.size)), w.alloc (.map #[] 0), .map (some w.heap.size), g.ext id w.heap.size 0 0 1, by simp [Instr.makeMap], .inl rfl, le, fun i hi => hi, ⟨.inr rfl, by simp⟩, ?_⟩
          refine hr.alloc hid _ _ _ _ _ ⟨by simp, #[], 0, ?_, trivial⟩
          rw [Gm.ext_ρ]; exact heap_alloc_new w _
        · simp at h
      · simp at h
  case makeSlice t l c =>
    split at h
    · rename_i a b ha hb
      exact makeSliceA_sound hr hid h (hev _ _ ha) (hev _ _ hb)
    · simp at h
  case slice t x lo hi mx =>
    cases mx with
    | some _ => simp at h
    | none =>
      simp only at h
      split at h
      · rename_i a ha
        obtain ⟨v, h1, h2⟩ := sliceA_sound hr hev h (hev _ _ ha)
        exact ⟨v, O, h1, h2.ok hr⟩
      · simp at h
  case fieldAddr t x f =>
    split at h
    · rename_i fs p ht hp
      split at h
      · rename_i fi hf
        split at h
        · rename_i q hpos hq
          exact ⟨_, O, h, (fieldAddr_sound ht hf (blt_lt hpos) hq (e0 hp)).ok hr⟩
        · simp at h
      · simp at h
    · simp at h
  case field t x f =>
    split at h
    · rename_i fs cs ht hx
      split at h
      · rename_i fi hf
        split at h
        · rename_i v hle hty hv
          exact ⟨v, O, h, (field_sound ht hf (Nat.le_of_ble_eq_true hle) hv (hev _ _ hx) hty).ok hr⟩
        · simp at h
      · simp at h
    · simp at h
  case indexAddr t x i =>
    split at h
    · rename_i p k n hp hi
      obtain ⟨v, h1, h2⟩ := indexAddrA_sound hr h (e0 hp) k
      have := int_a0 (e0 hi)
      exact ⟨v, O, h1, by rw [this]; exact h2.ok hr⟩
    · simp at h
  case index t x i =>
    split at h
    · rename_i a k n ha hi
      obtain ⟨v, h1, h2⟩ := indexA_sound (w := w) h (hev _ _ ha) k
      have := int_a0 (e0 hi)
      exact ⟨v, O, h1, by rw [this]; exact h2.ok hr⟩
    · simp at h
  case lookup t m x ok =>
    split at h
    · rename_i a b ha hb
      obtain ⟨v, h1, h2⟩ := lookupA_sound hr h (hev _ _ ha) (hev _ _ hb)
      exact ⟨v, O, h1, h2.ok hr⟩
    · simp at h
  case mapUpdate t m x y =>
    split at h
    · rename_i a b c ha hb hc
      obtain ⟨O', w', h1, h2, h3⟩ := mapUpdateA_sound (P := P) hr h (hev _ _ ha) (hev _ _ hb) (hev _ _ hc)
      exact ⟨_, O', h1, .skip, w', undef, g, by simp only [Sem.run_bind, h2, Result.andThen_ok, Sem.run_pure], .inr ⟨rfl, rfl⟩, Gm.Le.refl g, fun i hi => .inl hi, trivial, h3⟩
    · simp at h
  case extract x i =>
    split at h
    · rename_i vs hx
      obtain ⟨us, hu, ha⟩ := hev _ _ hx
      have ex : ∀ (p : Bool × List Cell), vs[i]? = some p → ∃ u, us[i]? = some u ∧ PartR g p u := fun p hp => ha.get i p hp
      have fin : ∀ u v, us[i]? = some u → AVR g v u → κ v O = some r → ∃ v O', κ v O' = some r ∧ Ok P G g w0 w id (do pure (.value (← Instr.extract (ρ x) i))) v O' := fun u v h1 h2 h3 =>
        ⟨v, O, h3, Val.ok hr ⟨u, by rw [hu]; simp [Instr.extract, h1], h2⟩⟩
      split at h
      · rename_i cs hi
        obtain ⟨u, u1, u2⟩ := ex _ hi
        exact fin u (.agg cs) u1 u2 h
      · rename_i c hi
        obtain ⟨u, u1, c', u2, u3⟩ := ex _ hi
        simp at u2; subst u2
        exact fin u (.c c) u1 u3 h
      · simp at h
    · simp at h
  case call c =>
    split at h
    · rename_i b hb
      exact builtinA_sound hr hid hev hb h
    · simp at h
  all_goals (simp at h)
end
end Go.Ab

/- Soundness of the operations that only compute a value, second part. -/
import Derived.Test.YtdhhdfgboalfiaaDoorA5
set_option linter.unusedVariables false
set_option linter.unusedSimpArgs false
namespace Go.Ab
open Go.RowKit

section
variable {P : Program} {G : Nat → Option (List Cell)} {g : Gm} {w0 w : World} {O : Objs} {id : Nat} {R : Type} {r : R}

theorem binOpA_sound {op : BinOp} {t : Nat} {x y : AV} {κ : AV → Option R} (h : binOpA P op t x y κ = some r) {vx vy : Value} (hx : AVR g x vx) (hy : AVR g y vy) :
    ∃ v, κ v = some r ∧ ∀ ox oy, Val P g w (do eqGuard op t ox oy vx vy; binOp op t vx vy) v := by
  unfold binOpA at h
  split at h
  · rename_i k a k' b
    obtain rfl := int_av.1 hx
    obtain rfl := int_av.1 hy
    have hg : ∀ ox oy, (eqGuard op t ox oy (.int k a) (.int k' b)).run P w = .ok () w := fun ox oy => by cases op <;> simp [eqGuard]
    split at h
    · obtain ⟨v, h1, h2⟩ := shift_sound (g := g) (w := w) (P := P) (.inl rfl) (k' := k') h
      obtain ⟨val, h3, h4⟩ := h2 t
      exact ⟨v, h1, fun ox oy => ⟨val, by simp only [Sem.run_bind, hg, Result.andThen_ok, h3], h4⟩⟩
    · obtain ⟨v, h1, h2⟩ := shift_sound (g := g) (w := w) (P := P) (.inr rfl) (k' := k') h
      obtain ⟨val, h3, h4⟩ := h2 t
      exact ⟨v, h1, fun ox oy => ⟨val, by simp only [Sem.run_bind, hg, Result.andThen_ok, h3], h4⟩⟩
    · split at h
      · rename_i hk
        subst hk
        obtain ⟨v, h1, h2⟩ := arith_sound (g := g) (w := w) (P := P) h
        obtain ⟨val, h3, h4⟩ := h2 t
        exact ⟨v, h1, fun ox oy => ⟨val, by simp only [Sem.run_bind, hg, Result.andThen_ok, h3], h4⟩⟩
      · simp at h
  · rename_i a b
    obtain rfl := str_av.1 hx
    obtain rfl := str_av.1 hy
    have hg : ∀ ox oy, (eqGuard op t ox oy (.string a) (.string b)).run P w = .ok () w := fun ox oy => by cases op <;> simp [eqGuard]
    obtain ⟨v, h1, h2⟩ := strOp_sound (g := g) (w := w) (P := P) h
    obtain ⟨val, h3, h4⟩ := h2 t
    exact ⟨v, h1, fun ox oy => ⟨val, by simp only [Sem.run_bind, hg, Result.andThen_ok, h3], h4⟩⟩
  · rename_i a b
    obtain rfl := bool_av.1 hx
    obtain rfl := bool_av.1 hy
    split at h
    · rename_i hk
      refine ⟨_, h, fun ox oy => ⟨.bool (boolBeq a b), ?_, bool_av.2 rfl⟩⟩
      have he : ∀ p q : Bool, (Op.equalIn 10000 t (.bool p) (.bool q)).run P w = .ok (boolBeq p q) w := fun p q => run_equalIn_bool' w 9999 t p q (tkOf_bool hk)
      have := he a b
      simp only [Sem.run_bind, eqGuard, binOp]
      simp [Op.equal, Op.maxDepth, this]
    · rename_i hk
      refine ⟨_, h, fun ox oy => ⟨.bool (!(boolBeq a b)), ?_, bool_av.2 rfl⟩⟩
      have he : ∀ p q : Bool, (Op.equalIn 10000 t (.bool p) (.bool q)).run P w = .ok (boolBeq p q) w := fun p q => run_equalIn_bool' w 9999 t p q (tkOf_bool hk)
      have := he a b
      simp only [Sem.run_bind, eqGuard, binOp]
      simp [Op.equal, Op.maxDepth, this]
    · simp at h
  · rename_i cs ds
    obtain ⟨vs, rfl, hc⟩ := hx
    obtain ⟨us, rfl, hd⟩ := hy
    split at h
    · rename_i b hg ha he
      have hgd : ∀ ox oy, (eqGuard op t ox oy (.agg vs.toArray) (.agg us.toArray)).run P w = .ok () w := fun ox oy => run_eqGuard_agg w op t ox oy _ _ hg
      have hq := eqT_sound (w := w) (g := g) 20 10000 t cs ds b vs us _ _ (by decide) he hc hd (.inl ⟨ha, rfl⟩) (.inl ⟨ha, rfl⟩)
      split at h
      · refine ⟨_, h, fun ox oy => ⟨.bool b, ?_, bool_av.2 rfl⟩⟩
        simp only [Sem.run_bind, hgd, Result.andThen_ok, run_eql_struct, hq]
      · refine ⟨_, h, fun ox oy => ⟨.bool (!b), ?_, bool_av.2 rfl⟩⟩
        simp only [Sem.run_bind, hgd, Result.andThen_ok, run_neq_struct, hq]
      · simp at h
    · simp at h
  · simp at h

theorem unOpA_sound {op : UnOp} {x : AV} {κ : AV → Option R} (h : unOpA op x κ = some r) {vx : Value} (hx : AVR g x vx) :
    ∃ v, κ v = some r ∧ Val P g w (Op.unary op vx) v := by
  unfold unOpA at h
  split at h
  · obtain rfl := bool_av.1 hx
    exact ⟨_, h, _, by simp [Op.unary], bool_av.2 rfl⟩
  · obtain rfl := int_av.1 hx
    exact ⟨_, h, _, by simp [Op.unary, Op.intArith]; rfl, int_av.2 rfl⟩
  · obtain rfl := int_av.1 hx
    exact ⟨_, h, _, by simp [Op.unary, Op.intBits], int_av.2 rfl⟩
  · simp at h

theorem run_underlying' (w : World) {t : Nat} {d : TypeDesc} (h : P.underlying t = some d) : (underlying t).run P w = .ok d w := run_underlying h w

theorem add_eq (b o n : Nat) : (⟨b, o, none⟩ : Addr).add n = ⟨b, o + n, none⟩ := Addr.add_mid b o n

theorem addOff_sound {n : Nat} {p q : A0} (h : addOff n p = some q) {val : Value} (hp : A0R g p val) :
    ∃ b o, val = .pointer (some ⟨b, o, none⟩) ∧ A0R g q (.pointer (some ⟨b, o + n, none⟩)) := by
  unfold addOff at h
  split at h
  · obtain rfl := Option.some.inj h
    obtain ⟨blk, o, hb, rfl⟩ := hp
    exact ⟨_, _, rfl, blk, o, hb, by simp [Nat.add_assoc]⟩
  · obtain rfl := Option.some.inj h
    obtain ⟨blk, o, hb, rfl⟩ := hp
    exact ⟨_, _, rfl, blk, o, hb, by simp [Nat.add_assoc]⟩
  · simp at h

theorem tyOk_spec {t : Nat} (h : tyOk P t = true) : (∃ d, P.underlying t = some d) ∧ 0 < P.cellsOf t := by
  unfold tyOk at h
  simp only [Bool.and_eq_true] at h
  exact ⟨Option.isSome_iff_exists.1 h.1, Nat.le_of_ble_eq_true h.2⟩

theorem blt_lt {a b : Nat} (h : Nat.blt a b = true) : a < b := Nat.le_of_ble_eq_true h

theorem fieldAddr_sound {t f : Nat} {fs : List FInfo} (ht : tkOf P t = .struct fs) {fi : FInfo} (hf : fs[f]? = some fi) (hpos : 0 < fi.size) {p q : A0} (hq : addOff fi.off p = some q) {val : Value} (hp : A0R g p val) :
    Val P g w (Instr.fieldAt t val f) (.c (.a q)) := by
  obtain ⟨gs, hg, rfl⟩ := tkOf_struct ht
  obtain ⟨b, o, rfl, hq'⟩ := addOff_sound hq hp
  rw [List.getElem?_map, Option.map_eq_some_iff] at hf
  obtain ⟨fd, hfd, rfl⟩ := hf
  obtain ⟨i, hi, hs⟩ := cellsOf_pos hpos
  refine ⟨_, ?_, hq'⟩
  have hfd' : gs[f]? = some fd := by simpa using hfd
  have hne : ¬ P.cellsOf fd.type = 0 := by simp at hpos; omega
  simp only [Instr.fieldAt, Sem.run_bind, run_underlying hg, Result.andThen_ok, hfd', Instr.sureAddr, Sem.run_pure, fieldPlace, run_sizeOf' w hi, hne, if_false, add_eq]

theorem field_sound {t f : Nat} {fs : List FInfo} (ht : tkOf P t = .struct fs) {fi : FInfo} (hf : fs[f]? = some fi) {cs : List Cell} (hl : fi.off + fi.size ≤ cs.length) {v : AV}
    (hv : mkAV P fi.type ((cs.drop fi.off).take fi.size) = some v) {val : Value} (hp : AVR g (.agg cs) val) (hty : tyOk P fi.type = true) :
    Val P g w (Instr.field t val f) v := by
  obtain ⟨dd, hdd⟩ := (tyOk_spec hty).1
  obtain ⟨gs, hg, rfl⟩ := tkOf_struct ht
  obtain ⟨vs, rfl, hc⟩ := hp
  rw [List.getElem?_map, Option.map_eq_some_iff] at hf
  obtain ⟨fd, hfd, rfl⟩ := hf
  have hfd' : gs[f]? = some fd := by simpa using hfd
  obtain ⟨i, hi⟩ := underlying_info hdd
  have hc' := (hc.drop fd.offset).take (P.cellsOf fd.type)
  have hlen := hc.length
  simp only at hl hv hdd
  have pp := run_part (w := w) hdd hi vs fd.offset (by omega)
  have ex : ∃ val, (part fd.type vs.toArray fd.offset).run P w = .ok val w ∧ AVR g v val := by
    rcases mkAV_sound hv hc' with ⟨ha, rfl, hr⟩ | ⟨ha, u, hu, hr⟩
    · exact ⟨_, pp.1 ha, hr⟩
    · refine ⟨u, pp.2 ha u ?_, hr⟩
      have : ((vs.drop fd.offset).take (P.cellsOf fd.type))[0]? = some u := by rw [hu]; rfl
      rw [List.getElem?_take] at this
      split at this
      · simpa using this
      · simp at this
  obtain ⟨val, h1, h2⟩ := ex
  refine ⟨val, ?_, h2⟩
  simp only [Instr.field, Sem.run_bind, run_underlying hg, Result.andThen_ok, hfd', asAgg, Sem.run_pure, h1]

/-! ### Indexing -/
theorem indexAt_array {t n e : Nat} (ht : tkOf P t = .array n e) (hpos : 0 < P.cellsOf e) {k : IntKind} {i : Int} (h0 : 0 ≤ i) (h1 : i < n) (b o : Nat) :
    (Instr.indexAt t (.pointer (some ⟨b, o, none⟩)) (.int k i)).run P w = .ok (.pointer (some ⟨b, o + i.toNat * P.cellsOf e, none⟩)) w := by
  obtain ⟨ti, hi, _⟩ := cellsOf_pos hpos
  simp only [Instr.indexAt, asIntOf, Sem.run_bind, Sem.run_pure, Result.andThen_ok, run_underlying (tkOf_array ht), Instr.sureAddr]
  simp only [h0, h1, and_self, if_true, Sem.run_bind, run_sizeOf' w hi, Result.andThen_ok, Sem.run_pure, add_eq]

theorem indexAt_slice {t e : Nat} (ht : tkOf P t = .slice e) (hpos : 0 < P.cellsOf e) {k : IntKind} {i : Int} {n cap : Nat} (h0 : 0 ≤ i) (h1 : i < n) (b o : Nat) :
    (Instr.indexAt t (.slice (some ⟨b, o, none⟩) n cap) (.int k i)).run P w = .ok (.pointer (some ⟨b, o + i.toNat * P.cellsOf e, none⟩)) w := by
  obtain ⟨ti, hi, _⟩ := cellsOf_pos hpos
  simp only [Instr.indexAt, asIntOf, Sem.run_bind, Sem.run_pure, Result.andThen_ok, run_underlying (tkOf_slice ht)]
  simp only [h0, h1, and_self, if_true, Sem.run_bind, run_sizeOf' w hi, Result.andThen_ok, Sem.run_pure, add_eq]

theorem bounds {i n : Int} (h : (decide (0 ≤ i) && decide (i < n)) = true) : 0 ≤ i ∧ i < n := by
  simpa using h

theorem indexAddrA_sound (hr : Rel G g w0 O w) {t : Nat} {x : A0} {cst : Bool} {i : Int} {κ : AV → Option R} (h : indexAddrA P O t x cst i κ = some r) {vx : Value} (hx : A0R g x vx) (k : IntKind) :
    ∃ v, κ v = some r ∧ Val P g w (Instr.indexAt t vx (.int k i)) v := by
  unfold indexAddrA at h
  split at h
  · rename_i n e ht
    split at h
    · rename_i b off hc
      obtain ⟨hi, h⟩ := cond_true' h
      obtain ⟨h0, h1⟩ := bounds hi
      obtain ⟨blk, o, hb, rfl⟩ := hx
      have hpos : 0 < P.cellsOf e := blt_lt (by simp only [Bool.and_eq_true] at hc; exact hc.2)
      exact ⟨_, h, _, indexAt_array ht hpos h0 h1 _ _, blk, o, hb, by simp [Nat.add_assoc]⟩
    · rename_i b off hc
      obtain ⟨hi, h⟩ := cond_true' h
      simp only [Bool.and_eq_true] at hi
      obtain ⟨h0, h1⟩ := bounds (by simp only [Bool.and_eq_true]; exact hi.2)
      obtain ⟨blk, o, hb, rfl⟩ := hx
      exact ⟨_, h, _, indexAt_array ht (blt_lt hi.1) h0 h1 _ _, blk, o, hb, by simp [Nat.add_assoc]⟩
    · simp at h
  · rename_i e ht
    split at h
    · rename_i s hs
      split at h
      · rename_i hz hp
        have hz' : P.cellsOf e = s.size := Nat.eq_of_beq_eq_true hz
        have hp' : 0 < P.cellsOf e := by rw [hz']; exact blt_lt hp
        split at h
        · rename_i s' xs
          split at h
          · rename_i he
            subst he
            obtain ⟨hi, h⟩ := cond_true' h
            obtain ⟨h0, h1⟩ := bounds hi
            obtain ⟨⟨a, cap, hv, hcap, hrow⟩, _⟩ := hx
            obtain rfl := (List.cons.inj hv).1
            rcases hrow with rfl | ⟨_, b, o, c, el, fr, rfl, hfz, hrows⟩
            · simp at h1; omega
            · refine ⟨_, h, _, indexAt_slice ht hp' h0 h1 b o, b, o + i.toNat * P.cellsOf e, ?_, by simp⟩
              obtain ⟨row, r1, r2, r3⟩ := hrows i.toNat (by omega)
              exact ⟨c, el, fr, row, hfz, r1, by rw [hz']; exact r2, r3⟩
          · simp at h
        · rename_i id'
          split at h
          · rename_i s' xs hl
            split at h
            · rename_i he
              subst he
              obtain ⟨hi, h⟩ := cond_true' h
              obtain ⟨h0, h1⟩ := bounds hi
              obtain ⟨hd, a, cap, rfl, hcap, hrow⟩ := hx
              obtain ⟨_, hsz, hlen, _⟩ := hr.obj _ _ hl
              rw [← hlen] at h1
              rcases hrow with rfl | ⟨rfl, _⟩
              · omega
              · exact ⟨_, h, _, indexAt_slice ht hp' h0 h1 _ _, g.ρ id', i.toNat * g.sz id', ⟨hd, rfl, rfl⟩, by rw [hz', hsz]; simp⟩
            · simp at h
          · rename_i s' xs hl
            split at h
            · rename_i he
              subst he
              obtain ⟨hi, h⟩ := cond_true' h
              obtain ⟨h0, h1⟩ := bounds hi
              obtain ⟨hd, a, cap, rfl, hcap, hrow⟩ := hx
              obtain ⟨_, hsz, hlen, _⟩ := hr.obj _ _ hl
              rw [← hlen] at h1
              rcases hrow with rfl | ⟨rfl, _⟩
              · omega
              · exact ⟨_, h, _, indexAt_slice ht hp' h0 h1 _ _, g.ρ id', i.toNat * g.sz id', ⟨hd, rfl, rfl⟩, by rw [hz', hsz]; simp⟩
            · simp at h
          · simp at h
        · rename_i id' lo n
          split at h
          · rename_i s' xs hl
            split at h
            · rename_i he
              subst he
              obtain ⟨hi, h⟩ := cond_true' h
              obtain ⟨h0, h1⟩ := bounds hi
              obtain ⟨hd, a, cap, rfl, hcap, hlo, hrow⟩ := hx
              obtain ⟨_, hsz, hlen, _⟩ := hr.obj _ _ hl
              rcases hrow with rfl | ⟨rfl, _⟩
              · omega
              · exact ⟨_, h, _, indexAt_slice ht hp' h0 h1 _ _, g.ρ id', (lo + i.toNat) * g.sz id', ⟨hd, rfl, rfl⟩, by rw [hz', hsz, Nat.add_mul]; simp⟩
            · simp at h
          · rename_i s' xs hl
            split at h
            · rename_i he
              subst he
              obtain ⟨hi, h⟩ := cond_true' h
              obtain ⟨h0, h1⟩ := bounds hi
              obtain ⟨hd, a, cap, rfl, hcap, hlo, hrow⟩ := hx
              obtain ⟨_, hsz, hlen, _⟩ := hr.obj _ _ hl
              rcases hrow with rfl | ⟨rfl, _⟩
              · omega
              · exact ⟨_, h, _, indexAt_slice ht hp' h0 h1 _ _, g.ρ id', (lo + i.toNat) * g.sz id', ⟨hd, rfl, rfl⟩, by rw [hz', hsz, Nat.add_mul]; simp⟩
            · simp at h
          · simp at h
        · simp at h
      · simp at h
    · simp at h
  · simp at h

theorem index_array {t n e : Nat} (ht : tkOf P t = .array n e) (hty : tyOk P e = true) {k : IntKind} {i : Int} (h0 : 0 ≤ i) (h1 : i < n) {vs : List Value} (hl : i.toNat * P.cellsOf e + P.cellsOf e ≤ vs.length)
    {us : List Value} (hus : us = (vs.drop (i.toNat * P.cellsOf e)).take (P.cellsOf e)) {l : List Cell} (hc : All2 (CellR g) l us) {v : AV} (hv : mkAV P e l = some v) :
    Val P g w (Instr.index t (.agg vs.toArray) (.int k i)) v := by
  obtain ⟨⟨dd, hdd⟩, hpos⟩ := tyOk_spec hty
  obtain ⟨ti, hi, _⟩ := cellsOf_pos hpos
  have pp := run_part (w := w) hdd hi vs (i.toNat * P.cellsOf e) hl
  have ex : ∃ val, (part e vs.toArray (i.toNat * P.cellsOf e)).run P w = .ok val w ∧ AVR g v val := by
    rcases mkAV_sound hv hc with ⟨ha, rfl, hr⟩ | ⟨ha, u, hu, hr⟩
    · exact ⟨_, by rw [hus]; exact pp.1 ha, hr⟩
    · refine ⟨u, pp.2 ha u ?_, hr⟩
      have : ((vs.drop (i.toNat * P.cellsOf e)).take (P.cellsOf e))[0]? = some u := by rw [← hus, hu]; rfl
      rw [List.getElem?_take, if_pos hpos] at this
      simpa using this
  obtain ⟨val, e1, e2⟩ := ex
  refine ⟨val, ?_, e2⟩
  simp only [Instr.index, asIntOf, Sem.run_bind, Sem.run_pure, Result.andThen_ok, run_underlying (tkOf_array ht)]
  simp only [h0, h1, and_self, if_true, Sem.run_bind, run_sizeOf' w hi, Result.andThen_ok, e1]

theorem indexA_sound {t : Nat} {x : AV} {cst : Bool} {i : Int} {κ : AV → Option R} (h : indexA P t x cst i κ = some r) {vx : Value} (hx : AVR g x vx) (k : IntKind) :
    ∃ v, κ v = some r ∧ Val P g w (Instr.index t vx (.int k i)) v := by
  unfold indexA at h
  split at h
  · rename_i n e cs ht
    obtain ⟨vs, rfl, hc⟩ := hx
    split at h
    · simp at h
    · rename_i hty
      split at h
      · split at h
        · rename_i v hv
          split at h
          · rename_i hle
            obtain ⟨hi, h⟩ := cond_true' h
            obtain ⟨h0, h1⟩ := bounds hi
            have := Nat.le_of_ble_eq_true hle
            have hlen := hc.length
            refine ⟨v, h, index_array ht hty h0 h1 ?_ rfl ((hc.drop _).take _) hv⟩
            rw [Nat.add_mul] at this; omega
          · simp at h
        · simp at h
      · split at h
        · rename_i l hl
          split at h
          · rename_i v hv
            obtain ⟨hi, h⟩ := cond_true' h
            obtain ⟨h0, h1⟩ := bounds hi
            obtain ⟨us, u1, u2, u3⟩ := chosenN_sound hc (by omega) _ _ _ hl
            have hpos := (tyOk_spec hty).2
            have hlast := u3 (P.cellsOf e - 1) (by omega)
            have hlt : i.toNat * P.cellsOf e + 0 + (P.cellsOf e - 1) < vs.length := by
              rcases Nat.lt_or_ge (i.toNat * P.cellsOf e + 0 + (P.cellsOf e - 1)) vs.length with h' | h'
              · exact h'
              · rw [List.getElem?_eq_none h'] at hlast
                have : P.cellsOf e - 1 < us.length := by omega
                rw [List.getElem?_eq_getElem this] at hlast
                simp at hlast
            refine ⟨v, h, index_array ht hty h0 h1 (by omega) ?_ u1 hv⟩
            apply List.ext_getElem?
            intro j
            rw [List.getElem?_take, List.getElem?_drop]
            split
            · rename_i hj; rw [← u3 j hj]; simp
            · rw [List.getElem?_eq_none (by omega)]
          · simp at h
        · simp at h
  · rename_i s ht
    obtain rfl := str_av.1 hx
    obtain ⟨hi, h⟩ := cond_true' h
    obtain ⟨h0, h1⟩ := bounds hi
    refine ⟨_, h, _, ?_, int_av.2 rfl⟩
    have key : ∀ (z : ByteArray), i < z.size → (Instr.index t (.string z) (.int k i)).run P w = .ok (.int .u8 ((ByteArray.get! z i.toNat).toNat : Int)) w := by
      intro z hz
      have hlt : i.toNat < z.size := by omega
      have hg : z[i.toNat]? = some (z.get! i.toNat) := by
        rw [getElem?_pos z i.toNat hlt]
        congr 1
        show z.data[i.toNat] = z.data[i.toNat]!
        rw [getElem!_pos z.data i.toNat hlt]
      simp only [Instr.index, asIntOf, Sem.run_bind, Sem.run_pure, Result.andThen_ok, run_underlying (tkOf_str ht), h0, if_true, hg]
    exact key s h1
  · simp at h

/-! ### Slicing -/
theorem boundA_sound {ev : Operand → Option AV} {ρ : Operand → Value} (hev : ∀ x v, ev x = some v → AVR g v (ρ x)) {x : Option Operand} {d n : Int} (h : boundA ev x d = some n) :
    (x = none ∧ n = d) ∨ ∃ o k, x = some o ∧ ρ o = .int k n := by
  unfold boundA at h
  split at h
  · obtain rfl := Option.some.inj h; exact .inl ⟨rfl, rfl⟩
  · rename_i o
    split at h
    · rename_i k n' ho
      obtain rfl := Option.some.inj h
      exact .inr ⟨o, k, rfl, int_av.1 (hev _ _ ho)⟩
    · simp at h

theorem run_sliceBound (w : World) {k : IntKind} {i : Int} {y : Nat} {c : BoundsCode} (h0 : 0 ≤ i) (h1 : i ≤ y) : (Instr.sliceBound (.int k i) y c).run P w = .ok i.toNat w := by
  simp only [Instr.sliceBound, asIntOf, Sem.run_bind, Sem.run_pure, Result.andThen_ok, h0, h1, and_self, if_true]

theorem run_sliceBounds {ρ : Operand → Value} (isS : Bool) {len cap : Nat} (hlc : len ≤ cap) {lo hi : Option Operand} {l h : Int}
    (hl : (lo = none ∧ l = 0) ∨ ∃ o k, lo = some o ∧ ρ o = .int k l) (hh : (hi = none ∧ h = len) ∨ ∃ o k, hi = some o ∧ ρ o = .int k h) (h0 : 0 ≤ l) (h1 : l ≤ h) (h2 : h ≤ len) :
    (Instr.sliceBounds isS len cap (lo.map ρ) (hi.map ρ) none).run P w = .ok (l.toNat, h.toNat, cap) w := by
  have e1 : (match hi.map ρ, (none : Option Value) with
    | some v, some _ => Instr.sliceBound v cap .slice3B
    | some v, none => Instr.sliceBound v cap (if isS then .sliceAcap else .sliceAlen)
    | none, none => pure len
    | none, some _ => stuck "Slice: max without high" : Sem Nat).run P w = .ok h.toNat w := by
    rcases hh with ⟨rfl, rfl⟩ | ⟨o, k, rfl, ho⟩
    · simp
    · simp only [Option.map_some, ho]
      exact run_sliceBound w (by omega) (by omega)
  have e2 : (match lo.map ρ with
    | some v => Instr.sliceBound v h.toNat (if (none : Option Value).isSome then .slice3C else .sliceB)
    | none => pure 0 : Sem Nat).run P w = .ok l.toNat w := by
    rcases hl with ⟨rfl, rfl⟩ | ⟨o, k, rfl, ho⟩
    · simp
    · simp only [Option.map_some, ho]
      exact run_sliceBound w h0 (by omega)
  rw [Instr.sliceBounds]
  rcases hh with ⟨rfl, rfl⟩ | ⟨o, k, rfl, ho⟩ <;> rcases hl with ⟨rfl, rfl⟩ | ⟨o', k', rfl, ho'⟩
  · simp
  · simp only [Option.map_some, Option.map_none, Sem.run_bind, Sem.run_pure, Result.andThen_ok, ho']
    rw [run_sliceBound w h0 (by omega)]; simp
  · simp only [Option.map_some, Option.map_none, Sem.run_bind, Sem.run_pure, Result.andThen_ok, ho]
    rw [run_sliceBound w (by omega) (by omega)]; simp
  · simp only [Option.map_some, Option.map_none, Sem.run_bind, Sem.run_pure, Result.andThen_ok, ho, ho']
    rw [run_sliceBound w (by omega) (by omega)]
    simp only [Result.andThen_ok]
    rw [run_sliceBound w h0 (by omega)]; simp

theorem sizeIs_spec (hr : Rel G g w0 O w) {id sz : Nat} (h : sizeIs O id sz = true) : g.sz id = sz := by
  unfold sizeIs at h
  split at h
  · rename_i s xs hl; rw [(hr.obj _ _ hl).2.1]; exact Nat.eq_of_beq_eq_true h
  · rename_i s xs hl; rw [(hr.obj _ _ hl).2.1]; exact Nat.eq_of_beq_eq_true h
  · simp at h

theorem cut_addr {cap l : Nat} {b o z : Nat} : (if cap = l then some (⟨b, o, none⟩ : Addr) else (some (⟨b, o, none⟩ : Addr)).map (·.add (l * z))) = if cap = l then some ⟨b, o, none⟩ else some ⟨b, o + l * z, none⟩ := by
  simp [add_eq]

theorem getD_drop_take {α : Type} (xs : List α) (l n i : Nat) (d : α) (hi : i < n) : ((xs.drop l).take n).getD i d = xs.getD (l + i) d := by
  simp [List.getD, List.getElem?_take, hi]

theorem three {a b c d e f : Int} (h : (decide (a ≤ b) && decide (c ≤ d) && decide (e ≤ f)) = true) : a ≤ b ∧ c ≤ d ∧ e ≤ f := by
  simpa [and_assoc] using h

theorem castL_len {s' s : Sh} (h : s' = s) (xs : List (El s')) : (castL h xs).length = xs.length := by subst h; rfl

theorem sliceA_sound (hr : Rel G g w0 O w) {ev : Operand → Option AV} {ρ : Operand → Value} (hev : ∀ x v, ev x = some v → AVR g v (ρ x)) {t : Nat} {x : AV} {lo hi : Option Operand} {κ : AV → Option R}
    (h : sliceA P O ev t x lo hi κ = some r) {vx : Value} (hx : AVR g x vx) :
    ∃ v, κ v = some r ∧ Val P g w (Instr.sliceAt t vx (lo.map ρ) (hi.map ρ) none) v := by
  have at_ : ∀ d, P.underlying t = some d → (∀ n e, d ≠ .array n e) → (Instr.sliceAt t vx (lo.map ρ) (hi.map ρ) none).run P w = (Instr.slice t vx (lo.map ρ) (hi.map ρ) none).run P w := fun d hd hne => by
    simp only [Instr.sliceAt, Sem.run_bind, run_underlying hd, Result.andThen_ok]
    all_goals (cases d <;> first | rfl | exact absurd rfl (hne _ _))
  unfold sliceA at h
  split at h
  · rename_i s ht
    obtain rfl := str_av.1 hx
    split at h
    · rename_i l h' hl hh
      obtain ⟨hc, h⟩ := cond_true' h
      obtain ⟨c1, c2, c3⟩ := three hc
      refine ⟨_, h, _, ?_, str_av.2 rfl⟩
      rw [at_ _ (tkOf_str ht) (fun _ _ e => by simp at e)]
      have key : ∀ z : ByteArray, h' ≤ z.size → ((hi = none ∧ h' = z.size) ∨ ∃ o k, hi = some o ∧ ρ o = .int k h') → (Instr.slice t (.string z) (lo.map ρ) (hi.map ρ) none).run P w = .ok (.string (z.extract l.toNat h'.toNat)) w := by
        intro z hz hq
        simp only [Instr.slice, Sem.run_bind, run_underlying (tkOf_str ht), Result.andThen_ok, Option.isSome_none, Bool.false_eq_true, if_false, Sem.run_pure]
        rw [run_sliceBounds (len := z.size) (cap := z.size) false (Nat.le_refl _) (boundA_sound hev hl) hq c1 c2 hz]
        simp
      exact key s c3 (boundA_sound hev hh)
    · simp at h
  · rename_i e a ht
    have hu := tkOf_slice ht
    have hat := at_ _ hu (fun _ _ e => by simp at e)
    split at h
    · rename_i s hs
      split at h
      · rename_i hz hp
        have hz' : P.cellsOf e = s.size := Nat.eq_of_beq_eq_true hz
        have hp' : 0 < P.cellsOf e := by rw [hz']; exact blt_lt hp
        obtain ⟨ti, hti, _⟩ := cellsOf_pos hp'
        have key : ∀ (a : Option Addr) (len cap : Nat) (l h' : Int), len ≤ cap → 0 ≤ l → l ≤ h' → h' ≤ len → ((lo = none ∧ l = 0) ∨ ∃ o k, lo = some o ∧ ρ o = .int k l) → ((hi = none ∧ h' = len) ∨ ∃ o k, hi = some o ∧ ρ o = .int k h') →
            (Instr.slice t (.slice a len cap) (lo.map ρ) (hi.map ρ) none).run P w = .ok (.slice (if cap = l.toNat then a else a.map (·.add (l.toNat * P.cellsOf e))) (h'.toNat - l.toNat) (cap - l.toNat)) w := by
          intro a len cap l h' c0 c1 c2 c3 hl hh
          simp only [Instr.slice, Sem.run_bind, run_underlying hu, Result.andThen_ok]
          rw [run_sliceBounds true c0 hl hh c1 c2 c3]
          simp only [Result.andThen_ok, Sem.run_bind, run_sizeOf' w hti, Sem.run_pure]
        split at h
        · rename_i s' xs
          split at h
          · rename_i l h' hl hh
            have he : s' = s := by
              by_cases hq : s' = s
              · exact hq
              · simp [hq] at hh
            subst he
            simp only [if_true] at hh
            obtain ⟨hc, h⟩ := cond_true' h
            obtain ⟨c1, c2, c3⟩ := three hc
            obtain ⟨⟨a, cap, hv, hcap, hrow⟩, _⟩ := hx
            obtain rfl := (List.cons.inj hv).1
            refine ⟨_, h, _, by rw [hat]; exact key a _ cap l h' hcap c1 c2 c3 (boundA_sound hev hl) (boundA_sound hev hh), ?_⟩
            refine ⟨?_, rfl⟩
            have hlen : (((show List (El s') from xs).drop l.toNat).take (h'.toNat - l.toNat)).length = h'.toNat - l.toNat := by
              rw [List.length_take, List.length_drop]
              have : h' ≤ ((show List (El s') from xs).length : Int) := c3
              omega
            refine ⟨_, _, by rw [hlen], by rw [hlen]; omega, ?_⟩
            by_cases hn : h'.toNat - l.toNat = 0
            · left; exact List.eq_nil_of_length_eq_zero (by rw [hlen, hn])
            · right
              rcases hrow with rfl | ⟨q1, b, o, c, el, fr, rfl, hfz, hrows⟩
              · simp at c3; omega
              · refine ⟨q1, b, o + l.toNat * s'.size, c, el, fr, ?_, hfz, fun i hi => ?_⟩
                · have hne : ¬ cap = l.toNat := by omega
                  rw [cut_addr, if_neg hne, hz']
                · rw [hlen] at hi
                  have hi' : l.toNat + i < (show List (El s') from xs).length := by
                    have : h' ≤ ((show List (El s') from xs).length : Int) := c3
                    omega
                  obtain ⟨row, r1, r2, r3⟩ := hrows (l.toNat + i) hi'
                  refine ⟨row, r1, ?_, ?_⟩
                  · rw [Nat.add_mul, ← Nat.add_assoc] at r2; exact r2
                  · rw [getD_drop_take _ _ _ _ _ hi]; exact r3
          · simp at h
        · rename_i id'
          split at h
          · rename_i m hm
            have hsz : g.sz id' = s.size := by
              by_cases hq : sizeIs O id' s.size = true
              · exact sizeIs_spec hr hq
              · simp [hq] at hm
            have hm : lenOf O (.slw id') = some m := by
              by_cases hq : sizeIs O id' s.size = true
              · simpa [hq] using hm
              · simp [hq] at hm
            split at h
            · rename_i l h' hl hh
              obtain ⟨hc, h⟩ := cond_true' h
              obtain ⟨c1, c2, c3⟩ := three hc
              obtain ⟨hd, a, cap, rfl, hcap, hrow⟩ := hx
              have hml : g.len id' = m := by
                simp only [lenOf] at hm
                split at hm
                · rename_i s' xs hlk
                  obtain rfl := Option.some.inj hm
                  exact (hr.obj _ _ hlk).2.2.1
                · rename_i s' xs hlk
                  obtain rfl := Option.some.inj hm
                  exact (hr.obj _ _ hlk).2.2.1
                · simp at hm
              rw [hml] at hcap hat
              refine ⟨_, h, _, by rw [hml, hat]; exact key a m cap l h' hcap c1 c2 c3 (boundA_sound hev hl) (boundA_sound hev hh), hd, _, _, rfl, by omega, by omega, ?_⟩
              by_cases hn : cap = l.toNat
              · left; omega
              · right
                rcases hrow with rfl | ⟨rfl, hb⟩
                · omega
                · rw [cut_addr, if_neg hn, hz', hsz, Nat.zero_add]
                  refine ⟨rfl, ?_⟩
                  rw [hsz] at hb
                  rw [show l.toNat + (cap - l.toNat) = cap by omega]; exact hb
            · simp at h
          · simp at h
        · rename_i id' b m
          split at h
          · rename_i l h' hl hh
            have hsz : g.sz id' = s.size := by
              by_cases hq : sizeIs O id' s.size = true
              · exact sizeIs_spec hr hq
              · simp [hq] at hh
            have hh : boundA ev hi m = some h' := by
              by_cases hq : sizeIs O id' s.size = true
              · simpa [hq] using hh
              · simp [hq] at hh
            obtain ⟨hc, h⟩ := cond_true' h
            obtain ⟨c1, c2, c3⟩ := three hc
            obtain ⟨hd, a, cap, rfl, hcap, hlo, hrow⟩ := hx
            refine ⟨_, h, _, by rw [hat]; exact key a m cap l h' hcap c1 c2 c3 (boundA_sound hev hl) (boundA_sound hev hh), hd, _, _, rfl, by omega, by omega, ?_⟩
            by_cases hn : cap = l.toNat
            · left; omega
            · right
              rcases hrow with rfl | ⟨rfl, hb'⟩
              · omega
              · rw [cut_addr, if_neg hn, hz', hsz, ← Nat.add_mul]
                refine ⟨rfl, ?_⟩
                rw [hsz] at hb'
                rw [show b + l.toNat + (cap - l.toNat) = b + cap by omega]; exact hb'
          · simp at h
        · split at h
          · rename_i l h' hl hh
            obtain ⟨hc, h⟩ := cond_true' h
            obtain ⟨c1, c2, c3⟩ := three hc
            obtain rfl : vx = .slice none 0 0 := hx
            have : l = 0 := by omega
            have : h' = 0 := by omega
            subst l; subst h'
            refine ⟨_, h, _, by rw [hat]; exact key none 0 0 0 0 (Nat.le_refl _) (by omega) (by omega) (by simp) (boundA_sound hev hl) (boundA_sound hev hh), rfl⟩
          · simp at h
        · simp at h
      · simp at h
    · simp at h
  · simp at h
end
end Go.Ab

/- The abstract evaluator is sound: all its steps, and 'run'. -/
import Derived.Test.YtdhhdfgboalfiaaDoorA15
set_option linter.unusedVariables false
set_option linter.unusedSimpArgs false
namespace Go.Ab
open Go.RowKit

section
variable {R : Type} {X : Ctx} {fin : AV → Objs → Option R} {r : R}
variable {ih rec : Cfg → Option R}

theorem nodup_range (n : Nat) : (List.range n).Nodup := List.nodup_range

theorem regC_sound (hX : CtxOk X) (hih : ∀ c r, ih c = some r → Good X fin c r) {k0 : Nat} {c : Cfg} {ops : Array Oper} {base : Nat} {is : List Nat} {k : List KI} (htodo : c.fr.todo = .reg ops base is :: k)
    (h : regC X k0 ih c ops base k is = some r) : Good X fin c r := by
  cases is with
  | nil =>
    rw [regC] at h
    refine (hih _ r h).step rfl fun g w0 rf rcs w cs0 hc hr ht => ?_
    have hk : Shut k := fun x hx => ht x (by rw [htodo]; exact hx)
    obtain ⟨b, tmps, fn, rfl, h2, h3, h4, h5, h6⟩ := hc.top
    refine ⟨g, _, rcs, w, .one ?_, ⟨hc.rel, hc.B, ⟨b, tmps, fn, rfl, h2, h3, h4, h5, h6⟩, hc.cs, hc.nx, ?_⟩, hr, hk.top, Gm.Low.refl g⟩
    · rw [htodo]; exact step_region_end
    · have hn := hc.nums
      obtain ⟨n1, n2, n3, n4⟩ := (Nums.isReg htodo).1 hn
      refine (Nums.notReg hk.head).2 (n4.mono ?_ fun i _ h => h)
      show base ≤ c.nx
      unfold base8 at n1; omega
  | cons i is =>
    rw [regC] at h
    split at h
    · simp at h
    rename_i o ho
    intro g w0 rf rcs w cs0 hc hr ht
    have hk : Shut k := fun x hx => ht x (by rw [htodo]; exact hx)
    obtain ⟨b, tmps, fn, rfl, h2, h3, h4, h5, h6⟩ := hc.top
    have hn : Nums g c.nx ({ c.fr with todo := .reg ops base (i :: is) :: k } :: c.cs) := by
      have := hc.nums
      have he : ({ c.fr with todo := .reg ops base (i :: is) :: k } : AFr) = c.fr := by rw [← htodo]
      rw [he]; exact this
    rw [htodo]
    split at h
    · rename_i hg
      exact operC_sound hX hih ho h hk hc.rel hc.B hc.cs hr hc.nx hn h2 h3 h4 h5 h6 (by simp [Region.wanted, hg])
    · rename_i j want hg
      split at h
      · simp at h
      rename_i d hd
      split at h
      · rename_i bb0 hl
        obtain ⟨bb, hbb⟩ : ∃ bb : Bool, bb = bb0 := ⟨bb0, rfl⟩
        subst hbb
        have hv := bool_av.1 (h6 d _ hl).2
        have hdlt := (h6 d _ hl).1
        have hy : yielded ops tmps j = some bb := by
          have hgd : tmps[d]? = some (.bool bb) := by
            rw [Array.getD_eq_getD_getElem?, Array.getElem?_eq_getElem hdlt] at hv
            rw [Array.getElem?_eq_getElem hdlt]; simpa using hv
          unfold yielded
          rw [hd]; simp [hgd]
        have hw : Region.wanted o (yielded ops tmps) = (bb == want) := by
          simp only [Region.wanted, hg, hy]
          cases bb <;> cases want <;> rfl
        have hE : EnvR g ((d, bool bb) :: c.fr.env) tmps := by
          intro t v hlt
          rw [look_cons] at hlt
          by_cases e : d = t
          · subst e; simp at hlt; subst hlt; exact ⟨hdlt, (h6 d _ hl).2⟩
          · simp [e] at hlt; exact h6 t v hlt
        have yes : (match (bb == want) with
              | true => operC X k0 ih { c with fr := { c.fr with env := (d, bool bb) :: c.fr.env } } ops base i is k o
              | false => finishC ih { c with fr := { c.fr with env := (d, bool bb) :: c.fr.env } } (.c (.a .und)) o.dst (.reg ops base is :: k) c.objs) = some r := by
          cases bb <;> cases want <;> exact h
        split at yes
        · rename_i hbw
          have := operC_sound (c := { c with fr := { c.fr with env := (d, bool bb) :: c.fr.env } }) hX hih ho yes hk (w := w) (cs0 := cs0) hc.rel hc.B hc.cs hr hc.nx hn h2 h3 h4 h5 hE (by rw [hw]; exact hbw)
          exact this
        · rename_i hbw
          obtain ⟨hi, hdd⟩ := finishC_some yes
          have hc' := CfgR.after (fr := c.fr) (g' := g) (val := undef) hc.B hc.cs hc.nx hn h2 h3 h4 h5 (Gm.Le.refl g) (fun n hn => .inl hn) hE hc.rel (v := .c (.a .und)) trivial hdd
          obtain ⟨rf2, w2, g2, v2, val2, O2, s2, q2, q3, q4, q5, q6, q7⟩ := hih _ r hi g w0 _ rcs w cs0 hc' hr (fun x hx => hk x hx)
          refine ⟨rf2, w2, g2, v2, val2, O2, .head ?_ s2, q2, q3.trans (bottom_fr rfl), q4, q5, q6, q7⟩
          have := step_op_skip (P := X.P) (b := b) (a := ⟨tmps, []⟩) (k := k.map KI.item) (cs := rcs ++ cs0) (w := w) (ops := ops) (i := i) (rest := is) (by simp [ho, hw, hbw])
          rw [ho] at this
          exact this
      · simp at h
      · simp at h

theorem leaveC_sound (hih : ∀ c r, ih c = some r → Good X fin c r) {c : Cfg} (h : leaveC X fin ih c = some r) (hnr : ∀ ops base is k, c.fr.todo ≠ .reg ops base is :: k)
    (hs : ∀ (b : Frame) (a : Act) (cs : List Frame) (w : World), Steps X.P (lone (b.at a (c.fr.todo.map KI.item)) cs w) (lone { b.at a (c.fr.todo.map KI.item) with mode := .returning } cs w)) : Good X fin c r := by
  intro g w0 rf rcs w cs0 hc hr ht
  obtain ⟨b, tmps, fn, rfl, h2, h3, h4, h5, h6⟩ := hc.top
  unfold leaveC at h
  rw [h4] at h
  simp only at h
  split at h
  · rename_i v hv
    obtain ⟨val, hval, hav⟩ := results_sound hc.rel h6 hv
    have hleave : ({ b.at ⟨tmps, []⟩ (c.fr.todo.map KI.item) with mode := .returning } : Frame).leaving X.P w (.returned val) := by
      refine ⟨rfl, rfl, h3, fn, ?_, hval⟩
      show X.P.funcs[b.fn]? = some fn
      rw [h2]; exact h4
    split at h
    · rename_i hcs
      have hrc : rcs = [] := by
        have := hc.cs.length
        rw [hcs] at this
        exact List.eq_nil_of_length_eq_zero (by simpa using this.symm)
      subst hrc
      refine ⟨_, w, g, v, val, c.objs, hs b ⟨tmps, []⟩ _ w, hleave, ?_, h, hav, hc.rel, Gm.Low.refl g⟩
      show b.fn = _
      rw [h2]; unfold bottom; rw [hcs]; rfl
    · rename_i fr cs hcs
      split at h
      · rename_i ops base i is k htodo
        split at h
        · rename_i o ho
          obtain ⟨hi, hd⟩ := finishC_some h
          have hfr := hc.cs
          rw [hcs] at hfr
          cases rcs with
          | nil => exact hfr.elim
          | cons rc rcs =>
            obtain ⟨⟨b', tmps', fn', rfl, k2, k3, k4, k5, k6⟩, hfr'⟩ := hfr
            have hn := (Nums.notReg hnr).1 hc.nums
            rw [hcs] at hn
            have hn' : Nums g c.nx ({ fr with todo := .reg ops base (i :: is) :: k } :: cs) := by
              have he : ({ fr with todo := .reg ops base (i :: is) :: k } : AFr) = fr := by rw [← htodo]
              rw [he]; exact hn
            have hc' := CfgR.after (fr := fr) (g' := g) hc.B hfr' hc.nx hn' k2 k3 k4 k5 (Gm.Le.refl g) (fun n hn => .inl hn) k6 hc.rel hav hd
            obtain ⟨rf2, w2, g2, v2, val2, O2, s2, q2, q3, q4, q5, q6, q7⟩ := hih _ r hi g w0 _ rcs w cs0 hc' (fun f hf => hr f (by rw [hcs]; simp [hf])) (fun x hx => by
              obtain ⟨_, _, _, _, e1, e2⟩ := hr fr (by rw [hcs]; simp)
              rw [htodo] at e1
              obtain ⟨_, rfl⟩ := List.cons.inj e1
              exact e2 x hx)
            refine ⟨rf2, w2, g2, v2, val2, O2, (hs b ⟨tmps, []⟩ _ w).trans (.head ?_ s2), q2, q3.trans ?_, q4, q5, q6, q7⟩
            · have := step_leave_returned (c := b'.at ⟨tmps', []⟩ (fr.todo.map KI.item)) (cs := rcs ++ cs0) hleave
              rw [htodo] at this ⊢
              have hfin : (b'.at ⟨tmps', []⟩ ((KI.reg ops base (i :: is) :: k).map KI.item)).finish val = b'.at ((⟨tmps', []⟩ : Act).put o.dst val) ((KI.reg ops base is :: k).map KI.item) := by
                show (b'.at ⟨tmps', []⟩ (.inRegion ops (i :: is) :: k.map KI.item)).finish val = _
                rw [Frame.finish_at, ho]; rfl
              rw [hfin] at this
              exact this
            · have hq : c = ⟨c.fr, fr :: cs, c.objs, c.nx⟩ := by rw [← hcs]
              rw [hq, bottom_cons fr c.fr cs c.objs c.objs c.nx c.nx]
              exact bottom_fr rfl
        · simp at h
      · simp at h
  · simp at h


theorem norm_cs (an : Ann) (c : Cfg) : CsReg c.cs → CsReg (norm an c).cs := by
  intro h f hf
  unfold norm normPro normMid normFin at hf
  simp only [List.mem_map] at hf
  obtain ⟨f0, hf0, rfl⟩ := hf
  exact h f0 hf0
theorem norm_todo (an : Ann) (c : Cfg) : (norm an c).fr.todo = c.fr.todo := rfl
theorem norm_bottom (an : Ann) (c : Cfg) : bottom (norm an c) = bottom c := by
  unfold bottom
  have : (norm an c).cs.getLast?.map (·.fid) = c.cs.getLast?.map (·.fid) := by
    unfold norm normPro normMid normFin
    simp only [List.getLast?_map, Option.map_map]
    rfl
  rw [this]; rfl

theorem Shut.of_tail {k : List KI} {x : KI} (h : TopOk (x :: k)) : Shut k := h

theorem Shut.cons {k : List KI} {x : KI} (hx : ∀ ops base is, x ≠ .reg ops base is) (h : Shut k) : Shut (x :: k) := fun y hy => by
  rcases List.mem_cons.1 hy with rfl | hy
  · exact hx
  · exact h y hy

theorem exitK_sub (id : Nat) : ∀ (k k' : List KI), exitK id k = some k' → ∀ x ∈ k', x ∈ k
  | [], k', h => by simp [exitK] at h
  | y :: k, k', h => by
    intro x hx
    cases y <;> simp only [exitK] at h <;> try exact List.mem_cons_of_mem _ (exitK_sub id k k' h x hx)
    split at h
    · obtain rfl := Option.some.inj h; exact List.mem_cons_of_mem _ hx
    · exact List.mem_cons_of_mem _ (exitK_sub id k k' h x hx)

/-- A region is begun, in the order of the text. -/
theorem regionC_sound (hih : ∀ c r, ih c = some r → Good X fin c r) {c : Cfg} {id : Nat} {ops : Array Oper} {k : List KI} {x : KI} (htodo : c.fr.todo = x :: k) (hx : x.item = .code (.region id ops false)) (hxr : ∀ ops base is, x ≠ .reg ops base is)
    (h : ih { c with fr := { c.fr with todo := .reg ops c.nx (List.range ops.size) :: k }, nx := base8 ops c.nx } = some r) : Good X fin c r := by
  refine (hih _ r h).step (bottom_fr rfl) fun g w0 rf rcs w cs0 hc hr ht => ?_
  obtain ⟨b, tmps, fn, rfl, h2, h3, h4, h5, h6⟩ := hc.top
  have hk : Shut k := by rw [htodo] at ht; exact Shut.of_tail ht
  refine ⟨g, _, rcs, w, .one ?_, ⟨hc.rel, hc.B, ⟨b, tmps, fn, rfl, h2, h3, h4, h5, h6⟩, hc.cs, fun i hi => ?_, ?_⟩, hr, (fun y hy => hk y hy), Gm.Low.refl g⟩
  · rw [htodo]
    simp only [List.map_cons, hx]
    exact step_region
  · have := hc.nx i hi
    show i < base8 ops c.nx
    unfold base8; omega
  · have hn := (Nums.notReg (by rw [htodo]; intro a b c d e; exact hxr a b c (List.cons.inj e).1)).1 hc.nums
    refine (Nums.isReg rfl).2 ⟨Nat.le_refl _, fun i hi => ⟨by simpa using hi, fun j hj hd => ?_⟩, nodup_range _, hn⟩
    have := hc.nx _ hd
    omega

theorem stepC_sound {k0 : Nat} (hX : CtxOk X) (hdraw : ∀ (ops : Array Oper) (id : Nat) (c : Cfg) (k : List KI) (x : KI), c.fr.todo = x :: k → x.item = .code (.region id ops true) → (∀ ops base is, x ≠ .reg ops base is) → ∀ (ih : Cfg → Option R) r, (∀ c r, ih c = some r → Good X fin c r) →
      regionD X k0 ih c ops k = some r → Good X fin c r)
    (hih : ∀ c r, ih c = some r → Good X fin c r) (hrec : ∀ c r, rec c = some r → Good X fin c r) {c : Cfg} (h : stepC X fin k0 rec ih c = some r) : Good X fin c r := by
  have reg : ∀ (id : Nat) (ops : Array Oper) (draw : Bool) (k : List KI) (x : KI), c.fr.todo = x :: k → x.item = .code (.region id ops draw) → (∀ ops base is, x ≠ .reg ops base is) → regionC X k0 ih c (.region id ops draw) k = some r → Good X fin c r := by
    intro id ops draw k x htodo hx hxr h
    cases draw
    · exact regionC_sound hih htodo hx hxr h
    · exact hdraw ops id c k x htodo hx hxr ih r hih h
  unfold stepC at h
  split at h
  · rename_i htodo
    refine leaveC_sound hih h (by rw [htodo]; intro _ _ _ _ e; simp at e) fun b a cs w => ?_
    rw [htodo]; exact .one step_end
  · rename_i code k htodo
    have : ∃ id ops draw, code = .region id ops draw := by
      unfold regionC at h
      split at h
      · exact ⟨_, _, _, rfl⟩
      · simp at h
    obtain ⟨id, ops, draw, rfl⟩ := this
    exact reg id ops draw k _ htodo rfl (by intro _ _ _ e; simp at e) h
  · rename_i id k htodo
    refine (hih _ r h).todo (by rw [htodo]; intro _ _ _ _ e; simp at e) (fun ht => by rw [htodo] at ht; exact Shut.of_tail ht) fun b a cs w => ?_
    rw [htodo]; exact .one step_inBlock
  · rename_i id k htodo
    refine (hih _ r h).todo (by rw [htodo]; intro _ _ _ _ e; simp at e) (fun ht => by rw [htodo] at ht; exact Shut.of_tail ht) fun b a cs w => ?_
    rw [htodo]
    exact .one (step_lone_go (by simp [stepG, stepG.exec, Frame.at, KI.item]))
  · rename_i bd k htodo
    refine (hih _ r h).todo (by rw [htodo]; intro _ _ _ _ e; simp at e) (fun ht => by rw [htodo] at ht; exact Shut.cons (by intro _ _ _ e; simp at e) (Shut.cons (by intro _ _ _ e; simp at e) (Shut.of_tail ht))) fun b a cs w => ?_
    rw [htodo]; exact .one step_inLoop
  · rename_i ops base is k htodo
    exact regC_sound hX hih htodo h
  · rename_i code k htodo
    have hnr : ∀ ops base is k', c.fr.todo ≠ .reg ops base is :: k' := by rw [htodo]; intro _ _ _ _ e; simp at e
    have st : ∀ (l : List KI), (∀ y ∈ l, ∀ ops base is, y ≠ .reg ops base is) → TopOk c.fr.todo → Shut (l ++ k) := fun l hl ht => by
      rw [htodo] at ht
      have hk := Shut.of_tail ht
      intro y hy
      rcases List.mem_append.1 hy with h | h
      · exact hl y h
      · exact hk y h
    split at h
    · refine (hih _ r h).todo hnr (st [] (by simp)) fun b a cs w => ?_
      rw [htodo]; exact .one step_skip
    · refine (hih _ r h).todo hnr (st [] (by simp)) fun b a cs w => ?_
      rw [htodo]; exact .one step_label
    · rename_i p q
      refine (hih _ r h).todo hnr (st [.code p, .code q] (by simp)) fun b a cs w => ?_
      rw [htodo]; exact .one step_seq
    · rename_i xx p q
      split at h
      · rename_i t0 ht
        obtain ⟨t, htt⟩ : ∃ t : Bool, t = t0 := ⟨t0, rfl⟩
        subst htt
        refine Good.step (c' := { c with fr := { c.fr with todo := .code (if t then p else q) :: k } }) (hih _ r (by cases t <;> simpa using h)) (bottom_fr rfl) fun g w0 rf rcs w cs0 hc hr htop => ?_
        obtain ⟨b, tmps, fn, rfl, h2, h3, h4, h5, h6⟩ := hc.top
        have hv := bool_av.1 (evalA_sound (X := X) h6 ht)
        refine ⟨g, _, rcs, w, .one ?_, ⟨hc.rel, hc.B, ⟨b, tmps, fn, rfl, h2, h3, h4, h5, h6⟩, hc.cs, hc.nx, ?_⟩, hr, (st [.code (if t then p else q)] (by simp) htop).top, Gm.Low.refl g⟩
        · rw [htodo]; exact step_cond hv
        · exact (Nums.notReg (by intro _ _ _ _ e; simp at e)).2 ((Nums.notReg hnr).1 hc.nums)
      · simp at h
    · rename_i bd
      refine (hih _ r h).todo hnr (st [.code bd, .inScope bd] (by simp)) fun b a cs w => ?_
      rw [htodo]
      exact .one (step_lone_go (by simp [stepG, stepG.exec, Frame.at, KI.item]))
    · rename_i id bd
      refine (hih _ r h).todo hnr (st [.code bd, .inBlock id] (by simp)) fun b a cs w => ?_
      rw [htodo]; exact .one step_block
    · rename_i bd
      refine (hih _ r h).todo hnr (st [.code bd, .inLoop bd] (by simp)) fun b a cs w => ?_
      rw [htodo]; exact .one step_loop
    · rename_i id
      split at h
      · rename_i k' hk'
        refine (hih _ r h).todo hnr (fun ht y hy => st [] (by simp) ht y (exitK_sub id k k' hk' y hy)) fun b a cs w => ?_
        rw [htodo]; exact .one (step_exit (map_exitK id k k' hk'))
      · simp at h
    · refine leaveC_sound hih h hnr fun b a cs w => ?_
      rw [htodo]; exact .one step_ret
    · rename_i id ops draw
      split at h
      · rename_i an hann
        have hg := hrec _ r h
        intro g w0 rf rcs w cs0 hc hr ht
        have hc2 : CfgR X g w0 { c with fr := { c.fr with todo := .exec (.region id ops draw) :: k } } rf rcs w := by
          obtain ⟨b, tmps, fn, h1, h2, h3, h4, h5, h6⟩ := hc.top
          refine ⟨hc.rel, hc.B, ⟨b, tmps, fn, ?_, h2, h3, h4, h5, h6⟩, hc.cs, hc.nx, (Nums.notReg (by intro _ _ _ _ e; simp at e)).2 ((Nums.notReg hnr).1 hc.nums)⟩
          rw [h1, htodo]; rfl
        obtain ⟨g', hc3, low⟩ := norm_sound hX.plain hc2 an (by intro _ _ _ _ e; simp at e) (fun f hf => let ⟨a, b, c, d, e, _⟩ := hr f hf; ⟨a, b, c, d, e⟩)
        obtain ⟨rf2, w2, g2, v2, val2, O2, s2, q2, q3, q4, q5, q6, q7⟩ := hg g' w0 rf rcs w cs0 hc3 (norm_cs an _ hr) (by
          rw [norm_todo]; rw [htodo] at ht; exact ht)
        refine ⟨rf2, w2, g2, v2, val2, O2, s2, q2, q3.trans ?_, q4, q5, q6, low.trans q7⟩
        rw [norm_bottom]; exact bottom_fr rfl
      · exact reg id ops draw k _ htodo rfl (by intro _ _ _ e; simp at e) h
    · simp at h
end
end Go.Ab

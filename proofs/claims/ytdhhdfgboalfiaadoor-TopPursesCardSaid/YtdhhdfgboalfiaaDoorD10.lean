/- Regions whose order is not told: sound. -/
import Derived.Test.YtdhhdfgboalfiaaDoorD9
set_option linter.unusedVariables false
set_option linter.unusedSimpArgs false
namespace Go.Ab
open Classical in
theorem draw_go {R : Type} {X : Ctx} {fin : AV → Objs → Option R} {r : R} {k0 : Nat} {c : Cfg} {ops : Array Oper} {base : Nat} {k : List KI} {V : Nat → AV} {F : Nat → Objs} {Sn : Nat → List Nat} (hX : CtxOk X)
    (hok : ∀ q, q < ops.size → StepOk X k0 c.fr.nt base ops c.fr.env c.objs V F Sn q) (hold : hasOld c.objs = false) {d : Cfg} (hd : Good X fin d r)
    (d1 : d.fr.fid = c.fr.fid) (d2 : d.fr.nt = c.fr.nt) (d3 : d.cs = c.cs) (d4 : d.nx = base8 ops base) (d5 : d.fr.todo = k) (d6 : ∀ t, look d.fr.env t = ovE ops c.fr.env V ops.size t) (d7 : ∀ n, look d.objs n = ovO c.objs F ops.size n) :
    ∀ (fuel t : Nat) (listed : Array Bool), listed.size = ops.size → Down ops (lset listed) → unl ops listed ≤ fuel →
      ∀ c', InvD c ops base k V F (lset listed) (Region.linearise.go .any ops fuel t listed []) c' → Good X fin c' r := by
  have hlt : ∀ q, q < ops.size → (Mk ops).getD q 0 < 2 ^ q := fun q hq => (hok q hq).lt
  -- the end
  have fin0 : ∀ (listed : Array Bool), (∀ q, q < ops.size → lset listed q = true) → ∀ c', InvD c ops base k V F (lset listed) [] c' → Good X fin c' r := by
    intro listed hall c' hc
    refine regC_sound (ih := fun cc => if cc = { c' with fr := { c'.fr with todo := k } } then some r else none) (k0 := k0) hX (fun cc r' h => ?_) hc.todo (by simp [regC])
    split at h
    · rename_i he
      obtain rfl := Option.some.inj h
      subst he
      refine hd.look (by rw [d1]; exact hc.fid) (by rw [d2]; exact hc.nt) d5.symm (by rw [d3]; exact hc.cs) (by rw [d4]; exact hc.nx) (fun t => ?_) fun n => ?_
      · show look c'.fr.env t = _
        rw [hc.env, d6]
        exact ov_congr fun q hq _ _ => hall q hq
      · show look c'.objs n = _
        rw [hc.objs, d7]
        exact ov_congr fun q hq _ _ => hall q hq
    · simp at h
  intro fuel
  induction fuel with
  | zero =>
    intro t listed hs hdn hu c' hc
    refine fin0 listed (fun q hq => ?_) c' (by simpa [Region.linearise.go] using hc)
    cases h : lset listed q with
    | true => rfl
    | false =>
      exfalso
      have hz : (List.range ops.size).filter (fun q => !listed.getD q true) = [] := List.eq_nil_of_length_eq_zero (Nat.le_zero.1 hu)
      have : q ∈ (List.range ops.size).filter (fun q => !listed.getD q true) := by
        rw [List.mem_filter]
        refine ⟨by simpa using hq, ?_⟩
        show (!listed.getD q true) = true
        rw [lset_true (by omega), h]; rfl
      rw [hz] at this; simp at this
  | succ fuel ihf =>
    intro t listed hs hdn hu c' hc
    rcases go_eq (ops := ops) (fuel := fuel) (t := t) (listed := listed) with ⟨h1, h2⟩ | ⟨i, t', hi, h2⟩
    · rw [h2] at hc
      exact fin0 listed (all_listed hs hlt h1) c' hc
    · rw [h2] at hc
      obtain ⟨hnl, o, ho, hr⟩ := mem_ready.1 hi
      have hin : i < ops.size := (Array.getElem?_eq_some_iff.1 ho).1
      have hSi : lset listed i = false := by rw [← lset_true (by omega)]; exact hnl
      have hS1 : lset (listed.setIfInBounds i true) i = true := by unfold lset; simp [hs, hin]
      have hS2 : ∀ q, q ≠ i → lset (listed.setIfInBounds i true) q = lset listed q := fun q hq => getD_set_ne false (Ne.symm hq)
      obtain ⟨c'', e1, e2⟩ := stepD hok hold hdn ho hSi hr hS1 hS2 hc (fun cc => if InvD c ops base k V F (lset (listed.setIfInBounds i true)) (Region.linearise.go .any ops fuel t' (listed.setIfInBounds i true) []) cc then some r else none)
      refine regC_sound hX (fun cc r' h => ?_) hc.todo (e2.trans (if_pos e1))
      split at h
      · rename_i hcc
        obtain rfl := Option.some.inj h
        refine ihf t' _ (by simpa using hs) (fun q o' hq ho' e he hb => ?_) ?_ cc hcc
        · by_cases hqi : q = i
          · subst hqi
            rw [ho] at ho'; obtain rfl := Option.some.inj ho'
            exact getD_set_true (hr e he hb)
          · rw [hS2 q hqi] at hq
            exact getD_set_true (hdn q o' hq ho' e he hb)
        · have := unl_set hs hin hnl
          omega
      · simp at h

theorem draw_sound {R : Type} {X : Ctx} {fin : AV → Objs → Option R} {k0 : Nat} (hX : CtxOk X) (ops : Array Oper) (id : Nat) (c : Cfg) (k : List KI) (x : KI) (htodo : c.fr.todo = x :: k) (hx : x.item = .code (.region id ops true)) (hxr : ∀ ops base is, x ≠ .reg ops base is)
    (ih : Cfg → Option R) (r : R) (hih : ∀ c r, ih c = some r → Good X fin c r) (h : regionD X k0 ih c ops k = some r) : Good X fin c r := by
  unfold regionD at h
  split at h
  · simp at h
  rename_i hold
  have h0 : Past X k0 c.fr.nt c.nx ops c.fr.env c.objs 0 c.fr.env c.objs [] (fun _ => .c (.a .und)) (fun _ => []) (fun _ => []) := ⟨fun _ => rfl, fun _ => rfl, fun q hq => by omega, fun q hq => by omega⟩
  rw [List.range_eq_range'] at h
  obtain ⟨V, F, Sn, E', O', recs', hp, hk⟩ := goD_some _ 0 _ _ _ _ _ _ h0 h
  rw [Nat.zero_add] at hp
  intro g w0 rf rcs w cs0 hc hr ht
  obtain ⟨b, tmps, fn, rfl, h2, h3, h4, h5, h6⟩ := hc.top
  have hkS : Shut k := by rw [htodo] at ht; exact Shut.of_tail ht
  -- the order that the tape tells
  have hmx := hX.mixed
  generalize htt : w.tape w.drawn (.order b.fn id) = tt
  have hsch : Region.schedule (X.P.follows .mixedOrders) ops tt = Region.linearise.go .any ops ops.size tt (Array.replicate ops.size false) [] := by
    simp only [Region.schedule, hmx, Bool.true_or, if_true, Region.linearise]
  have hrep : ∀ q, (Array.replicate ops.size false).getD q false = false := fun q => by
    rcases Nat.lt_or_ge q ops.size with h | h
    · simp [h]
    · simp [h]
  have hdown : Down ops (lset (Array.replicate ops.size false)) := fun q o hq => by unfold lset at hq; rw [hrep] at hq; simp at hq
  obtain ⟨gm1, gm2⟩ := go_mem (ops := ops) ops.size tt (Array.replicate ops.size false) (by simp)
  have hgood := draw_go (k0 := k0) (c := c) (base := c.nx) (k := k) (fin := fin) hX hp.ok hold (hih _ r hk) rfl rfl rfl rfl rfl hp.env hp.objs ops.size tt (Array.replicate ops.size false) (by simp) hdown (by
      unfold unl
      refine Nat.le_trans (List.length_filter_le _ _) ?_
      simp)
    { c with fr := { c.fr with todo := .reg ops c.nx (Region.linearise.go .any ops ops.size tt (Array.replicate ops.size false) []) :: k }, nx := base8 ops c.nx }
    ⟨rfl, rfl, rfl, rfl, rfl, fun t => by
      show look c.fr.env t = _
      have : ∀ n, ov (effE ops V) (look c.fr.env) (lset (Array.replicate ops.size false)) n t = look c.fr.env t := by
        intro n
        induction n with
        | zero => rfl
        | succ n ihn => simp only [ov, lset, hrep]; exact ihn
      exact (this _).symm, fun n => by
      show look c.objs n = _
      have : ∀ m, ov (effO F) (look c.objs) (lset (Array.replicate ops.size false)) m n = look c.objs n := by
        intro m
        induction m with
        | zero => rfl
        | succ m ihm => simp only [ov, lset, hrep]; exact ihm
      exact (this _).symm⟩
  have hc' : CfgR X g w0 { c with fr := { c.fr with todo := .reg ops c.nx (Region.linearise.go .any ops ops.size tt (Array.replicate ops.size false) []) :: k }, nx := base8 ops c.nx }
      (b.at ⟨tmps, []⟩ ((KI.reg ops c.nx (Region.linearise.go .any ops ops.size tt (Array.replicate ops.size false) []) :: k).map KI.item)) rcs { w with drawn := w.drawn + 1 } := by
    refine ⟨hc.rel.drew, hc.B, ⟨b, tmps, fn, rfl, h2, h3, h4, h5, h6⟩, hc.cs, fun i hi => ?_, ?_⟩
    · have := hc.nx i hi
      show i < base8 ops c.nx
      unfold base8; omega
    · have hn := (Nums.notReg (by rw [htodo]; intro a b c d e; exact hxr a b c (List.cons.inj e).1)).1 hc.nums
      refine (Nums.isReg rfl).2 ⟨Nat.le_refl _, fun i hi => ⟨?_, fun j hj hd => ?_⟩, gm2, hn⟩
      · have := gm1 i hi
        rcases Nat.lt_or_ge i ops.size with h' | h'
        · exact h'
        · simp [h'] at this
      · have := hc.nx _ hd
        omega
  obtain ⟨rf2, w2, g2, v2, val2, O2, s2, q2, q3, q4⟩ := hgood g w0 _ rcs _ cs0 hc' hr (fun y hy => hkS y hy)
  refine ⟨rf2, w2, g2, v2, val2, O2, .head ?_ s2, q2, q3.trans (bottom_fr rfl), q4⟩
  rw [htodo]
  simp only [List.map_cons, hx]
  have := step_region_draw (P := X.P) (b := b) (a := ⟨tmps, []⟩) (k := k.map KI.item) (cs := rcs ++ cs0) (w := w) (ops := ops) (id := id)
  rw [htt, hsch] at this
  exact this
end Go.Ab

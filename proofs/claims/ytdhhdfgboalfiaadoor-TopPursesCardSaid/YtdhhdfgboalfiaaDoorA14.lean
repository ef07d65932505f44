/- The machine follows the abstract evaluator: small steps, calls, returns. -/
import Derived.Test.YtdhhdfgboalfiaaDoorA13
set_option linter.unusedVariables false
set_option linter.unusedSimpArgs false
namespace Go.Ab
open Go.RowKit

theorem EnvR.put {g : Gm} {E : Env} {tmps : Array Value} (h : EnvR g E tmps) {d : Nat} (hd : d < tmps.size) {v : AV} {val : Value} (hv : AVR g v val) : EnvR g ((d, v) :: E) (tmps.setIfInBounds d val) := by
  intro t x hx
  rw [look_cons] at hx
  by_cases e : d = t
  · subst e
    simp at hx; subst hx
    refine ⟨by simpa using hd, ?_⟩
    simp [hd]; exact hv
  · simp [e] at hx
    obtain ⟨h1, h2⟩ := h t x hx
    refine ⟨by simpa using h1, ?_⟩
    have : (tmps.setIfInBounds d val).getD t undef = tmps.getD t undef := by
      simp [Array.getD_eq_getD_getElem?, Array.getElem?_setIfInBounds_ne e]
    rw [this]; exact h2

theorem EnvR.undef {g : Gm} {E : Env} {tmps : Array Value} (h : EnvR g E tmps) {d : Nat} (hd : d < tmps.size) : EnvR g ((d, .c (.a .und)) :: E) (tmps.setIfInBounds d Go.undef) :=
  h.put hd trivial

def putEnv (dst : Option Nat) (v : AV) (E : Env) : Env := match dst with | some d => (d, v) :: E | none => E

theorem finishC_some {R : Type} {ih : Cfg → Option R} {c : Cfg} {v : AV} {dst : Option Nat} {todo : List KI} {O : Objs} {r : R} (h : finishC ih c v dst todo O = some r) :
    ih { c with fr := { c.fr with env := putEnv dst v c.fr.env, todo }, objs := O } = some r ∧ ∀ d, dst = some d → d < c.fr.nt := by
  unfold finishC at h
  split at h
  · rename_i d
    split at h
    · rename_i hd
      exact ⟨h, fun d' e => by obtain rfl := Option.some.inj e; exact blt_lt hd⟩
    · simp at h
  · exact ⟨h, fun d e => by simp at e⟩

theorem EnvR.putEnv {g : Gm} {E : Env} {tmps : Array Value} (h : EnvR g E tmps) {dst : Option Nat} (hd : ∀ d, dst = some d → d < tmps.size) {v : AV} {val : Value} (hv : AVR g v val) :
    EnvR g (Ab.putEnv dst v E) ((⟨tmps, []⟩ : Act).put dst val).tmps ∧ ((⟨tmps, []⟩ : Act).put dst val).tmps.size = tmps.size ∧ (⟨tmps, []⟩ : Act).put dst val = ⟨((⟨tmps, []⟩ : Act).put dst val).tmps, []⟩ := by
  cases dst with
  | none => exact ⟨h, rfl, rfl⟩
  | some d => exact ⟨h.put (hd d rfl) hv, by simp [Act.put], rfl⟩

def bottom (c : Cfg) : Nat := (c.cs.getLast?.map (·.fid)).getD c.fr.fid

/-- No region stands open among the things to do. -/
def Shut (k : List KI) : Prop := ∀ x ∈ k, ∀ ops base is, x ≠ .reg ops base is

theorem Shut.head {k : List KI} (h : Shut k) : ∀ ops base is k', k ≠ .reg ops base is :: k' := fun ops base is k' e => h (.reg ops base is) (by rw [e]; simp) ops base is rfl

def CsReg (cs : List AFr) : Prop := ∀ f ∈ cs, ∃ ops base is k, f.todo = .reg ops base is :: k ∧ Shut k

/-- At most at the head. -/
def TopOk (k : List KI) : Prop := ∀ x ∈ k.tail, ∀ ops base is, x ≠ .reg ops base is
theorem Shut.top {k : List KI} (h : Shut k) : TopOk k := fun x hx => h x (List.mem_of_mem_tail hx)

theorem Nums.notReg {g : Gm} {hi : Nat} {f : AFr} {r : List AFr} (hf : ∀ ops base is k, f.todo ≠ .reg ops base is :: k) : Nums g hi (f :: r) ↔ Nums g hi r := by
  constructor
  · intro h
    unfold Nums at h
    split at h
    · rename_i heq; exact absurd heq (hf _ _ _ _)
    · exact h
  · intro h
    unfold Nums
    split
    · rename_i heq; exact absurd heq (hf _ _ _ _)
    · exact h

theorem Nums.isReg {g : Gm} {hi : Nat} {f : AFr} {r : List AFr} {ops : Array Oper} {base : Nat} {is : List Nat} {k : List KI} (hf : f.todo = .reg ops base is :: k) :
    Nums g hi (f :: r) ↔ (base8 ops base ≤ hi ∧ (∀ i ∈ is, i < ops.size ∧ ∀ j, j < 8 → ¬ g.dom (base + 8 * i + j)) ∧ is.Nodup ∧ Nums g base r) := by
  constructor
  · intro h
    unfold Nums at h
    rw [hf] at h
    exact h
  · intro h
    unfold Nums
    rw [hf]
    exact h

def Good {R : Type} (X : Ctx) (fin : AV → Objs → Option R) (c : Cfg) (r : R) : Prop :=
  ∀ (g : Gm) (w0 : World) (rf : Frame) (rcs : List Frame) (w : World) (cs0 : List Frame), CfgR X g w0 c rf rcs w → CsReg c.cs → TopOk c.fr.todo →
    ∃ rf' w' g' v val O', Steps X.P (lone rf (rcs ++ cs0) w) (lone rf' cs0 w') ∧ rf'.leaving X.P w' (.returned val) ∧ rf'.fn = bottom c ∧ fin v O' = some r ∧ AVR g' v val ∧ Rel X.G g' w0 O' w' ∧ Gm.Low g g'

section
variable {R : Type} {X : Ctx} {fin : AV → Objs → Option R} {r : R}

theorem Good.step {c c' : Cfg} (h : Good X fin c' r) (hb : bottom c' = bottom c)
    (hs : ∀ (g : Gm) (w0 : World) (rf : Frame) (rcs : List Frame) (w : World) (cs0 : List Frame), CfgR X g w0 c rf rcs w → CsReg c.cs → TopOk c.fr.todo →
      ∃ g' rf' rcs' w', Steps X.P (lone rf (rcs ++ cs0) w) (lone rf' (rcs' ++ cs0) w') ∧ CfgR X g' w0 c' rf' rcs' w' ∧ CsReg c'.cs ∧ TopOk c'.fr.todo ∧ Gm.Low g g') : Good X fin c r := by
  intro g w0 rf rcs w cs0 hc hr ht
  obtain ⟨g1, rf1, rcs1, w1, s1, c1, r1, t1, l1⟩ := hs g w0 rf rcs w cs0 hc hr ht
  obtain ⟨rf2, w2, g2, v, val, O', s2, h2, h3, h4, h5, h6, h7⟩ := h g1 w0 rf1 rcs1 w1 cs0 c1 r1 t1
  exact ⟨rf2, w2, g2, v, val, O', s1.trans s2, h2, h3.trans hb, h4, h5, h6, l1.trans h7⟩

/-- A step that changes the list of things to do alone. -/
theorem Good.todo {c : Cfg} {todo : List KI} (h : Good X fin { c with fr := { c.fr with todo } } r) (hnr : ∀ ops base is k, c.fr.todo ≠ .reg ops base is :: k) (hnr' : TopOk c.fr.todo → Shut todo)
    (hs : ∀ (b : Frame) (a : Act) (cs : List Frame) (w : World), Steps X.P (lone (b.at a (c.fr.todo.map KI.item)) cs w) (lone (b.at a (todo.map KI.item)) cs w)) : Good X fin c r := by
  refine h.step rfl fun g w0 rf rcs w cs0 hc hr ht => ?_
  obtain ⟨b, tmps, fn, rfl, h2, h3, h4, h5, h6⟩ := hc.top
  refine ⟨g, _, rcs, w, hs b ⟨tmps, []⟩ _ w, ⟨hc.rel, hc.B, ⟨b, tmps, fn, rfl, h2, h3, h4, h5, h6⟩, hc.cs, hc.nx, ?_⟩, hr, (hnr' ht).top, Gm.Low.refl g⟩
  exact (Nums.notReg (hnr' ht).head).2 ((Nums.notReg hnr).1 hc.nums)

/-- The values that 'results' collects, one by one. -/
theorem results_eq (tmps : Array Value) : ∃ F : ResultVar → Sem Value, (∀ fn : Func, results fn tmps = (do let vs ← fn.results.mapM F; pure (if h : vs.size = 1 then vs[0] else .tuple vs))) ∧
    (∀ t, F (.tmp t) = pure (tmps.getD t undef)) ∧ (∀ a t, F (.cell a t) = (do loadVar t (← asAddr (tmps.getD a undef)))) :=
  ⟨_, fun _ => rfl, fun _ => rfl, fun _ _ => rfl⟩

theorem resA_sound {g : Gm} {w0 w : World} {O : Objs} {E : Env} {tmps : Array Value} (hr : Rel X.G g w0 O w) (he : EnvR g E tmps) {F : ResultVar → Sem Value} (hF1 : ∀ t, F (.tmp t) = pure (tmps.getD t undef)) (hF2 : ∀ a t, F (.cell a t) = (do loadVar t (← asAddr (tmps.getD a undef))))
    {rv : ResultVar} {p : Bool × List Cell} (h : resA X E O rv = some p) : ∃ val, (F rv).run X.P w = .ok val w ∧ PartR g p val := by
  unfold resA at h
  split at h
  · split at h
    · rename_i c hl
      obtain rfl := Option.some.inj h
      exact ⟨_, by rw [hF1]; rfl, c, rfl, (he _ _ hl).2⟩
    · rename_i cs hl
      obtain rfl := Option.some.inj h
      exact ⟨_, by rw [hF1]; rfl, (he _ _ hl).2⟩
    · simp at h
  · rename_i a t
    split at h
    · rename_i p' hl
      split at h
      · rename_i cs hcs hty
        split at h
        · rename_i c hm
          obtain rfl := Option.some.inj h
          obtain ⟨val, h1, h2⟩ := load_sound (P := X.P) hr hty hcs rfl hm (he _ _ hl).2
          obtain ⟨b, o, vs, hv, _⟩ := cellsAt_sound hr hcs rfl (he _ _ hl).2
          refine ⟨val, ?_, c, rfl, h2⟩
          rw [hv] at h1
          simp only [hF2, hv, asAddr, Sem.run_bind, Sem.run_pure, Result.andThen_ok]
          simpa [Instr.loadAt, Instr.sureAddr] using h1
        · rename_i cs' hm
          obtain rfl := Option.some.inj h
          obtain ⟨val, h1, h2⟩ := load_sound (P := X.P) hr hty hcs rfl hm (he _ _ hl).2
          obtain ⟨b, o, vs, hv, _⟩ := cellsAt_sound hr hcs rfl (he _ _ hl).2
          refine ⟨val, ?_, h2⟩
          rw [hv] at h1
          simp only [hF2, hv, asAddr, Sem.run_bind, Sem.run_pure, Result.andThen_ok]
          simpa [Instr.loadAt, Instr.sureAddr] using h1
        · simp at h
      · simp at h
    · simp at h

theorem results_sound {g : Gm} {w0 w : World} {O : Objs} {E : Env} {tmps : Array Value} (hr : Rel X.G g w0 O w) (he : EnvR g E tmps) {fn : Func} {v : AV} (h : resultsA X fn E O = some v) :
    ∃ val, (results fn tmps).run X.P w = .ok val w ∧ AVR g v val := by
  obtain ⟨F, hF0, hF1, hF2⟩ := results_eq tmps
  unfold resultsA at h
  split at h
  · rename_i l hl
    have key : ∀ (rs : List ResultVar) (l : List (Bool × List Cell)), rs.mapM (resA X E O) = some l →
        ∃ vals, (rs.mapM F).run X.P w = .ok vals w ∧ All2 (PartR g) l vals := by
      intro rs
      induction rs with
      | nil => intro l hl; simp at hl; subst hl; exact ⟨[], by simp, trivial⟩
      | cons rv rs ih =>
        intro l hl
        simp only [List.mapM_cons, Option.pure_def, Option.bind_eq_bind, Option.bind_eq_some_iff] at hl
        obtain ⟨p, hp, l', hl', he'⟩ := hl
        obtain rfl := Option.some.inj he'
        obtain ⟨val, v1, v2⟩ := resA_sound hr he hF1 hF2 hp
        obtain ⟨vals, w1, w2⟩ := ih l' hl'
        refine ⟨val :: vals, ?_, v2, w2⟩
        simp only [List.mapM_cons, Sem.run_bind, Sem.run_pure]
        rw [v1]; simp only [Result.andThen_ok]
        rw [w1]; rfl
    obtain ⟨vals, w1, w2⟩ := key _ _ hl
    refine ⟨if hh : vals.toArray.size = 1 then vals.toArray[0] else .tuple vals.toArray, ?_, ?_⟩
    · rw [hF0]
      simp only [Array.mapM_eq_mapM_toList, Sem.run_bind, Sem.run_map, Sem.run_pure]
      rw [w1]; rfl
    · refine layVal_sound h w2 ?_
      by_cases hh : vals.length = 1
      · left
        obtain ⟨u, rfl⟩ := List.length_eq_one_iff.1 hh
        simp
      · right
        exact ⟨hh, by simp [hh]⟩
  · simp at h

/-! ### The steps of the machine at an operation -/
section
variable {P : Program} {b : Frame} {a : Act} {k : List Item} {cs : List Frame} {w : World} {ops : Array Oper}
theorem step_value {i : Nat} {rest : List Nat} {o : Oper} (ho : ops[i]? = some o) (hw : Region.wanted o (yielded ops a.tmps) = true) {n : Next} {w' : World} {val : Value}
    (hr : (execOp a.eval o).run P w = .ok n w') (hn : n = .value val ∨ (n = .skip ∧ val = undef)) :
    step P (lone (b.at a (.inRegion ops (i :: rest) :: k)) cs w) = .next (lone (b.at (a.put o.dst val) (.inRegion ops rest :: k)) cs w') := by
  have hg := stepG_op (P := P) (b := b) (k := k) (cs := cs) (w := w) (rest := rest) ho hw
  have hfin : ∀ v, (b.at a (.inRegion ops (i :: rest) :: k)).finish v = b.at (a.put o.dst v) (.inRegion ops rest :: k) := by
    intro v; rw [Frame.finish_at, ho]; rfl
  refine step_lone_go ?_
  rcases hn with rfl | ⟨rfl, rfl⟩
  · rw [hg, ← hfin]; simp [stepG.apply, hr]
  · rw [hg, ← hfin]; simp [stepG.apply, hr]

theorem step_enter {i : Nat} {rest : List Nat} {o : Oper} (ho : ops[i]? = some o) (hw : Region.wanted o (yielded ops a.tmps) = true) {f : FuncId} {args : Array Value}
    (hr : (execOp a.eval o).run P w = .ok (.enter f args) w) :
    step P (lone (b.at a (.inRegion ops (i :: rest) :: k)) cs w) = .next (lone (Frame.enter P f args .normal) (b.at a (.inRegion ops (i :: rest) :: k) :: cs) w) := by
  have hg := stepG_op (P := P) (b := b) (k := k) (cs := cs) (w := w) (rest := rest) ho hw
  exact step_lone_go (by rw [hg]; simp [stepG.apply, hr, Frame.at])
end

theorem map_exitK (id : Nat) : ∀ (k k' : List KI), exitK id k = some k' → exitTo id (k.map KI.item) = some (k'.map KI.item)
  | [], k', h => by simp [exitK] at h
  | x :: k, k', h => by
    cases x <;> simp only [exitK, List.map_cons, KI.item, exitTo] at h ⊢ <;> try exact map_exitK id k k' h
    rename_i id'
    split at h
    · rename_i hb
      obtain rfl := Option.some.inj h
      have := Nat.eq_of_beq_eq_true hb
      simp [this]
    · rename_i hb
      have : (id' == id) = false := by
        cases hq : id' == id with
        | false => rfl
        | true => simp at hq; subst hq; rw [beq_same] at hb; simp at hb
      simp only [this, Bool.false_eq_true, if_false]
      exact map_exitK id k k' h

end
end Go.Ab

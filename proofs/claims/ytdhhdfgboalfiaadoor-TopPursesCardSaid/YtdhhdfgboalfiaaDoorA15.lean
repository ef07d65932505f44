/- The abstract evaluator is sound: what it comes to, the machine comes to. -/
import Derived.Test.YtdhhdfgboalfiaaDoorA14
set_option linter.unusedVariables false
set_option linter.unusedSimpArgs false
namespace Go.Ab
open Go.RowKit

section
variable {R : Type} {X : Ctx} {fin : AV → Objs → Option R} {r : R}

theorem bottom_cons (fr fr' : AFr) (cs : List AFr) (O O' : Objs) (n n' : Nat) : bottom ⟨fr', fr :: cs, O, n⟩ = bottom ⟨fr, cs, O', n'⟩ := by
  unfold bottom
  cases cs with
  | nil => simp
  | cons a l =>
    obtain ⟨x, hx⟩ : ∃ x, (a :: l).getLast? = some x := ⟨_, List.getLast?_eq_some_getLast (by simp)⟩
    simp [List.getLast?_cons_cons, hx]

theorem bottom_fr {fr fr' : AFr} {cs : List AFr} {O O' : Objs} {n n' : Nat} (h : fr.fid = fr'.fid) : bottom ⟨fr, cs, O, n⟩ = bottom ⟨fr', cs, O', n'⟩ := by
  unfold bottom; simp [h]

/-- Behind an operation: the configuration with its value laid in. -/
theorem CfgR.after {g g' : Gm} {w0 w' : World} {fr : AFr} {cs : List AFr} {rcs : List Frame} {O' : Objs} {nx : Nat} {b : Frame} {tmps : Array Value} {fn : Func} {ops : Array Oper} {base i : Nat} {is : List Nat} {k : List KI} {E : Env}
    (hB : g.B = w0.heap.size) (hcs : All2 (FrR X g) cs rcs) (hnx : ∀ i, g.dom i → i < nx) (hn : Nums g nx ({ fr with todo := .reg ops base (i :: is) :: k } :: cs))
    (h2 : b.fn = fr.fid) (h3 : b.kind = .normal) (h4 : X.P.funcs[fr.fid]? = some fn) (h5 : tmps.size = fr.nt)
    (le : Gm.Le g g') (hdom : ∀ n, g'.dom n → g.dom n ∨ (base + 8 * i ≤ n ∧ n < base + 8 * i + 8)) (hE : EnvR g' E tmps) (hrel : Rel X.G g' w0 O' w') {v : AV} {val : Value} {dst : Option Nat} (hv : AVR g' v val) (hd : ∀ d, dst = some d → d < fr.nt) :
    CfgR X g' w0 { fr := { fr with env := putEnv dst v E, todo := .reg ops base is :: k }, cs := cs, objs := O', nx := nx }
      (b.at ((⟨tmps, []⟩ : Act).put dst val) ((KI.reg ops base is :: k).map KI.item)) rcs w' := by
  obtain ⟨n1, n2, n3, n4⟩ := (Nums.isReg rfl).1 hn
  obtain ⟨e1, e2, e3⟩ := hE.putEnv (dst := dst) (fun d hd' => by rw [h5]; exact hd d hd') hv
  have hi := n2 i (by simp)
  have hlt : base + 8 * i + 8 ≤ base8 ops base := by have := hi.1; unfold base8; omega
  refine ⟨hrel, by rw [le.low.B]; exact hB, ⟨b, _, fn, by rw [e3], h2, h3, h4, by rw [e2]; exact h5, e1⟩, hcs.mono fun _ _ => FrR.mono le, fun n hn' => ?_, ?_⟩
  · rcases hdom n hn' with h | h
    · exact hnx n h
    · simp only; omega
  · refine (Nums.isReg rfl).2 ⟨n1, fun i' hi' => ?_, (List.nodup_cons.1 n3).2, n4.mono (Nat.le_refl _) fun n hn' hd' => ?_⟩
    · have h' := n2 i' (by simp [hi'])
      refine ⟨h'.1, fun j hj hdj => ?_⟩
      rcases hdom _ hdj with h | h
      · exact h'.2 j hj h
      · have : i' ≠ i := fun e => by subst e; exact (List.nodup_cons.1 n3).1 hi'
        omega
    · rcases hdom n hd' with h | h
      · exact h
      · omega

theorem enterEnv_look : ∀ (l : List AV) (i t : Nat) (v : AV), look (enterEnv i l) t = some v → i ≤ t ∧ l[t - i]? = some v
  | [], i, t, v, h => by simp [enterEnv, look] at h
  | a :: l, i, t, v, h => by
    unfold enterEnv at h
    rw [look_cons] at h
    by_cases e : i = t
    · subst e; simp at h; subst h; simp
    · simp [e] at h
      obtain ⟨h1, h2⟩ := enterEnv_look l (i + 1) t v h
      refine ⟨by omega, ?_⟩
      rw [show t - i = (t - (i + 1)) + 1 by omega]; simpa using h2

theorem All2.of_mapM {g : Gm} {E : Env} {tmps : Array Value} (he : EnvR g E tmps) : ∀ {l : List Operand} {vs : List AV}, l.mapM (evalA X.G E) = some vs → All2 (AVR g) vs (l.map (⟨tmps, []⟩ : Act).eval)
  | [], vs, h => by simp at h; subst h; trivial
  | x :: l, vs, h => by
    simp only [List.mapM_cons, Option.pure_def, Option.bind_eq_bind, Option.bind_eq_some_iff] at h
    obtain ⟨v, hv, vs', hvs, he'⟩ := h
    obtain rfl := Option.some.inj he'
    exact ⟨evalA_sound he hv, All2.of_mapM he hvs⟩

/-- Calling a function value. -/
theorem run_call (hX : CtxOk X) {ρ : Operand → Value} {o : Oper} {cl : Call} {f : Operand} (ho : o.op = .call cl) (hc : cl.callee = .value f) {n : Nat} {caps : List Value} (hf : ρ f = .func (.func n) #[] caps.toArray)
    {fn : Func} (hfn : X.P.funcs[n]? = some fn) (hbd : fn.body.isSome = true) (w : World) :
    (execOp ρ o).run X.P w = .ok (.enter n ((cl.args.toList.map ρ ++ caps).toArray)) w := by
  have hnm := hX.name n fn hfn hbd
  have hbn : fn.body.isNone = false := by cases hh : fn.body <;> simp_all
  have hargs : cl.args.map ρ ++ caps.toArray = (cl.args.toList.map ρ ++ caps).toArray := by apply Array.ext'; simp
  have hnm' : ¬ (fn.name = "runtime.NumGoroutine") := by simpa using hnm
  simp only [execOp, ho, resolve, hc, hf, Deferred.ofValue, Sem.run_bind, Sem.run_pure, Result.andThen_ok, invoke, callFunc, run_program, hfn, Array.empty_append, hargs]
  simp [hnm', hbn]

variable {ih rec : Cfg → Option R}

theorem operC_sound (hX : CtxOk X) (hih : ∀ c r, ih c = some r → Good X fin c r) {k0 : Nat} {c : Cfg} {ops : Array Oper} {base i : Nat} {is : List Nat} {k : List KI} {o : Oper} (ho : ops[i]? = some o)
    (h : operC X k0 ih c ops base i is k o = some r) (hk : Shut k) {g : Gm} {w0 w : World} {rcs cs0 : List Frame} {b : Frame} {tmps : Array Value} {fn : Func} (hrel : Rel X.G g w0 c.objs w)
    (hB : g.B = w0.heap.size) (hcs : All2 (FrR X g) c.cs rcs) (hreg : CsReg c.cs) (hnx : ∀ i, g.dom i → i < c.nx) (hn : Nums g c.nx ({ c.fr with todo := .reg ops base (i :: is) :: k } :: c.cs))
    (h2 : b.fn = c.fr.fid) (h3 : b.kind = .normal) (h4 : X.P.funcs[c.fr.fid]? = some fn) (h5 : tmps.size = c.fr.nt) (hE : EnvR g c.fr.env tmps) (hw : Region.wanted o (yielded ops tmps) = true) :
    ∃ rf' w' g' v val O', Steps X.P (lone (b.at ⟨tmps, []⟩ ((KI.reg ops base (i :: is) :: k).map KI.item)) (rcs ++ cs0) w) (lone rf' cs0 w') ∧ rf'.leaving X.P w' (.returned val) ∧ rf'.fn = bottom c ∧ fin v O' = some r ∧ AVR g' v val ∧ Rel X.G g' w0 O' w' ∧ Gm.Low g g' := by
  obtain ⟨n1, n2, n3, n4⟩ := (Nums.isReg rfl).1 hn
  have hfree : ¬ g.dom (base + 8 * i) := (n2 i (by simp)).2 0 (by omega)
  have hev : ∀ x v, evalA X.G c.fr.env x = some v → AVR g v ((⟨tmps, []⟩ : Act).eval x) := fun x v hx => evalA_sound hE hx
  -- behind the operation
  have after : ∀ {g' : Gm} {w' : World} {v : AV} {val : Value} {O' : Objs}, finishC ih c v o.dst (.reg ops base is :: k) O' = some r →
      Steps X.P (lone (b.at ⟨tmps, []⟩ ((KI.reg ops base (i :: is) :: k).map KI.item)) (rcs ++ cs0) w) (lone (b.at ((⟨tmps, []⟩ : Act).put o.dst val) ((KI.reg ops base is :: k).map KI.item)) (rcs ++ cs0) w') →
      Gm.Le g g' → (∀ n, g'.dom n → g.dom n ∨ (base + 8 * i ≤ n ∧ n < base + 8 * i + 8)) → AVR g' v val → Rel X.G g' w0 O' w' →
      ∃ rf' w' g' v val O', Steps X.P (lone (b.at ⟨tmps, []⟩ ((KI.reg ops base (i :: is) :: k).map KI.item)) (rcs ++ cs0) w) (lone rf' cs0 w') ∧ rf'.leaving X.P w' (.returned val) ∧ rf'.fn = bottom c ∧ fin v O' = some r ∧ AVR g' v val ∧ Rel X.G g' w0 O' w' ∧ Gm.Low g g' := by
    intro g' w' v val O' hf hs le hdom hv hr'
    obtain ⟨hi, hd⟩ := finishC_some hf
    have hc' := CfgR.after (fr := c.fr) hB hcs hnx hn h2 h3 h4 h5 le hdom (hE.mono le) hr' hv hd
    obtain ⟨rf2, w2, g2, v2, val2, O2, s2, q2, q3, q4, q5, q6, q7⟩ := hih _ r hi g' w0 _ rcs w' cs0 hc' hreg (fun x hx => hk x hx)
    exact ⟨rf2, w2, g2, v2, val2, O2, hs.trans s2, q2, q3.trans (bottom_fr rfl), q4, q5, q6, le.low.trans q7⟩
  have viaOp : opA X.P X.G c.objs (evalA X.G c.fr.env) (base + 8 * i) o (fun v O => finishC ih c v o.dst (.reg ops base is :: k) O) = some r →
      ∃ rf' w' g' v val O', Steps X.P (lone (b.at ⟨tmps, []⟩ ((KI.reg ops base (i :: is) :: k).map KI.item)) (rcs ++ cs0) w) (lone rf' cs0 w') ∧ rf'.leaving X.P w' (.returned val) ∧ rf'.fn = bottom c ∧ fin v O' = some r ∧ AVR g' v val ∧ Rel X.G g' w0 O' w' ∧ Gm.Low g g' := by
    intro h
    obtain ⟨v, O', h1, n, w', val, g', hrun, hn', le, hdom, hv, hr'⟩ := opA_sound hrel hfree hev h
    exact after h1 (.one (step_value ho hw hrun hn')) le (fun m hm => by rcases hdom m hm with h | rfl; exact .inl h; exact .inr ⟨Nat.le_refl _, by omega⟩) hv hr'
  unfold operC at h
  split at h
  · rename_i cl hop
    split at h
    · rename_i f hcal
      split at h
      · rename_i gf caps args hf hargs
        obtain ⟨cv, hfv, hca⟩ := hev _ _ hf
        have hargsR : All2 (AVR g) args (cl.args.toList.map (⟨tmps, []⟩ : Act).eval) := All2.of_mapM hE hargs
        have hall : All2 (AVR g) (args ++ caps.map fun a => .c (.a a)) (cl.args.toList.map (⟨tmps, []⟩ : Act).eval ++ cv) := hargsR.append (hca.map_left (S := AVR g) (h := fun a => AV.c (.a a)) fun _ _ h => h)
        unfold callC at h
        split at h
        · rename_i co hco
          obtain ⟨v, O', h1, hcalls⟩ := conA_sound hX hB hrel hco h (vals := (cl.args.toList.map (⟨tmps, []⟩ : Act).eval ++ cv).toArray) (by simpa using hall)
          obtain ⟨_, _, fn', hfn', hbd'⟩ := hX.con gf co hco
          have hrun := run_call hX (ρ := (⟨tmps, []⟩ : Act).eval) hop hcal hfv hfn' hbd' w
          obtain ⟨e, w', fr, ⟨val, g', rfl, le, hdom, hv, hr'⟩, hcomes, _, hleave⟩ := hcalls (b.at ⟨tmps, []⟩ ((KI.reg ops base (i :: is) :: k).map KI.item) :: (rcs ++ cs0))
          refine after h1 (.head (step_enter ho hw hrun) (Steps.trans hcomes (.one ?_))) le hdom hv hr'
          have hfin : (b.at ⟨tmps, []⟩ (.inRegion ops (i :: is) :: k.map KI.item)).finish val = b.at ((⟨tmps, []⟩ : Act).put o.dst val) (.inRegion ops is :: k.map KI.item) := by
            rw [Frame.finish_at, ho]; rfl
          have := step_leave_returned (c := b.at ⟨tmps, []⟩ (.inRegion ops (i :: is) :: k.map KI.item)) (cs := rcs ++ cs0) hleave
          rw [hfin] at this
          exact this
        · split at h
          · rename_i fn' hfn'
            split at h
            · rename_i bd hbd
              have hrun := run_call hX (ρ := (⟨tmps, []⟩ : Act).eval) hop hcal hfv hfn' (by simp [hbd]) w
              have henter : Frame.enter X.P gf (cl.args.toList.map (⟨tmps, []⟩ : Act).eval ++ cv).toArray .normal =
                  ({ (default : Frame) with fn := gf, kind := .normal } : Frame).at ⟨(cl.args.toList.map (⟨tmps, []⟩ : Act).eval ++ cv).toArray ++ Array.replicate (fn'.ntmps - (cl.args.toList.map (⟨tmps, []⟩ : Act).eval ++ cv).toArray.size) undef, []⟩ ([KI.code bd].map KI.item) := by
                simp [Frame.enter, Frame.at, hfn', hbd, KI.item]
              have hlen := hall.length
              have hc' : CfgR X g w0 { c with fr := { fid := gf, nt := max fn'.ntmps (args ++ caps.map fun a => AV.c (.a a)).length, env := enterEnv 0 (args ++ caps.map fun a => .c (.a a)), todo := [.code bd] }, cs := { c.fr with todo := .reg ops base (i :: is) :: k } :: c.cs }
                  (Frame.enter X.P gf (cl.args.toList.map (⟨tmps, []⟩ : Act).eval ++ cv).toArray .normal) (b.at ⟨tmps, []⟩ ((KI.reg ops base (i :: is) :: k).map KI.item) :: rcs) w := by
                refine ⟨hrel, hB, ?_, ⟨⟨b, tmps, fn, rfl, h2, h3, h4, h5, hE⟩, hcs⟩, hnx, (Nums.notReg (by intro _ _ _ _ e; simp at e)).2 hn⟩
                rw [henter]
                refine ⟨_, _, fn', rfl, rfl, rfl, hfn', ?_, fun t v hl => ?_⟩
                · simp only [Array.size_append, List.size_toArray, Array.size_replicate, hlen]; omega
                · obtain ⟨_, hl'⟩ := enterEnv_look _ _ _ _ hl
                  obtain ⟨u, hu, hr'⟩ := hall.get _ _ hl'
                  have hlt := (List.getElem?_eq_some_iff.1 hu).1
                  refine ⟨by simp only [Array.size_append, List.size_toArray]; omega, ?_⟩
                  rw [Array.getD_eq_getD_getElem?, Array.getElem?_append_left (by simpa using hlt)]
                  simp only [Nat.sub_zero] at hu
                  rw [List.getElem?_toArray, hu]; exact hr'
              obtain ⟨rf2, w2, g2, v2, val2, O2, s2, q2, q3, q4, q5, q6, q7⟩ := hih _ r h g w0 _ _ w cs0 hc' (fun f hf => by
                rcases List.mem_cons.1 hf with rfl | hf
                · exact ⟨ops, base, i :: is, k, rfl, hk⟩
                · exact hreg f hf) (fun x hx => by simp at hx)
              refine ⟨rf2, w2, g2, v2, val2, O2, .head (step_enter ho hw hrun) s2, q2, q3.trans ?_, q4, q5, q6, q7⟩
              rw [bottom_cons _ _ _ _ c.objs _ c.nx]; exact bottom_fr rfl
            · simp at h
          · simp at h
      · simp at h
    · exact viaOp h
  · exact viaOp h
end
end Go.Ab

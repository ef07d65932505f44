import Derived.Test.YtdhhdfgboalfiaaDoorR1
import Derived.Test.YtdhhdfgboalfiaaDoorP3
import Derived.Test.YtdhhdfgboalfiaaDoorRows
import Derived.WalkKit
import Derived.ProofKit
import Derived.OpenShut
import Derived.ShutString
import Derived.ChangeOld
import Derived.Below
import Derived.SizedLaws
import Derived.Carry
import Derived.Lay
import Derived.LaidLaws
import Derived.Handed
import Derived.WideShapes
import Derived.ChangeVars
import Derived.ChangeSame
set_option linter.unusedVariables false
set_option maxRecDepth 100000
namespace Go.Ab

/-- A table of whole numbers, out of what it reads as. -/
theorem cells_of_ints {H : Type} {enc : TypeId × Value → H} {P : Program} {w : World} {base : Nat} {sp : Nat → Bool} {held : Bool} {fuel t e n : Nat} {k : IntKind} {cs : List Value} {ns : List Int} {p : List MemPlace}
    (ht : P.underlying t = some (.array n e)) (he : P.underlying e = some (.int k)) (hce : P.cellsOf e = 1) (hct : P.cellsOf t = n) (h : DataW.trod enc P w base sp held fuel t cs = some (.agg (ns.map fun m => .lit (.int k m)), p)) :
    cs = ns.map (Value.int k) := by
  obtain ⟨xs, m, _, hx, hlen, hxs, hel⟩ := DataW.trod_array ht h
  have hd : ns.map (fun m => (DataW.lit (.int k m) : DataW H)) = xs.map (·.1) := by
    have := congrArg Prod.fst hx
    simpa using this
  have hnl : ns.length = n := by
    have := congrArg List.length hd
    simp at this; omega
  refine List.ext_getElem? fun i => ?_
  rcases Nat.lt_or_ge i n with hi | hi
  · have h1 := hel i hi
    rw [hce, Nat.mul_one] at h1
    have hsm : ∃ z, xs[i]? = some z := ⟨xs[i]'(by omega), by simp [show i < xs.length by omega]⟩
    obtain ⟨z, hz⟩ := hsm
    obtain ⟨q, hq, hz2, _⟩ := DataW.trod_int he (h1.trans hz)
    have hc : cs[i]? = some (.int k q) := by
      have := congrArg (fun l => l[0]?) hq
      simpa using this
    have h2 := congrArg (fun l => l[i]?) hd
    simp only [List.getElem?_map, hz, hz2, Option.map_some] at h2
    rw [hc, List.getElem?_map]
    cases hn : ns[i]? with
    | none => rw [hn] at h2; simp at h2
    | some a =>
      rw [hn] at h2
      simp at h2
      simp [h2]
  · rw [List.getElem?_eq_none (by omega), List.getElem?_eq_none (by simp; omega)]

theorem ints_rel {g : Gm} {k : IntKind} : ∀ (ns : List Int), All2 (CellR g) (ns.map fun n => Cell.a (.v (.int k) n)) (ns.map (Value.int k))
  | [] => trivial
  | n :: ns => ⟨⟨rfl, rfl⟩, ints_rel ns⟩
end Go.Ab

namespace Go.Proofs.YtdhhdfgboalfiaaDoor.topPurses
open Go.ChangeShapes Go.WideShapes Go.RowKit Go.Ab
theorem own : ownKnob Tryd.prog.godebug = none := by kernel_rfl
theorem laidOut : laidOutB Tryd.prog = true := by kernel_rfl

abbrev laid : List (String × DataW Unit) := [("math/bits.deBruijn32tab", Rows.laid_math_bits_deBruijn32tab), ("math/bits.deBruijn64tab", Rows.laid_math_bits_deBruijn64tab), ("internal/strconv.uint64pow10", Rows.laid_internal_strconv_uint64pow10), ("billing/amount.powers", Rows.laid_billing_amount_powers)]

theorem globs {W : World} (h : laidMet Tryd.prog laid W) : GlobR Go.Ab.T.gT (fun b => W.heap[b]?) := by
  obtain ⟨ps, ⟨_, _, _, _, _, _, _, _, _, _, ⟨_, _, _, _, _, _, _, _, _, _, ⟨_, _, _, _, _, _, _, _, _, _, ⟨g, t, cs, fuel, p, q, hg, ht, hvar, hd, _⟩, _⟩, _⟩, _⟩, _⟩ := h
  have e0 : Tryd.prog.globalNamed "billing/amount.powers" = some 0 := by kernel_rfl
  obtain rfl := Option.some.inj (e0.symm.trans hg)
  have ht0 : ∃ t0 e, (Tryd.prog.globals[0]?).map (·.type) = some t0 ∧ Tryd.prog.underlying t0 = some (.array 5 e) ∧ Tryd.prog.underlying e = some (.int .i64) ∧ Tryd.prog.cellsOf e = 1 ∧ Tryd.prog.cellsOf t0 = 5 := by
    exact ⟨122, 3, by kernel_rfl, by kernel_rfl, by kernel_rfl, by kernel_rfl, by kernel_rfl⟩
  obtain ⟨t0, e, a1, a2, a3, a4, a5⟩ := ht0
  obtain rfl := Option.some.inj (a1.symm.trans ht)
  have hcs := cells_of_ints (ns := [1, 10, 100, 1000, 10000]) a2 a3 a4 a5 hd
  intro n cells hn
  unfold Go.Ab.T.gT at hn
  split at hn
  · obtain rfl := Option.some.inj hn
    unfold World.var? at hvar
    rw [hg] at hvar
    simp only [Option.bind_some] at hvar
    split at hvar
    · rename_i c e fr hh
      obtain rfl := Option.some.inj hvar
      refine ⟨c, e, fr, hh, fun g _ => ?_⟩
      rw [hcs]
      exact ints_rel [1, 10, 100, 1000, 10000]
    · simp at hvar
  · simp at hn

theorem getD_lt {α : Type} (l : List α) (i : Nat) (d : α) (h : i < l.length) : List.getD l i d = l[i] := by
  rw [List.getD_eq_getElem?_getD, List.getElem?_eq_getElem h]; rfl

theorem walk {H : Type} {enc : TypeId × Value → H} {W : World} {v0 : Value} {d0 : DataW H} {p0 : List MemPlace} (hv : ∃ cs, v0 = .agg cs ∧ cs.size = Tryd.prog.cellsOf 24) (h0 : DataW.Trod enc Tryd.prog W 0 (fun _ => true) true 24 v0 d0 p0)
    (hL : laidMet Tryd.prog laid W) : Calls Tryd.prog 3 #[v0] W fun e w' => e = .returned (.bool true) ∧ Below W.heap.size W w' := by
  obtain ⟨fuel, hf⟩ := h0
  obtain ⟨cs, rfl, hsz⟩ := hv
  obtain ⟨y, hy, wy⟩ := opens (P := Tryd.prog) 20 24 (.pair (.int .i64) (.pair (.int .i64) (.pair (.int .i64) (.pair (.int .i64) (.lst (.pair (.int .u8) (.pair (.int .i64) (.int .i64)))))))) (by kernel_rfl) (by kernel_rfl) _ _ _ hf
  obtain ⟨ac, b, f, h, l0⟩ := y
  obtain ⟨l, hl⟩ : ∃ l : List Go.Ab.T.Deed, l = l0 := ⟨l0, rfl⟩
  subst hl
  have hx : ∀ x ∈ l, Go.Ab.T.DeedOk x := by
    intro x hm
    obtain ⟨i, hi, rfl⟩ := List.mem_iff_getElem.1 hm
    have := wy.2.2.2.2.2 i hi
    have this : WfEl (.pair (.int .u8) (.pair (.int .i64) (.int .i64))) (List.getD l i (El.dflt (.pair (.int .u8) (.pair (.int .i64) (.int .i64))))) := this
    have e : List.getD l i (El.dflt (.pair (.int .u8) (.pair (.int .i64) (.int .i64)))) = l[i] := by
      exact getD_lt l i _ hi
    have this2 : ∀ z : Go.Ab.T.Deed, List.getD l i (El.dflt (.pair (.int .u8) (.pair (.int .i64) (.int .i64)))) = z → WfEl (.pair (.int .u8) (.pair (.int .i64) (.int .i64))) z := fun z hz => by subst hz; exact this
    obtain ⟨_, w1, w2⟩ := this2 _ e
    have k1 : (Lit.int .i64 (l[i].2.1)).wf = true := w1
    have k2 : (Lit.int .i64 (l[i].2.2)).wf = true := w2
    simp [Lit.wf, IntKind.min, IntKind.max, IntKind.signed, IntKind.bits] at k1 k2
    exact ⟨k1.1, k1.2, k2.1, k2.2⟩
  have hF : Go.Ab.T.tp 191 (ac, b, f, h, l) = some true := Go.Ab.T.tp_val (k := 0) hx
  have hlen : cs.toList.length = 5 := by
    have := K.length _ _ _ hy
    exact this
  refine (Go.Ab.T.con3 191 (ac, b, f, h, l) true hF W (fun b => W.heap[b]?) cs.toList #[.agg cs] hy ⟨by omega, ?_, ?_⟩ (fun _ _ h => h) (globs hL)).mono ?_
  · rw [List.take_of_length_le (by omega)]
  · rw [List.drop_eq_nil_of_le (by omega)]; exact trivial
  · rintro e w' ⟨v, vs, out, fz', rfl, hb, hk, hl, ho, _, _⟩
    refine ⟨?_, hb⟩
    have hk' : out = [.bool true] := hk
    subst hk'
    match vs, hl with
    | [u], hl =>
      obtain ⟨rfl, _⟩ := hl
      rcases ho with ho | ⟨ho, _⟩
      · exact congrArg Ending.returned (List.cons.inj ho).1.symm
      · simp at ho

theorem lifted (os : Os) (started : os.Started) (H : Type) (enc : TypeId × Value → H) :
    ReturnsInHanded {} Tryd.checked os 3 .any (fun w args => (Rows.topPursesSpec.pre enc Tryd.prog Tryd.f3 [] false w args ∧ laidMet Tryd.prog laid w) ∧ sizedMet enc Tryd.prog Tryd.f3 (OpenSpec.ofChange Rows.topPursesSpec) false w args)
      (Rows.topPursesSpec.post enc Tryd.prog Tryd.f3 false true false false) := by
  refine returnsInHanded_of_change_and (C := Tryd.checked) (X := fun w _ => laidMet Tryd.prog laid w) (fun _ _ _ hh h => h.of_heap hh) own started (by kernel_rfl) Tryd.func3
    (ChangeSpec.witness_shaped (enc := enc) (C := Tryd.checked) (os := os) (X := fun w _ => laidMet Tryd.prog laid w) false (World.laidAll Tryd.prog os laid) #[.agg #[.int .i64 0, .int .i64 0, .int .i64 0, .int .i64 0, .slice none 0 0]] 8 (World.laidAll_os _ _ _) (World.shaped_of_ZipB (by kernel_rfl) (by kernel_rfl)) (by kernel_rfl) (by kernel_rfl) (by kernel_rfl) (laidMet_laidAll _ (by kernel_rfl) (by kernel_rfl))) ?_
  intro W base args ds gs before hval0 hW _ _ hL _
  have hval : ∀ (j : Nat) t v, Tryd.f3.params[j]? = some t → args[j]? = some v → Value.okWide Tryd.prog W .any base t v := hval0
  have hW' := hW
  obtain ⟨p, q, hA0, hV, rfl, hfz, hnd⟩ := hW
  have hA : DataW.TrodAll enc Tryd.prog W 0 (fun _ => true) true Tryd.f3.params.toList args.toList ds p := hA0
  rw [Tryd.params3] at hA hval
  obtain ⟨v0, vs0, d0, ds0, p0, q0, hargs, rfl, rfl, h0, r0⟩ := trodAll_cons hA
  obtain ⟨rfl, rfl, rfl⟩ := trodAll_nil r0
  obtain rfl : args = #[v0] := by cases args; simp_all
  obtain ⟨rfl, rfl⟩ := trodVars_none hV
  have k0 := h0
  have lt0 : ∀ x ∈ p0, x.block < W.heap.size := by obtain ⟨m, hm⟩ := k0; exact DataW.trod_lt m _ _ _ hm
  have hag := okWide_struct Tryd.underlying24 (hval 0 24 v0 rfl rfl)
  clear hA0 hval0
  refine (walk hag h0 hL).mono fun e W' ⟨he, bel⟩ => ?_
  subst he
  exact ⟨_, rfl, _, _, _, [], _, [], hW', trodAll_mk1 (shut_bool Tryd.underlying4 _), (trodAll_cons_mk (Below.trod laidOut (by kernel_rfl) (of_decide_eq_true (by kernel_rfl)) k0 bel lt0) trodAll_mk0), rfl, bel.frame _, fun h => by cases h⟩

theorem over : Rows.topPursesRow.holds Tryd.pinned (OpenSpec.ofChange Rows.topPursesSpec) :=
  OpenClaim.holds_of_wide 3 Tryd.f3 rfl rfl rfl rfl rfl rfl rfl ⟨rfl, rfl, rfl, rfl, rfl⟩ rfl rfl rfl rfl rfl (by kernel_rfl) Tryd.func3 (by kernel_rfl)
    (of_decide_eq_true (by kernel_rfl)) (by unfold Func.isWrapper; first | (rw [if_pos (by decide +kernel)]; kernel_rfl) | (rw [if_neg (by decide +kernel)]; exact ⟨rfl, rfl⟩))
    (fun os started H enc _ => lifted os started H enc)
theorem proved : Rows.TopPursesSaid := over
#print axioms proved
end Go.Proofs.YtdhhdfgboalfiaaDoor.topPurses

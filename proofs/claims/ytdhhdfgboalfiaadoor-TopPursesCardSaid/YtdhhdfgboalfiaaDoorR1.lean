import Derived.Test.YtdhhdfgboalfiaaDoorE1
import Derived.Test.YtdhhdfgboalfiaaDoorA19
import Derived.Test.YtdhhdfgboalfiaaDoorChecked
set_option linter.unusedVariables false
set_option maxRecDepth 100000
namespace Go.Ab

theorem CtxOk.add {X : Ctx} (hX : CtxOk X) {f : Nat} {co : Con} (h : ConOk X.P X.G f co) (hown : co.own = false) (hb : ∃ fn : Func, X.P.funcs[f]? = some fn ∧ fn.body.isSome = true) : CtxOk (addCon X f co) := by
  refine ⟨fun g c hc => ?_, hX.plain, hX.glob, hX.name, hX.mixed⟩
  have hc' : (match Nat.beq f g with | true => some co | false => X.con g) = some c := hc
  split at hc'
  · rename_i he
    obtain rfl := Option.some.inj hc'
    have := Nat.eq_of_beq_eq_true he
    subst this
    exact ⟨h, hown, hb⟩
  · exact hX.con g c hc'
end Go.Ab

namespace Go.Ab
def intCell : Cell → Bool
  | .a (.v (.int _) _) => true
  | _ => false

theorem ints_any {g g' : Gm} : ∀ {cs : List Cell} {vs : List Value}, cs.all intCell = true → All2 (CellR g) cs vs → All2 (CellR g') cs vs
  | [], [], _, _ => trivial
  | [], _ :: _, _, h => h.elim
  | _ :: _, [], _, h => h.elim
  | c :: cs, v :: vs, hc, ⟨h1, h2⟩ => by
    simp only [List.all_cons, Bool.and_eq_true] at hc
    refine ⟨?_, ints_any hc.2 h2⟩
    have hc1 := hc.1
    unfold intCell at hc1
    split at hc1
    · exact h1
    · simp at hc1

theorem ints_ren {cs : List Cell} (h : cs.all intCell = true) : ∀ c ∈ cs, ∀ f, Cell.ren f c = c := by
  intro c hc f
  have := List.all_eq_true.1 h c hc
  unfold intCell at this
  split at this
  · rfl
  · simp at this

def namesOk (P : Program) : Bool := P.funcs.all fun fn => !fn.body.isSome || !(fn.name == "runtime.NumGoroutine")

theorem CtxOk.base {P : Program} {G : Nat → Option (List Cell)} {ann : Nat → Nat → Option Ann} (hG : ∀ n cs, G n = some cs → cs.all intCell = true) (hn : namesOk P = true) (hm : P.follows .mixedOrders = true) :
    CtxOk { P := P, G := G, ann := ann, con := fun _ => none } := by
  refine ⟨fun f co h => ?_, fun n cs h => ints_ren (hG n cs h), fun n cs h g g' vs hv => ints_any (hG n cs h) hv, fun f fn hf hb => ?_, hm⟩
  · cases h
  · have := Array.all_eq_true_iff_forall_mem.1 hn fn (Array.mem_of_getElem? hf)
    rw [hb] at this
    simpa using this

/-- A function's contract, and the context with it. -/
theorem CtxOk.run {X : Ctx} (hX : CtxOk X) {f nt : Nat} {fn : Func} {body : Code} (hfn : X.P.funcs[f]? = some fn) (hbody : fn.body = some body) {args : List (Option Nat)} {ash : Sh} {res : List (Option Nat)} {rsh : Sh}
    (hnt : nt = max fn.ntmps args.length) : ConOk X.P X.G f { args := args, ash := ash, res := res, rsh := rsh, own := false, F := fnRun X f nt body args ash res rsh } :=
  con_of_run hX hfn hbody false hnt (by
    have : ∀ (lay : List (Option Nat)) (vs cells : List Value), LayR lay cells vs → vs.length = lay.length := by
      intro lay
      induction lay with
      | nil => intro vs cells h; cases vs <;> cases cells <;> first | rfl | exact h.elim
      | cons n lay ih =>
        intro vs cells h
        cases n with
        | none =>
          cases cells with
          | nil => cases vs <;> exact h.elim
          | cons c cells =>
            cases vs with
            | nil => exact h.elim
            | cons v vs => simp [ih vs cells h.2]
        | some n =>
          cases vs with
          | nil => cases cells <;> exact h.elim
          | cons v vs =>
            have h' : n ≤ cells.length ∧ v = .agg (cells.take n).toArray ∧ LayR lay (cells.drop n) vs := by cases cells <;> exact h
            simp [ih vs _ h'.2.2]
    exact this args)
end Go.Ab

namespace Go.Ab.T
open Go.Proofs

theorem gT_ints : ∀ n cs, gT n = some cs → cs.all intCell = true := by
  intro n cs h
  unfold gT at h
  split at h
  · obtain rfl := Option.some.inj h; rfl
  · simp at h
theorem ok0 : CtxOk X0 := CtxOk.base gT_ints (by kernel_rfl) (by kernel_rfl)
theorem body_of {f : Nat} {fn : Func} (hfn : Tryd.prog.funcs[f]? = some fn) (hb : fn.body.isSome = true) : fn.body = some (bodyOf Tryd.prog f) := by
  unfold bodyOf; rw [hfn]
  cases h : fn.body with
  | none => rw [h] at hb; simp at hb
  | some b => simp [h]
theorem con7 : ConOk Tryd.prog gT 7 co7 := CtxOk.run ok0 Tryd.func7 (body_of Tryd.func7 (by kernel_rfl)) (by kernel_rfl)
theorem ok7 : CtxOk X7 := ok0.add con7 rfl ⟨_, Tryd.func7, by kernel_rfl⟩
theorem con38 : ConOk Tryd.prog gT 38 co38 := CtxOk.run ok7 Tryd.func38 (body_of Tryd.func38 (by kernel_rfl)) (by kernel_rfl)
theorem ok38 : CtxOk X38 := ok7.add con38 rfl ⟨_, Tryd.func38, by kernel_rfl⟩
theorem con39 : ConOk Tryd.prog gT 39 co39 := CtxOk.run ok38 Tryd.func39 (body_of Tryd.func39 (by kernel_rfl)) (by kernel_rfl)
theorem ok39 : CtxOk X39 := ok38.add con39 rfl ⟨_, Tryd.func39, by kernel_rfl⟩
theorem con8 : ConOk Tryd.prog gT 8 co8 := CtxOk.run ok39 Tryd.func8 (body_of Tryd.func8 (by kernel_rfl)) (by kernel_rfl)
theorem ok8 : CtxOk X8 := ok39.add con8 rfl ⟨_, Tryd.func8, by kernel_rfl⟩
theorem con9 : ConOk Tryd.prog gT 9 co9 := CtxOk.run ok8 Tryd.func9 (body_of Tryd.func9 (by kernel_rfl)) (by kernel_rfl)
theorem ok9 : CtxOk X9 := ok8.add con9 rfl ⟨_, Tryd.func9, by kernel_rfl⟩
theorem con40 : ConOk Tryd.prog gT 40 co40 := CtxOk.run ok9 Tryd.func40 (body_of Tryd.func40 (by kernel_rfl)) (by kernel_rfl)
theorem ok40 : CtxOk X40 := ok9.add con40 rfl ⟨_, Tryd.func40, by kernel_rfl⟩
theorem con10 : ConOk Tryd.prog gT 10 co10 := CtxOk.run ok40 Tryd.func10 (body_of Tryd.func10 (by kernel_rfl)) (by kernel_rfl)
theorem ok10 : CtxOk X10 := ok40.add con10 rfl ⟨_, Tryd.func10, by kernel_rfl⟩
theorem con11 : ConOk Tryd.prog gT 11 co11 := CtxOk.run ok10 Tryd.func11 (body_of Tryd.func11 (by kernel_rfl)) (by kernel_rfl)
theorem ok11 : CtxOk X11 := ok10.add con11 rfl ⟨_, Tryd.func11, by kernel_rfl⟩
theorem con12 : ConOk Tryd.prog gT 12 co12 := CtxOk.run ok11 Tryd.func12 (body_of Tryd.func12 (by kernel_rfl)) (by kernel_rfl)
theorem ok12 : CtxOk X12 := ok11.add con12 rfl ⟨_, Tryd.func12, by kernel_rfl⟩
theorem con13 : ConOk Tryd.prog gT 13 co13 := CtxOk.run ok12 Tryd.func13 (body_of Tryd.func13 (by kernel_rfl)) (by kernel_rfl)
theorem ok13 : CtxOk X13 := ok12.add con13 rfl ⟨_, Tryd.func13, by kernel_rfl⟩
theorem con14 : ConOk Tryd.prog gT 14 co14 := CtxOk.run ok13 Tryd.func14 (body_of Tryd.func14 (by kernel_rfl)) (by kernel_rfl)
theorem ok14 : CtxOk X14 := ok13.add con14 rfl ⟨_, Tryd.func14, by kernel_rfl⟩
theorem con15 : ConOk Tryd.prog gT 15 co15 := CtxOk.run ok0 Tryd.func15 (body_of Tryd.func15 (by kernel_rfl)) (by kernel_rfl)
theorem ok15 : CtxOk X15 := ok14.add con15 rfl ⟨_, Tryd.func15, by kernel_rfl⟩
noncomputable def co3 : Con := { args := [some 5], ash := (.pair (.int .i64) (.pair (.int .i64) (.pair (.int .i64) (.pair (.int .i64) (.lst (.pair (.int .u8) (.pair (.int .i64) (.int .i64)))))))), res := [none], rsh := .bool, own := false, F := tp }
theorem con3 : ConOk Tryd.prog gT 3 co3 := CtxOk.run ok15 Tryd.func3 (body_of Tryd.func3 (by kernel_rfl)) (by kernel_rfl)
end Go.Ab.T

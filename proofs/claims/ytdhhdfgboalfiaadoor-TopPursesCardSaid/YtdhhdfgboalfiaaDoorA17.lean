/- From the evaluator to contracts of functions. -/
import Derived.Test.YtdhhdfgboalfiaaDoorD10
set_option linter.unusedVariables false
set_option linter.unusedSimpArgs false
namespace Go.Ab
open Go.RowKit

theorem run_sound {R : Type} {X : Ctx} {fin : AV → Objs → Option R} (hX : CtxOk X) : ∀ (k : Nat) (c : Cfg) (r : R), run X fin k c = some r → Good X fin c r := by
  intro k
  induction k with
  | zero => intro c r h; simp [run] at h
  | succ k ih =>
    have inner : ∀ (n : Nat) (c : Cfg) (r : R), runN X fin k (run X fin k) n c = some r → Good X fin c r := by
      intro n
      induction n with
      | zero => intro c r h; simp [runN] at h
      | succ n ihn =>
        intro c r h
        exact stepC_sound (k0 := k) hX (draw_sound hX) ihn ih h
    intro c r h
    exact inner stretch c r h

section
variable {X : Ctx}

theorem layArgs_sound {g : Gm} : ∀ {lay : List (Option Nat)} {cs : List Cell} {vs vals : List Value}, All2 (CellR g) cs vs → LayR lay vs vals → All2 (AVR g) (layArgs lay cs) vals
  | [], cs, vs, vals, ha, hl => by
    cases vs with
    | nil => cases vals with
      | nil => cases cs <;> exact trivial
      | cons _ _ => exact hl.elim
    | cons _ _ => exact hl.elim
  | none :: lay, [], vs, vals, ha, hl => by
    cases vs with
    | nil => exact hl.elim
    | cons _ _ => exact ha.elim
  | none :: lay, c :: cs, vs, vals, ha, hl => by
    cases vs with
    | nil => exact ha.elim
    | cons v vs =>
      cases vals with
      | nil => exact hl.elim
      | cons u vals =>
        obtain ⟨rfl, hl⟩ := hl
        exact ⟨ha.1, layArgs_sound ha.2 hl⟩
  | some n :: lay, cs, vs, vals, ha, hl => by
    cases vals with
    | nil => cases vs <;> exact hl.elim
    | cons u vals =>
      have hl2 : n ≤ vs.length ∧ u = .agg (vs.take n).toArray ∧ LayR lay (vs.drop n) vals := by cases vs <;> exact hl
      have he : layArgs (some n :: lay) cs = .agg (cs.take n) :: layArgs lay (cs.drop n) := by cases cs <;> rfl
      rw [he]
      exact ⟨⟨_, hl2.2.1, ha.take n⟩, layArgs_sound (ha.drop n) hl2.2.2⟩

theorem partCells_sound {g : Gm} : ∀ {lay : List (Option Nat)} {l : List (Bool × List Cell)} {cs : List Cell} {vals : List Value}, partCells lay l = some cs → All2 (PartR g) l vals → ∃ vs, All2 (CellR g) cs vs ∧ LayR lay vs vals
  | [], [], cs, vals, h, ha => by
    simp [partCells] at h; subst h
    cases vals with
    | nil => exact ⟨[], trivial, trivial⟩
    | cons _ _ => exact ha.elim
  | none :: lay, (false, [c]) :: r, cs, vals, h, ha => by
    unfold partCells at h
    split at h
    · rename_i cs' h'
      obtain rfl := Option.some.inj h
      cases vals with
      | nil => exact ha.elim
      | cons u vals =>
        obtain ⟨vs, v1, v2⟩ := partCells_sound h' ha.2
        obtain ⟨c', hc', hu⟩ := ha.1
        simp at hc'; subst hc'
        exact ⟨u :: vs, ⟨hu, v1⟩, rfl, v2⟩
    · simp at h
  | some n :: lay, (true, ds) :: r, cs, vals, h, ha => by
    unfold partCells at h
    split at h
    · rename_i cs' hn h'
      obtain rfl := Option.some.inj h
      cases vals with
      | nil => exact ha.elim
      | cons u vals =>
        obtain ⟨vs, v1, v2⟩ := partCells_sound h' ha.2
        obtain ⟨us, hu, hds⟩ := ha.1
        have hl := hds.length
        have hn' := Nat.eq_of_beq_eq_true hn
        simp only at hl
        refine ⟨us ++ vs, hds.append v1, by simp; omega, ?_, ?_⟩
        · rw [hu, List.take_left' (by omega)]
        · rw [List.drop_left' (by omega)]; exact v2
    · simp at h
  | [], _ :: _, _, _, h, _ => by simp [partCells] at h
  | none :: _, [], _, _, h, _ => by simp [partCells] at h
  | some _ :: _, [], _, _, h, _ => by simp [partCells] at h
  | none :: _, (false, []) :: _, _, _, h, _ => by simp [partCells] at h
  | none :: _, (false, _ :: _ :: _) :: _, _, _, h, _ => by simp [partCells] at h
  | none :: _, (true, _) :: _, _, _, h, _ => by simp [partCells] at h
  | some _ :: _, (false, _) :: _, _, _, h, _ => by simp [partCells] at h

theorem valParts_sound {g : Gm} {v : AV} {val : Value} (h : AVR g v val) {lay : List (Option Nat)} {cs : List Cell} (hp : partCells lay (valParts v) = some cs) : ∃ vals, All2 (PartR g) (valParts v) vals ∧ one vals val := by
  cases v with
  | c x => exact ⟨[val], ⟨⟨x, rfl, h⟩, trivial⟩, .inl rfl⟩
  | agg cs => exact ⟨[val], ⟨h, trivial⟩, .inl rfl⟩
  | tup l =>
    obtain ⟨vs, e, ha⟩ := h
    match l, ha, hp with
    | [], ha, _ => exact ⟨vs, ha, .inr ⟨by have := ha.length; simp at this; omega, e⟩⟩
    | [x], _, hp =>
      exfalso
      simp only [valParts] at hp
      match lay with
      | [] => simp [partCells] at hp
      | none :: l => simp [partCells] at hp
      | some n :: l => simp [partCells] at hp
    | x :: y :: r, ha, _ => exact ⟨vs, ha, .inr ⟨by have := ha.length; simp at this; omega, e⟩⟩

/-- A function of plain data meets the contract that its own run tells. -/
theorem con_of_run (hX : CtxOk X) {f nt : Nat} {fn : Func} {body : Code} (hfn : X.P.funcs[f]? = some fn) (hbody : fn.body = some body) {args : List (Option Nat)} {ash : Sh} {res : List (Option Nat)} {rsh : Sh} (own : Bool)
    (hnt : nt = max fn.ntmps args.length) (hall : ∀ vs cells : List Value, LayR args cells vs → vs.length = args.length) :
    ConOk X.P X.G f { args := args, ash := ash, res := res, rsh := rsh, own := own, F := fnRun X f nt body args ash res rsh } := by
  intro k x r hF w fz cells argv hK hL hfz hG cs0
  let g : Gm := { dom := fun _ => False, ρ := fun _ => 0, len := fun _ => 0, sz := fun _ => 0, bs := fun _ => 0, fz := fz, B := w.heap.size }
  have hgood := run_sound hX k _ r hF
  have hcells : All2 (CellR g) (explode ash x) cells := explode_sound ash x cells hK
  have hargs : All2 (AVR g) (layArgs args (explode ash x)) argv.toList := layArgs_sound hcells hL
  have hlen := hargs.length
  have hvl := hall argv.toList cells hL
  have hrel : Rel X.G g w [] w := by
    refine ⟨Below.refl _ _, hfz, ?_, ?_, ?_, ?_, ?_⟩
    · intro i o h; simp [look] at h
    · intro i o h; simp [look] at h
    · intro i o h; simp [look] at h
    · intro i oi j oj _ h; simp [look] at h
    · intro n cs hn
      obtain ⟨c, e, fr, q1, q2⟩ := hG n cs hn
      exact ⟨c, e, fr, q1, q2 g rfl⟩
  have henter : Frame.enter X.P f argv .normal = ({ (default : Frame) with fn := f, kind := .normal } : Frame).at ⟨argv ++ Array.replicate (fn.ntmps - argv.size) undef, []⟩ ([KI.code body].map KI.item) := by
    simp [Frame.enter, Frame.at, hfn, hbody, KI.item]
  have hsize : argv.size = args.length := by simpa using hvl
  have hc : CfgR X g w (startC f nt body (layArgs args (explode ash x))) (Frame.enter X.P f argv .normal) [] w := by
    refine ⟨hrel, rfl, ?_, trivial, fun i hi => hi.elim, (Nums.notReg (by intro _ _ _ _ e; simp [startC] at e)).2 trivial⟩
    rw [henter]
    refine ⟨_, _, fn, rfl, rfl, rfl, hfn, ?_, fun t v hl => ?_⟩
    · simp only [Array.size_append, Array.size_replicate, startC, hnt]; omega
    · obtain ⟨_, hl'⟩ := enterEnv_look _ _ _ _ hl
      obtain ⟨u, hu, hr'⟩ := hargs.get _ _ hl'
      have hlt := (List.getElem?_eq_some_iff.1 hu).1
      simp only [Nat.sub_zero] at hu hlt
      refine ⟨by simp only [Array.size_append]; simp at hlt; omega, ?_⟩
      rw [Array.getD_eq_getD_getElem?, Array.getElem?_append_left (by simpa using hlt)]
      rw [← Array.getElem?_toList, hu]; exact hr'
  obtain ⟨rf', w', g', v, val, O', s, hleave, hbot, hfin, hav, hrel', hlow⟩ := hgood g w _ [] w cs0 hc (fun f hf => by simp [startC] at hf) (fun x hx => by simp [startC] at hx)
  refine ⟨.returned val, w', rf', ?_, s, hbot, hleave⟩
  unfold finCon at hfin
  split at hfin
  · rename_i pcs hpc
    split at hfin
    · rename_i ps hps
      obtain ⟨vals, hvals, hone⟩ := valParts_sound hav hpc
      obtain ⟨outs, ho1, ho2⟩ := partCells_sound hpc hvals
      let fz' : Nat → Option Obj := fun b => if b < w.heap.size then fz b else w'.heap[b]?
      obtain ⟨hp, _⟩ := pureCells_sound hrel' (g2 := { g' with fz := fz' }) (fun b o hb => by
          show (if b < w.heap.size then fz b else w'.heap[b]?) = some o
          split
          · rename_i hlt; exact hlow.low b o hb hlt
          · exact hrel'.fz b o hb) (fun b o hB hb => by
          show (if b < w.heap.size then fz b else w'.heap[b]?) = some o
          rw [if_neg (by omega)]; exact hb) hps ho1
      have hk := implode_sound (g := { g' with fz := fz' }) _ _ _ _ hfin hp
      refine ⟨val, vals, outs, fz', rfl, hrel'.below, hk, ho2, hone, fun b o hb => ?_, fun b o hb hlt => ?_⟩
      · have : (if b < w.heap.size then fz b else w'.heap[b]?) = some o := hb
        split at this
        · rename_i hlt; rw [hrel'.below.block b hlt]; exact hfz b o this
        · exact this
      · have : (if b < w.heap.size then fz b else w'.heap[b]?) = some o := hb
        rw [if_pos hlt] at this; exact this
    · simp at hfin
  · simp at hfin
end
end Go.Ab

/- Regions whose order is not told: one operation, whatever came before it. -/
import Derived.Test.YtdhhdfgboalfiaaDoorD6
set_option linter.unusedVariables false
set_option linter.unusedSimpArgs false
namespace Go.Ab

structure InvD (c : Cfg) (ops : Array Oper) (base : Nat) (k : List KI) (V : Nat → AV) (F : Nat → Objs) (S : Nat → Bool) (is : List Nat) (c' : Cfg) : Prop where
  fid : c'.fr.fid = c.fr.fid
  nt : c'.fr.nt = c.fr.nt
  cs : c'.cs = c.cs
  nx : c'.nx = base8 ops base
  todo : c'.fr.todo = .reg ops base is :: k
  env : ∀ t, look c'.fr.env t = ov (effE ops V) (look c.fr.env) S ops.size t
  objs : ∀ n, look c'.objs n = ov (effO F) (look c.objs) S ops.size n

theorem noOld_look {O : Objs} (h : hasOld O = false) : ∀ n s xs, look O n ≠ some (.old s xs) := by
  induction O with
  | nil => intro n s xs h; simp [look] at h
  | cons p r ih =>
    obtain ⟨m, x⟩ := p
    intro n s xs hl
    unfold hasOld at h
    rw [look_cons] at hl
    by_cases e : m = n
    · simp [e] at hl; subst hl; simp at h
    · simp [e] at hl
      simp only [Bool.or_eq_false_iff] at h
      exact ih h.2 n s xs hl

theorem look_dropOld_same {O : Objs} {n : Nat} (h : ∀ s xs, look O n ≠ some (.old s xs)) : look (dropOld O) n = look O n := by
  rw [look_dropOld]
  cases hl : look O n with
  | none => rfl
  | some x => cases x <;> first | rfl | exact absurd hl (h _ _)

theorem evalA_sub {G : Nat → Option (List Cell)} {E E' : Env} (h : ∀ t v, look E t = some v → look E' t = some v) : SubE (evalA G E) (evalA G E') := by
  intro x v hx
  cases x with
  | tmp t => exact h t v hx
  | const c => exact hx
  | global n => exact hx
  | func f => exact hx

section
variable {R : Type} {X : Ctx} {k0 : Nat}

theorem operC_of_opX {ih : Cfg → Option R} {c : Cfg} {ops : Array Oper} {base i : Nat} {is : List Nat} {k : List KI} {o : Oper} {v : AV} {N : Objs} (h : opX X k0 c.objs (evalA X.G c.fr.env) (base + 8 * i) o (fun v N => some (v, N)) = some (v, N)) :
    operC X k0 ih c ops base i is k o = finishC ih c v o.dst (.reg ops base is :: k) N := by
  unfold opX at h
  unfold operC
  dsimp only
  split at h
  · rename_i cl hop
    split at h
    · rename_i f hf
      split at h
      · rename_i g caps args h1 h2
        split at h
        · rename_i co hco
          simp only [callC, hco]
          rw [conA_nat, h]; rfl
        · simp at h
      · simp at h
    · rw [opA_nat, h]; rfl
  · rw [opA_nat, h]; rfl

theorem finishC_eq {ih : Cfg → Option R} {c : Cfg} {v : AV} {dst : Option Nat} {todo : List KI} {O : Objs} (h : ∀ d, dst = some d → d < c.fr.nt) :
    finishC ih c v dst todo O = ih { c with fr := { c.fr with env := putEnv dst v c.fr.env, todo }, objs := O } := by
  unfold finishC
  cases dst with
  | none => rfl
  | some d =>
    have : Nat.blt d c.fr.nt = true := Nat.ble_eq_true_of_le (h d rfl)
    simp only [this]; rfl

/-- What an operation does to the objects at hand, told by what it did to those that it sees. -/
theorem opX_eff {Or O : Objs} {ev ev' : Operand → Option AV} {id : Nat} {o : Oper} {v : AV} {N eff : Objs} (ho : SubO Or O) (he : SubE ev ev') (hold : ∀ n s xs, look O n ≠ some (.old s xs))
    (h : opX X k0 Or ev id o (fun v N => some (v, N)) = some (v, N)) (hE : effD ev o Or N = some eff) :
    ∃ O', opX X k0 O ev' id o (fun v N => some (v, N)) = some (v, O') ∧ ∀ n, look O' n = (look eff n).or (look O n) := by
  cases hk : keeps o with
  | true =>
    obtain ⟨new, rfl, e2⟩ := opX_local ho he hk h
    refine ⟨_, e2, fun n => ?_⟩
    have : eff = new := by
      have key : (some ((new ++ Or).take ((new ++ Or).length - Or.length)) : Option Objs) = some new := by
        congr 1
        simp
      unfold effD at hE
      unfold keeps at hk
      split at hE
      · rename_i hop; rw [hop] at hk; simp at hk
      · simp at hE
      · split at hE
        · simp at hE
        · rw [key] at hE; exact (Option.some.inj hE).symm
      · rw [key] at hE; exact (Option.some.inj hE).symm
    subst this
    rw [look_append]; cases look eff n <;> rfl
  | false =>
    unfold keeps at hk
    split at hk
    · rename_i t a x hop
      have hX : ∀ (O : Objs) (ev : Operand → Option AV), opX X k0 O ev id o (fun v N => some (v, N)) = opA X.P X.G O ev id o (fun v N => some (v, N)) := fun O ev => by
        unfold opX; rw [hop]
      rw [hX] at h
      unfold opA at h
      rw [hop] at h
      dsimp only at h
      split at h
      · rename_i p u hp hu
        have done : ∀ (cells : List Cell), storeA Or p cells (fun N => some (.c (.a .und), N)) = some (v, N) → (∀ O (ev : Operand → Option AV), ev0 ev a = some p → ev x = some u → opA X.P X.G O ev id o (fun v N => some (v, N)) = storeA O p cells fun N => some (.c (.a .und), N)) →
            ∃ O', opX X k0 O ev' id o (fun v N => some (v, N)) = some (v, O') ∧ ∀ n, look O' n = (look eff n).or (look O n) := by
          intro cells hs hop'
          rw [storeA_nat, Option.bind_eq_some_iff] at hs
          obtain ⟨N', hs, e⟩ := hs
          cases e
          obtain ⟨n, y, b, h1, h2, h3⟩ := storeA_local hs
          obtain ⟨O', g1, g2⟩ := h3 O ho
          refine ⟨O', ?_, fun m => ?_⟩
          · rw [hX, hop' O ev' (ev0_mono he hp) (he _ _ hu), storeA_nat, g1]; rfl
          · have heff : eff = [(n, y)] := by
              unfold effD at hE
              rw [hop] at hE
              dsimp only at hE
              have ht : targetOf ev a = some n := by
                have : ev a = some (.c (.a p)) := by
                  unfold ev0 at hp
                  split at hp
                  · rename_i hh; cases hp; exact hh
                  · simp at hp
                unfold targetOf
                rw [this]
                rcases h1 with ⟨off, rfl⟩ | ⟨i, off, rfl⟩ <;> rfl
              rw [ht] at hE
              dsimp only at hE
              rw [h2] at hE
              exact (Option.some.inj hE).symm
            subst heff
            rw [g2, look_cons]
            by_cases e : n = m
            · simp [e]
            · simp only [e, if_false, look]
              cases b
              · rfl
              · exact look_dropOld_same (hold m)
        split at h
        · rename_i cs h1 h2
          refine done cs h fun O ev hp hu => ?_
          unfold opA; rw [hop]; simp only [hp, hu, h1, h2]
        · rename_i c h1 h2
          refine done [c] h fun O ev hp hu => ?_
          unfold opA; rw [hop]; simp only [hp, hu, h1, h2]
        · simp at h
      · simp at h
    · rename_i hop; unfold effD at hE; rw [hop] at hE; simp at hE
    · rename_i cl hop
      split at hk
      · rename_i hc; unfold effD at hE; rw [hop] at hE; dsimp only at hE; rw [hc] at hE; simp at hE
      · simp at hk
    · simp at hk
end
end Go.Ab

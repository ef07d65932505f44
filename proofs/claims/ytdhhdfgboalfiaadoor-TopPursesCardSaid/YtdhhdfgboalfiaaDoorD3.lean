/- Operations are local. -/
import Derived.Test.YtdhhdfgboalfiaaDoorD2
import Derived.Test.YtdhhdfgboalfiaaDoorA2
set_option linter.unusedVariables false
set_option linter.unusedSimpArgs false
namespace Go.Ab

/-- Operations that change no object that was there. -/
def keeps (o : Oper) : Bool :=
  match o.op with
  | .store .. => false
  | .mapUpdate .. => false
  | .call cl => match cl.callee with | .builtin .append => false | _ => true
  | _ => true

section
variable {P : Program} {G : Nat → Option (List Cell)} {Or O : Objs} {ev ev' : Operand → Option AV} {id : Nat}

theorem convertA_local (ho : SubO Or O) {src dst : Nat} {x : AV} {v : AV} {N : Objs} (h : convertA P Or src dst x (fun v N => some (v, N)) = some (v, N)) : N = Or ∧ convertA P O src dst x (fun v N => some (v, N)) = some (v, O) := by
  unfold convertA at h ⊢
  split at h
  · rename_i h1 h2; first | (cases h; exact ⟨rfl, by simp_all⟩)
  · rename_i h1 h2; first | (cases h; exact ⟨rfl, by simp_all⟩)
  · split at h
    · split at h
      · rename_i hr
        cases h
        refine ⟨rfl, ?_⟩
        have := rowsOf_mono ho hr
        simp_all
      · simp at h
    · simp at h
  · simp at h

theorem cond_some {α : Type} {c : Bool} {x : Option α} {y : α} (h : cond c x none = some y) : c = true ∧ x = some y := by
  cases c
  · simp at h
  · exact ⟨rfl, h⟩

theorem makeA_local {s : Sh} {x : El s} {n m : Int} {v : AV} {N : Objs} (h : makeA id Or s x n m (fun v N => some (v, N)) = some (v, N)) :
    ∃ new, N = new ++ Or ∧ makeA id O s x n m (fun v N => some (v, N)) = some (v, new ++ O) := by
  unfold makeA at h ⊢
  obtain ⟨h1, h2⟩ := cond_some h
  simp only [Option.some.injEq, Prod.mk.injEq] at h2
  obtain ⟨rfl, rfl⟩ := h2
  exact ⟨[_], rfl, by rw [h1]; rfl⟩

theorem makeSliceA_local {t : Nat} {l c : AV} {v : AV} {N : Objs} (h : makeSliceA P Or id t l c (fun v N => some (v, N)) = some (v, N)) :
    ∃ new, N = new ++ Or ∧ makeSliceA P O id t l c (fun v N => some (v, N)) = some (v, new ++ O) := by
  unfold makeSliceA at h ⊢
  split at h
  · split at h
    · split at h
      · obtain ⟨new, e1, e2⟩ := makeA_local (O := O) h
        exact ⟨new, e1, by simp_all⟩
      · simp at h
    · simp at h
  · simp at h

theorem builtinA_local (ho : SubO Or O) {b : Builtin} {ts : Array Nat} {args args' : List (Option AV)} (ha : All2 (fun a b => ∀ v, a = some v → b = some v) args args') {v : AV} {N : Objs} (hb : b ≠ .append)
    (h : builtinA P Or id b ts args (fun v N => some (v, N)) = some (v, N)) : N = Or ∧ builtinA P O id b ts args' (fun v N => some (v, N)) = some (v, O) := by
  unfold builtinA at h
  split at h
  · rename_i x
    have ha' : ∃ l, args' = [some x] ∧ l = args' := by
      match args', ha with
      | [y], ⟨h1, _⟩ => exact ⟨_, by rw [h1 _ rfl], rfl⟩
    obtain ⟨_, rfl, _⟩ := ha'
    split at h
    · rename_i t ht
      unfold builtinA
      simp only [ht]
      split at h
      · cases h; exact ⟨rfl, by simp_all⟩
      · cases h; exact ⟨rfl, by simp_all⟩
      · split at h
        · rename_i hl
          cases h; have := lenOf_mono ho hl; exact ⟨rfl, by simp_all⟩
        · simp at h
      · split at h
        · rename_i hl
          cases h; have := ho _ _ hl; exact ⟨rfl, by simp_all⟩
        · simp at h
      · cases h; exact ⟨rfl, by simp_all⟩
      · simp at h
    · simp at h
  · match args', ha with
    | [y, z], ⟨h1, h2, _⟩ =>
      cases h
      rw [h1 _ rfl, h2 _ rfl]
      exact ⟨rfl, rfl⟩
  · match args', ha with
    | [y, z], ⟨h1, h2, _⟩ =>
      cases h
      rw [h1 _ rfl, h2 _ rfl]
      exact ⟨rfl, rfl⟩
  · exact absurd rfl hb
  · simp at h

theorem All2.mapEv (he : SubE ev ev') : ∀ (l : List Operand), All2 (fun (a b : Option AV) => ∀ v, a = some v → b = some v) (l.map ev) (l.map ev')
  | [] => trivial
  | x :: l => ⟨fun v h => he x v h, All2.mapEv he l⟩

/-- A choice between two values. -/
def pickM (c : Option A0) (a b : Option AV) (O : Objs) : Option (AV × Objs) :=
  match c, a, b with
  | some (.v .bool t), some (.c (.a (.v .bool x))), some (.c (.a (.v .bool y))) => some (bool (cond t x y), O)
  | some (.v .bool t), some x, some y => cond t (some (x, O)) (some (y, O))
  | some (.v .bool t), some x, none => cond t (some (x, O)) none
  | some (.v .bool t), none, some y => cond t none (some (y, O))
  | _, _, _ => none

theorem pickM_eq {o : Oper} {c a b : Operand} (hop : o.op = .pick c a b) : opA P G O ev id o (fun v N => some (v, N)) = pickM (ev0 ev c) (ev a) (ev b) O := by
  unfold opA pickM; rw [hop]; rfl

def AV.isB : AV → Bool
  | .c (.a (.v .bool _)) => true
  | _ => false

theorem AV.isB_of {v : AV} (h : v.isB = true) : ∃ x : Bool, v = .c (.a (.v .bool x)) := by
  unfold AV.isB at h
  split at h
  · exact ⟨_, rfl⟩
  · simp at h

theorem pickM_b {c x y : Bool} : pickM (some (.v .bool c)) (some (bool x)) (some (bool y)) O = some (bool (cond c x y), O) := rfl
theorem pickM_vv {c : Bool} {x y : AV} (h : (x.isB && y.isB) = false) : pickM (some (.v .bool c)) (some x) (some y) O = cond c (some (x, O)) (some (y, O)) := by
  unfold pickM
  split
  · rename_i h1 h2 h3
    cases h2; cases h3
    simp [AV.isB] at h
  · rename_i h1 h2 h3; cases h1; cases h2; cases h3; rfl
  · rename_i h1 h2 h3; cases h3
  · rename_i h1 h2 h3; cases h2
  · rename_i a1 a2 a3 a4; exact (a2 c x y rfl rfl rfl).elim

theorem pickM_vn {c : Bool} {x : AV} : pickM (some (.v .bool c)) (some x) none O = cond c (some (x, O)) none := by
  unfold pickM
  split
  · rename_i h1 h2 h3; cases h3
  · rename_i h1 h2 h3; cases h3
  · rename_i h1 h2 h3; cases h1; cases h2; rfl
  · rename_i h1 h2 h3; cases h2
  · rename_i a1 a2 a3 a4; exact (a3 c x rfl rfl rfl).elim

theorem pickM_true {v : AV} {b : Option AV} : pickM (some (.v .bool true)) (some v) b O = some (v, O) := by
  cases b with
  | none => exact pickM_vn
  | some y =>
    cases h : (v.isB && y.isB) with
    | false => exact pickM_vv h
    | true =>
      simp at h
      obtain ⟨x, rfl⟩ := AV.isB_of h.1
      obtain ⟨z, rfl⟩ := AV.isB_of h.2
      rfl
theorem pickM_false {v : AV} {a : Option AV} : pickM (some (.v .bool false)) a (some v) O = some (v, O) := by
  cases a with
  | none => rfl
  | some y =>
    cases h : (y.isB && v.isB) with
    | false => exact pickM_vv h
    | true =>
      simp at h
      obtain ⟨x, rfl⟩ := AV.isB_of h.1
      obtain ⟨z, rfl⟩ := AV.isB_of h.2
      rfl

theorem opA_local (ho : SubO Or O) (he : SubE ev ev') {o : Oper} (hk : keeps o = true) {v : AV} {N : Objs} (h : opA P G Or ev id o (fun v N => some (v, N)) = some (v, N)) :
    ∃ new, N = new ++ Or ∧ opA P G O ev' id o (fun v N => some (v, N)) = some (v, new ++ O) := by
  have same : ∀ {v' : AV}, (some (v', Or) : Option (AV × Objs)) = some (v, N) → opA P G O ev' id o (fun v N => some (v, N)) = some (v', O) → ∃ new, N = new ++ Or ∧ opA P G O ev' id o (fun v N => some (v, N)) = some (v, new ++ O) := by
    intro v' e1 e2
    cases e1; exact ⟨[], rfl, e2⟩
  have one : ∀ {v' : AV} {p : Nat × AObj}, (some (v', p :: Or) : Option (AV × Objs)) = some (v, N) → opA P G O ev' id o (fun v N => some (v, N)) = some (v', p :: O) → ∃ new, N = new ++ Or ∧ opA P G O ev' id o (fun v N => some (v, N)) = some (v, new ++ O) := by
    intro v' p e1 e2
    cases e1; exact ⟨[p], rfl, e2⟩
  have nat1 : ∀ {F : (AV → Option (AV × Objs)) → Option (AV × Objs)} {F' : Option AV}, F (fun v => some (v, Or)) = F'.bind (fun v => some (v, Or)) → F (fun v => some (v, Or)) = some (v, N) → F' = some v ∧ N = Or := by
    intro F F' e1 e2
    rw [e1] at e2
    cases F' with
    | none => simp at e2
    | some u => simp at e2; obtain ⟨rfl, rfl⟩ := e2; exact ⟨rfl, rfl⟩
  unfold opA at h
  split at h
  · rename_i x hop
    split at h
    · rename_i u hu
      exact same h (by unfold opA; rw [hop]; simp only [he _ _ hu])
    · simp at h
  · rename_i x hop
    split at h
    · rename_i u hu
      exact same h (by unfold opA; rw [hop]; simp only [he _ _ hu])
    · simp at h
  · rename_i c a b hop
    split at h
    · rename_i t x y h1 h2 h3
      exact same h (by unfold opA; rw [hop]; simp only [ev0_mono he h1, he _ _ h2, he _ _ h3])
    · rename_i t x y hne h1 h2 h3
      have h' : (cond t (some (x, Or)) (some (y, Or))) = some (v, N) := h
      have e : opA P G O ev' id o (fun v N => some (v, N)) = cond t (some (x, O)) (some (y, O)) := by
        unfold opA; rw [hop]; simp only [ev0_mono he h1, he _ _ h2, he _ _ h3]
      cases t
      · cases h'; exact ⟨[], rfl, e⟩
      · cases h'; exact ⟨[], rfl, e⟩
    · rename_i t x h1 h2 h3
      have h' : (cond t (some (x, Or)) none) = some (v, N) := h
      obtain ⟨ht, h''⟩ := cond_some h'
      have ht' : t = (true : Bool) := ht
      subst ht'
      cases h''
      refine ⟨[], rfl, ?_⟩
      rw [pickM_eq hop, ev0_mono he h1, he _ _ h2]
      exact pickM_true
    · rename_i t y h1 h2 h3
      have h' : (cond t none (some (y, Or))) = some (v, N) := h
      cases t
      · cases h'
        refine ⟨[], rfl, ?_⟩
        rw [pickM_eq hop, ev0_mono he h1, he _ _ h3]
        exact pickM_false
      · simp at h'
    · simp at h
  · rename_i t hop
    split at h
    · rename_i cs hz
      exact one h (by unfold opA; rw [hop]; simp only [hz])
    · simp at h
  · rename_i t x hop
    split at h
    · rename_i c hx
      split at h
      · rename_i hc
        exact one h (by unfold opA; rw [hop]; simp only [he _ _ hx, hc])
      · simp at h
    · rename_i cs hx
      exact one h (by unfold opA; rw [hop]; simp only [he _ _ hx])
    · simp at h
  · rename_i t ps hop
    split at h
    · rename_i cs hx
      exact same h (by unfold opA; rw [hop]; simp only [buildA_mono he hx])
    · simp at h
  · rename_i t n ps hop
    split at h
    · rename_i s xs hx
      exact one h (by unfold opA; rw [hop]; simp only [buildSliceA_mono he hx])
    · simp at h
  · rename_i t a hop
    split at h
    · rename_i p hp
      have hp' := ev0_mono he hp
      split at h
      · rename_i cs h1 h2
        split at h
        · rename_i u hu
          exact same h (by unfold opA; rw [hop]; simp only [hp', cellsAt_mono ho h1, h2, hu])
        · simp at h
      · rename_i g cs hne h1 h2
        split at h
        · rename_i u hu
          obtain ⟨hg, h'⟩ := cond_some h
          subst hg
          exact absurd rfl hne
        · simp at h
      · simp at h
    · simp at h
  · rename_i hop; unfold keeps at hk; rw [hop] at hk; simp at hk
  · rename_i x hop
    split at h
    · rename_i hu
      exact same h (by unfold opA; rw [hop]; simp only [ev0_mono he hu])
    · simp at h
  · rename_i op t x y _ hop
    split at h
    · rename_i a b h1 h2
      obtain ⟨e1, rfl⟩ := nat1 (F := fun k => binOpA P op t a b k) binOpA_nat h
      refine ⟨[], rfl, ?_⟩
      unfold opA; rw [hop]; simp only [he _ _ h1, he _ _ h2]
      rw [binOpA_nat, e1]; rfl
    · simp at h
  · rename_i op t x hop
    split at h
    · rename_i a h1
      obtain ⟨e1, rfl⟩ := nat1 (F := fun k => unOpA op a k) unOpA_nat h
      refine ⟨[], rfl, ?_⟩
      unfold opA; rw [hop]; simp only [he _ _ h1]
      rw [unOpA_nat, e1]; rfl
    · simp at h
  · rename_i src dst x hop
    split at h
    · rename_i a h1
      obtain ⟨rfl, e1⟩ := convertA_local ho h
      refine ⟨[], rfl, ?_⟩
      unfold opA; rw [hop]; simp only [he _ _ h1]
      exact e1
    · simp at h
  · rename_i f first caps hop
    split at h
    · rename_i l h1 h2
      exact same h (by unfold opA; rw [hop]; simp only [h1, mapM_mono (fun a b => ev0_mono he) h2])
    · simp at h
  · rename_i t hop
    split at h
    · rename_i kt vt h1
      split at h
      · rename_i k v' h2 h3
        exact one h (by unfold opA; rw [hop]; simp only [h1, h2, h3])
      · simp at h
    · simp at h
  · rename_i t l c hop
    split at h
    · rename_i a b h1 h2
      obtain ⟨new, e1, e2⟩ := makeSliceA_local (O := O) h
      exact ⟨new, e1, by unfold opA; rw [hop]; simp only [he _ _ h1, he _ _ h2]; exact e2⟩
    · simp at h
  · rename_i t x lo hi hop
    split at h
    · rename_i a h1
      obtain ⟨e1, rfl⟩ := nat1 (F := fun k => sliceA P Or ev t a lo hi k) sliceA_nat h
      refine ⟨[], rfl, ?_⟩
      unfold opA; rw [hop]; simp only [he _ _ h1]
      rw [sliceA_nat, sliceA_mono ho he e1]; rfl
    · simp at h
  · rename_i t x f hop
    split at h
    · rename_i fs p h1 h2
      split at h
      · rename_i fi h3
        split at h
        · rename_i q h4 h5
          exact same h (by unfold opA; rw [hop]; simp only [h1, ev0_mono he h2, h3, h4, h5])
        · simp at h
      · simp at h
    · simp at h
  · rename_i t x f hop
    split at h
    · rename_i fs cs h1 h2
      split at h
      · rename_i fi h3
        split at h
        · rename_i u h4 h5 h6
          exact same h (by unfold opA; rw [hop]; simp only [h1, he _ _ h2, h3, h4, h5, h6])
        · simp at h
      · simp at h
    · simp at h
  · rename_i t x i hop
    split at h
    · rename_i p k n h1 h2
      obtain ⟨e1, rfl⟩ := nat1 (F := fun k => indexAddrA P Or t p (isConst i) n k) indexAddrA_nat h
      refine ⟨[], rfl, ?_⟩
      unfold opA; rw [hop]; simp only [ev0_mono he h1, ev0_mono he h2]
      exact (indexAddrA_nat).trans (congrArg (fun z => Option.bind z _) (indexAddrA_mono ho e1))
    · simp at h
  · rename_i t x i hop
    split at h
    · rename_i a k n h1 h2
      obtain ⟨e1, rfl⟩ := nat1 (F := fun k => indexA P t a (isConst i) n k) indexA_nat h
      refine ⟨[], rfl, ?_⟩
      unfold opA; rw [hop]; simp only [he _ _ h1, ev0_mono he h2]
      exact (indexA_nat).trans (congrArg (fun z => Option.bind z _) e1)
    · simp at h
  · rename_i t m x ok hop
    split at h
    · rename_i a b h1 h2
      obtain ⟨e1, rfl⟩ := nat1 (F := fun k => lookupA P Or t a b ok k) lookupA_nat h
      refine ⟨[], rfl, ?_⟩
      unfold opA; rw [hop]; simp only [he _ _ h1, he _ _ h2]
      rw [lookupA_nat, lookupA_mono ho e1]; rfl
    · simp at h
  · rename_i hop; unfold keeps at hk; rw [hop] at hk; simp at hk
  · rename_i x i hop
    split at h
    · rename_i vs h1
      split at h
      · rename_i cs h2
        exact same h (by unfold opA; rw [hop]; simp only [he _ _ h1, h2])
      · rename_i c h2
        exact same h (by unfold opA; rw [hop]; simp only [he _ _ h1, h2])
      · simp at h
    · simp at h
  · rename_i c hop
    split at h
    · rename_i b hb
      have hba : b ≠ .append := by
        intro e; subst e
        unfold keeps at hk; rw [hop] at hk; simp only [hb] at hk; simp at hk
      obtain ⟨rfl, e1⟩ := builtinA_local ho (All2.mapEv he _) hba h
      refine ⟨[], rfl, ?_⟩
      unfold opA; rw [hop]; simp only [hb]
      exact e1
    · simp at h
  · simp at h
end
end Go.Ab

/- Calls and stores are local. -/
import Derived.Test.YtdhhdfgboalfiaaDoorD3
set_option linter.unusedVariables false
set_option linter.unusedSimpArgs false
namespace Go.Ab

section
variable {R : Type} {P : Program} {G : Nat → Option (List Cell)} {Or O : Objs} {ev ev' : Operand → Option AV} {id : Nat}

theorem bind_nat {α β γ : Type} (x : Option α) (f : α → Option β) (g : β → Option γ) : (x.bind f).bind g = x.bind fun a => (f a).bind g := by cases x <;> rfl

theorem conA_nat {k : Nat} {c : Con} {args : List AV} {κ : AV → Objs → Option R} : conA k O id c args κ = (conA k O id c args fun v N => some (v, N)).bind fun p => κ p.1 p.2 := by
  unfold conA
  split
  · split
    · split
      · rw [bind_nat]
        congr 1
        funext r
        cases c.own
        · dsimp only
          split
          · split <;> rfl
          · rfl
        · dsimp only
          split
          · split <;> rfl
          · rfl
      · rfl
    · rfl
  · rfl

theorem pureCell_mono (ho : SubO Or O) {c p : Cell} (h : pureCell Or c = some p) : pureCell O c = some p := by
  unfold pureCell at h ⊢
  split at h
  · split at h
    · rename_i hl; simp only [ho _ _ hl]; exact h
    · rename_i hl; simp only [ho _ _ hl]; exact h
    · simp at h
  · split at h
    · rename_i hl; simp only [ho _ _ hl]; exact h
    · rename_i hl; simp only [ho _ _ hl]; exact h
    · simp at h
  · exact h
  · exact h
  · simp at h

theorem ownCells_app : ∀ (l : List Cell) (id : Nat) (A B : Objs), ownCells id (A ++ B) l = ((ownCells id A l).1, (ownCells id A l).2 ++ B) := by
  intro l
  induction l with
  | nil => intro id A B; rfl
  | cons c l ih =>
    intro id A B
    by_cases hc : ∃ (s : Sh) (x : El (.lst s)), c = .a (.v (.lst s) x)
    · obtain ⟨s, x, rfl⟩ := hc
      have := ih (id + 1) ((id, .rows s x) :: A) B
      have e1 : ownCells id (A ++ B) (.a (.v (.lst s) x) :: l) = (.a (.slw id) :: (ownCells (id + 1) ((id, .rows s x) :: (A ++ B)) l).1, (ownCells (id + 1) ((id, .rows s x) :: (A ++ B)) l).2) := rfl
      have e2 : ownCells id A (.a (.v (.lst s) x) :: l) = (.a (.slw id) :: (ownCells (id + 1) ((id, .rows s x) :: A) l).1, (ownCells (id + 1) ((id, .rows s x) :: A) l).2) := rfl
      have e3 : ((id, AObj.rows s x) :: (A ++ B) : Objs) = ((id, AObj.rows s x) :: A) ++ B := rfl
      rw [e1, e2, e3, this]
    · have e : ∀ O, ownCells id O (c :: l) = (c :: (ownCells id O l).1, (ownCells id O l).2) := by
        intro O
        rw [ownCells.eq_3 _ _ _ _ (fun s x h => hc ⟨s, x, h⟩)]
      rw [e, e, ih]

theorem ownCells_new (l : List Cell) (id : Nat) (O : Objs) : ownCells id O l = ((ownCells id [] l).1, (ownCells id [] l).2 ++ O) := ownCells_app l id [] O

theorem conA_local (ho : SubO Or O) {k : Nat} {c : Con} {args : List AV} {v : AV} {N : Objs} (h : conA k Or id c args (fun v N => some (v, N)) = some (v, N)) :
    ∃ new, N = new ++ Or ∧ conA k O id c args (fun v N => some (v, N)) = some (v, new ++ O) := by
  unfold conA at h ⊢
  split at h
  · rename_i cs hcs
    split at h
    · rename_i ps hp hb
      split at h
      · rename_i x hx
        rw [Option.bind_eq_some_iff] at h
        obtain ⟨r, hr, h⟩ := h
        have hp' := mapM_mono (fun a b => pureCell_mono ho) hp
        cases hown : c.own
        · rw [hown] at h hb
          dsimp only at h
          split at h
          · rename_i l hl
            split at h
            · rename_i u hu
              cases h
              refine ⟨[], rfl, ?_⟩
              simp only [hp', hb, hx, hr, Option.bind_some, hl, hu, hown]
              rfl
            · simp at h
          · simp at h
        · rw [hown] at h hb
          dsimp only at h
          rw [ownCells_new] at h
          dsimp only at h
          split at h
          · rename_i l hl
            split at h
            · rename_i u hu
              cases h
              refine ⟨_, rfl, ?_⟩
              simp only [hp', hb, hx, hr, Option.bind_some, hown]
              rw [ownCells_new (O := O)]
              simp only [hl, hu]
            · simp at h
          · simp at h
      · simp at h
    · simp at h
  · simp at h

theorem opX_nat {X : Ctx} {k : Nat} {o : Oper} {κ : AV → Objs → Option R} : opX X k O ev id o κ = (opX X k O ev id o fun v N => some (v, N)).bind fun p => κ p.1 p.2 := by
  unfold opX
  split
  · split
    · split
      · split
        · exact conA_nat
        · rfl
      · rfl
    · exact opA_nat
  · exact opA_nat

theorem opX_local {X : Ctx} (ho : SubO Or O) (he : SubE ev ev') {k : Nat} {o : Oper} (hk : keeps o = true) {v : AV} {N : Objs} (h : opX X k Or ev id o (fun v N => some (v, N)) = some (v, N)) :
    ∃ new, N = new ++ Or ∧ opX X k O ev' id o (fun v N => some (v, N)) = some (v, new ++ O) := by
  unfold opX at h ⊢
  split at h
  · rename_i cl hop
    split at h
    · rename_i f hf
      split at h
      · rename_i g caps args h1 h2
        split at h
        · rename_i co hco
          obtain ⟨new, e1, e2⟩ := conA_local ho h
          refine ⟨new, e1, ?_⟩
          simp only [he _ _ h1, mapM_mono he h2, hco]
          exact e2
        · simp at h
      · simp at h
    · exact opA_local ho he hk h
  · exact opA_local ho he hk h

/-- What a store leaves. -/
theorem storeA_local {p : A0} {cells : List Cell} {N : Objs} (h : storeA Or p cells some = some N) :
    ∃ n x b, ((∃ off, p = .ptr (.box n) off) ∨ (∃ i off, p = .ptr (.row n i) off)) ∧ look N n = some x ∧
      ∀ O, SubO Or O → ∃ O', storeA O p cells some = some O' ∧ ∀ m, look O' m = if n = m then some x else look (cond b (dropOld O) O) m := by
  unfold storeA at h
  split at h
  · simp at h
  rename_i hr
  split at h
  · rename_i n off
    split at h
    · rename_i cs hl
      split at h
      · rename_i hle
        obtain rfl := Option.some.inj h
        refine ⟨n, .box (splice cs off cells), false, .inl ⟨off, rfl⟩, ?_, fun O hO => ⟨setAt O n (.box (splice cs off cells)), by unfold storeA; rw [hr]; simp only [hO _ _ hl, hle], fun m => ?_⟩⟩
        · rw [look_setAt, hl]; simp
        · rw [look_setAt, hO _ _ hl]
          rfl
      · simp at h
    · simp at h
  · rename_i n i off
    split at h
    · rename_i s xs hl
      split at h
      · rename_i x hle hx
        obtain ⟨h1, h2⟩ := cond_some h
        obtain rfl := Option.some.inj h2
        refine ⟨n, .rows s (xs.set i x), true, .inr ⟨i, off, rfl⟩, ?_, fun O hO => ⟨setAt (dropOld O) n (.rows s (xs.set i x)), by unfold storeA; rw [hr]; simp only [hO _ _ hl, hle, hx]; rw [h1]; rfl, fun m => ?_⟩⟩
        · rw [look_setAt, look_dropOld, hl]; simp [AObj.noOld]
        · rw [look_setAt, look_dropOld, hO _ _ hl]
          rfl
      · simp at h
    · simp at h
  · simp at h
end
end Go.Ab

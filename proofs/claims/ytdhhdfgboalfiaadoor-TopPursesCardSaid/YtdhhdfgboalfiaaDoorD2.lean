/- What an operation comes to hangs on what it looks at alone. -/
import Derived.Test.YtdhhdfgboalfiaaDoorD1
set_option linter.unusedVariables false
set_option linter.unusedSimpArgs false
namespace Go.Ab

def SubO (Or O : Objs) : Prop := ∀ n x, look Or n = some x → look O n = some x
def SubE (ev ev' : Operand → Option AV) : Prop := ∀ x v, ev x = some v → ev' x = some v

section
variable {P : Program} {G : Nat → Option (List Cell)} {Or O : Objs} {ev ev' : Operand → Option AV} {id : Nat}

theorem ev0_mono (he : SubE ev ev') {x : Operand} {a : A0} (h : ev0 ev x = some a) : ev0 ev' x = some a := by
  unfold ev0 at h ⊢
  split at h
  · rename_i b hb
    first | exact h | (rw [he _ _ hb]; exact h) | simp_all
  · simp at h

theorem rowsOf_mono (ho : SubO Or O) {s : Sh} {a : A0} {xs : List (El s)} (h : rowsOf Or s a = some xs) : rowsOf O s a = some xs := by
  cases a <;> try exact h
  case slw n =>
    unfold rowsOf at h ⊢
    dsimp only at h ⊢
    split at h
    · rename_i s' l hl; first | exact h | (rw [ho _ _ hl]; exact h) | simp_all
    · rename_i s' l hl; first | exact h | (rw [ho _ _ hl]; exact h) | simp_all
    · simp at h
  case sl n lo m =>
    unfold rowsOf at h ⊢
    dsimp only at h ⊢
    split at h
    · rename_i s' l hl; first | exact h | (rw [ho _ _ hl]; exact h) | simp_all
    · rename_i s' l hl; first | exact h | (rw [ho _ _ hl]; exact h) | simp_all
    · simp at h

theorem lenOf_mono (ho : SubO Or O) {a : A0} {n : Nat} (h : lenOf Or a = some n) : lenOf O a = some n := by
  cases a <;> try exact h
  case v s x => cases s <;> exact h
  case slw n =>
    unfold lenOf at h ⊢
    dsimp only at h ⊢
    split at h
    · rename_i s' l hl; first | exact h | (rw [ho _ _ hl]; exact h) | simp_all
    · rename_i s' l hl; first | exact h | (rw [ho _ _ hl]; exact h) | simp_all
    · simp at h

theorem baseCells_mono (ho : SubO Or O) {b : PB} {r : Bool × List Cell} (h : baseCells G Or b = some r) : baseCells G O b = some r := by
  cases b <;> try exact h
  case box n =>
    unfold baseCells at h ⊢
    dsimp only at h ⊢
    split at h
    · rename_i l hl; first | exact h | (rw [ho _ _ hl]; exact h) | simp_all
    · simp at h
  case row n i =>
    unfold baseCells at h ⊢
    dsimp only at h ⊢
    split at h
    · rename_i s' l hl; first | exact h | (rw [ho _ _ hl]; exact h) | simp_all
    · rename_i s' l hl; first | exact h | (rw [ho _ _ hl]; exact h) | simp_all
    · simp at h

theorem cellsAt_mono (ho : SubO Or O) {m : Nat} {p : A0} {r : Bool × List Cell} (h : cellsAt G Or m p = some r) : cellsAt G O m p = some r := by
  cases p <;> try exact h
  case ptr b off =>
    unfold cellsAt at h ⊢
    dsimp only at h ⊢
    split at h
    · rename_i g cs hb; first | exact h | (rw [baseCells_mono ho hb]; exact h) | simp_all
    · simp at h
  case iptr b off n sz i o =>
    unfold cellsAt at h ⊢
    dsimp only at h ⊢
    split at h
    · rename_i g cs hb; first | exact h | (rw [baseCells_mono ho hb]; exact h) | simp_all
    · simp at h

theorem boundA_mono (he : SubE ev ev') {x : Option Operand} {d n : Int} (h : boundA ev x d = some n) : boundA ev' x d = some n := by
  unfold boundA at h ⊢
  split at h
  · exact h
  · split at h
    · rename_i hb; first | exact h | (rw [he _ _ hb]; exact h) | simp_all
    · simp at h

theorem sizeIs_mono (ho : SubO Or O) {n sz : Nat} (h : sizeIs Or n sz = true) : sizeIs O n sz = true := by
  unfold sizeIs at h ⊢
  split at h
  · rename_i hl; first | exact h | (rw [ho _ _ hl]; exact h) | simp_all
  · rename_i hl; first | exact h | (rw [ho _ _ hl]; exact h) | simp_all
  · simp at h

theorem partsA_mono (he : SubE ev ev') : ∀ {l : List (Nat × Operand)} {r : List (Nat × List Cell)}, partsA ev l = some r → partsA ev' l = some r
  | [], r, h => h
  | p :: l, r, h => by
    unfold partsA at h ⊢
    split at h
    · rename_i c r' h1 h2; first | exact h | (rw [he _ _ h1, partsA_mono he h2]; exact h) | simp_all
    · rename_i cs r' h1 h2; first | exact h | (rw [he _ _ h1, partsA_mono he h2]; exact h) | simp_all
    · simp at h

theorem buildA_mono (he : SubE ev ev') {t : Nat} {ps : List (Nat × Operand)} {cs : List Cell} (h : buildA P ev t ps = some cs) : buildA P ev' t ps = some cs := by
  unfold buildA at h ⊢
  split at h
  · rename_i z ps' h1 h2; first | exact h | (rw [h1, partsA_mono he h2]; exact h) | simp_all
  · simp at h

theorem buildSliceA_mono (he : SubE ev ev') {t n : Nat} {ps : List (Nat × Operand)} {r : (s : Sh) × List (El s)} (h : buildSliceA P ev t n ps = some r) : buildSliceA P ev' t n ps = some r := by
  unfold buildSliceA at h ⊢
  split at h
  · rename_i e h0
    (try rw [h0]); (try dsimp only)
    split at h
    · rename_i s z ps' h1 h2 h3
      first | exact h | (rw [h1, h2, partsA_mono he h3]; exact h) | simp_all
    · simp at h
  · simp at h

theorem indexAddrA_mono (ho : SubO Or O) {t : Nat} {x : A0} {cst : Bool} {i : Int} {v : AV} (h : indexAddrA P Or t x cst i some = some v) : indexAddrA P O t x cst i some = some v := by
  unfold indexAddrA at h ⊢
  split at h
  · rename_i h0; first | exact h | (rw [h0]; exact h) | simp_all
  · rename_i e h0; (try rw [h0]); (try dsimp only)
    split at h
    · rename_i s h1; (try rw [h1]); (try dsimp only)
      split at h
      · rename_i h2 h3; (try rw [h2, h3]); (try dsimp only)
        split at h
        · exact h
        · split at h
          · rename_i hl; first | exact h | (rw [ho _ _ hl]; exact h) | simp_all
          · rename_i hl; first | exact h | (rw [ho _ _ hl]; exact h) | simp_all
          · simp at h
        · split at h
          · rename_i hl; first | exact h | (rw [ho _ _ hl]; exact h) | simp_all
          · rename_i hl; first | exact h | (rw [ho _ _ hl]; exact h) | simp_all
          · simp at h
        · simp at h
      · simp at h
    · simp at h
  · simp at h

theorem sliceA_mono (ho : SubO Or O) (he : SubE ev ev') {t : Nat} {x : AV} {lo hi : Option Operand} {v : AV} (h : sliceA P Or ev t x lo hi some = some v) : sliceA P O ev' t x lo hi some = some v := by
  unfold sliceA at h ⊢
  split at h
  · rename_i h0; (try rw [h0]); (try dsimp only)
    split at h
    · rename_i h1 h2; first | exact h | (rw [boundA_mono he h1, boundA_mono he h2]; exact h) | simp_all
    · simp at h
  · rename_i e a h0; (try rw [h0]); (try dsimp only)
    split at h
    · rename_i s h1; (try rw [h1]); (try dsimp only)
      split at h
      · rename_i h2 h3; (try rw [h2, h3]); (try dsimp only)
        split at h
        · rename_i s' xs
          split at h
          · rename_i h4 h5
            rw [boundA_mono he h4]
            by_cases hs : s' = s
            · simp only [hs, if_true] at h5 ⊢; first | exact h | (rw [boundA_mono he h5]; exact h) | simp_all
            · simp [hs] at h5
          · simp at h
        · rename_i n
          split at h
          · rename_i m h4
            by_cases hs : sizeIs Or n s.size = true
            · simp only [hs, if_true] at h4
              simp only [sizeIs_mono ho hs, if_true, lenOf_mono ho h4]
              split at h
              · rename_i h5 h6; first | exact h | (rw [boundA_mono he h5, boundA_mono he h6]; exact h) | simp_all
              · simp at h
            · simp [hs] at h4
          · simp at h
        · rename_i n b m
          split at h
          · rename_i h4 h5
            by_cases hs : sizeIs Or n s.size = true
            · simp only [hs, if_true] at h5
              simp only [sizeIs_mono ho hs, if_true]
              first | exact h | (rw [boundA_mono he h4, boundA_mono he h5]; exact h) | simp_all
            · simp [hs] at h5
          · simp at h
        · split at h
          · rename_i h4 h5; first | exact h | (rw [boundA_mono he h4, boundA_mono he h5]; exact h) | simp_all
          · simp at h
        · simp at h
      · simp at h
    · simp at h
  · simp at h

theorem lookupA_mono (ho : SubO Or O) {t : Nat} {m x : AV} {ok : Bool} {v : AV} (h : lookupA P Or t m x ok some = some v) : lookupA P O t m x ok some = some v := by
  simp [lookupA] at h

theorem mapM_mono {α β : Type} {f f' : α → Option β} (hf : ∀ a b, f a = some b → f' a = some b) : ∀ {l : List α} {r : List β}, l.mapM f = some r → l.mapM f' = some r
  | [], r, h => by simpa using h
  | a :: l, r, h => by
    simp only [List.mapM_cons, Option.pure_def, Option.bind_eq_bind, Option.bind_eq_some_iff] at h ⊢
    obtain ⟨b, h1, r', h2, h3⟩ := h
    exact ⟨b, hf _ _ h1, r', mapM_mono hf h2, h3⟩
end
end Go.Ab

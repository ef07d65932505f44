/- Regions whose order is not told: what each operation comes to, and the masks. -/
import Derived.Test.YtdhhdfgboalfiaaDoorD4
set_option linter.unusedVariables false
set_option linter.unusedSimpArgs false
namespace Go.Ab

section ov
variable {α : Type}
/-- What the operations of a set left, the later in the text over the earlier. -/
def ov (eff : Nat → Nat → Option α) (f0 : Nat → Option α) (S : Nat → Bool) : Nat → Nat → Option α
  | 0, key => f0 key
  | n + 1, key => match S n, eff n key with | true, some x => some x | _, _ => ov eff f0 S n key

variable {eff eff' : Nat → Nat → Option α} {f0 : Nat → Option α} {S S' : Nat → Bool}

theorem ov_congr {key : Nat} : ∀ {n : Nat}, (∀ k, k < n → ∀ x, eff k key = some x → S k = S' k) → ov eff f0 S n key = ov eff f0 S' n key
  | 0, _ => rfl
  | n + 1, h => by
    have ih := ov_congr (n := n) fun k hk => h k (by omega)
    simp only [ov]
    cases he : eff n key with
    | none => cases S n <;> cases S' n <;> exact ih
    | some x => rw [h n (by omega) x he]; cases S' n <;> simp [ih]

theorem ov_eff {key : Nat} : ∀ {n : Nat}, (∀ k, k < n → eff k key = eff' k key) → ov eff f0 S n key = ov eff' f0 S n key
  | 0, _ => rfl
  | n + 1, h => by
    have ih := ov_eff (n := n) fun k hk => h k (by omega)
    simp only [ov]
    rw [h n (by omega), ih]

theorem ov_prefix {key i : Nat} : ∀ {n : Nat}, i ≤ n → ov eff f0 (fun q => decide (q < i)) n key = ov eff f0 (fun _ => true) i key
  | 0, h => by
    have : i = 0 := by omega
    subst this; rfl
  | n + 1, h => by
    rcases Nat.eq_or_lt_of_le h with e | e
    · subst e
      exact ov_congr fun k hk x _ => by simp [hk]
    · have : ¬ n < i := by omega
      simp only [ov, this, decide_false]
      exact ov_prefix (by omega)

theorem ov_add {key i : Nat} : ∀ {n : Nat}, i < n → S i = false → S' i = true → (∀ k, k ≠ i → S' k = S k) →
    (∀ k, i < k → k < n → S k = true → ∀ x y, eff k key = some x → eff i key = some y → False) →
    ov eff f0 S' n key = (eff i key).or (ov eff f0 S n key)
  | 0, h, _, _, _, _ => by omega
  | n + 1, h, h1, h2, h3, h4 => by
    rcases Nat.eq_or_lt_of_le (Nat.le_of_lt_succ h) with e | e
    · subst e
      have : ov eff f0 S' i key = ov eff f0 S i key := ov_congr fun k hk x _ => h3 k (by omega)
      simp only [ov, h1, h2]
      cases eff i key <;> simp [this]
    · have ih := ov_add (n := n) e h1 h2 h3 fun k hk hn => h4 k hk (by omega)
      simp only [ov]
      rw [h3 n (by omega)]
      cases hS : S n with
      | false => exact ih
      | true =>
        cases he : eff n key with
        | none => exact ih
        | some x =>
          cases hi : eff i key with
          | none => rfl
          | some y => exact (h4 n e (by omega) hS x y he hi).elim

theorem ov_some {key : Nat} {x : α} : ∀ {n : Nat}, ov eff f0 S n key = some x → f0 key = some x ∨ ∃ k, k < n ∧ eff k key = some x
  | 0, h => .inl h
  | n + 1, h => by
    simp only [ov] at h
    split at h
    · rename_i y hS hy
      exact .inr ⟨n, by omega, by rw [hy]; exact h⟩
    · rcases ov_some h with h | ⟨k, hk, h⟩
      · exact .inl h
      · exact .inr ⟨k, by omega, h⟩
end ov

/-! ### The masks -/
section
variable {ops : Array Oper}
def Mk (ops : Array Oper) : List Nat := masksGo ops.toList []

theorem maskOf_bit (acc : List Nat) (p : Nat) : ∀ (es : List Edge) (s : Nat), ((es.foldl (fun s e => match Region.binds .any e with | true => s ||| (2 ^ e.on ||| acc.getD e.on 0) | false => s) s).testBit p = true) →
    s.testBit p = true ∨ ∃ e ∈ es, Region.binds .any e = true ∧ (e.on = p ∨ (acc.getD e.on 0).testBit p = true)
  | [], s, h => .inl h
  | e :: es, s, h => by
    simp only [List.foldl_cons] at h
    rcases maskOf_bit acc p es _ h with h | ⟨e', h1, h2⟩
    · split at h
      · rename_i hb
        simp only [Nat.testBit_or, Nat.testBit_two_pow, Bool.or_eq_true, decide_eq_true_eq] at h
        rcases h with h | h | h
        · exact .inl h
        · exact .inr ⟨e, by simp, hb, .inl h⟩
        · exact .inr ⟨e, by simp, hb, .inr h⟩
      · exact .inl h
    · exact .inr ⟨e', List.mem_cons_of_mem _ h1, h2⟩

def MaskOk (ops : Array Oper) (acc : List Nat) : Prop :=
  ∀ j, j < acc.length → ∀ p, (acc.getD j 0).testBit p = true → ∃ o, ops[j]? = some o ∧ ∃ e ∈ o.after, Region.binds .any e = true ∧ (e.on = p ∨ (e.on < j ∧ (acc.getD e.on 0).testBit p = true))

theorem masksGo_ok : ∀ (l dn : List Oper) (acc : List Nat), ops.toList = dn ++ l → acc.length = dn.length → MaskOk ops acc → MaskOk ops (masksGo l acc) ∧ (masksGo l acc).length = ops.size
  | [], dn, acc, h, hl, ha => ⟨ha, by
      have : ops.toList.length = dn.length := by rw [h]; simp
      simp [masksGo, hl]; simpa using this.symm⟩
  | o :: l, dn, acc, h, hl, ha => by
    refine masksGo_ok l (dn ++ [o]) (acc ++ [maskOf acc o.after.toList]) (by simp [h]) (by simp [hl]) fun j hj p hp => ?_
    have get : ∀ i, i < acc.length → (acc ++ [maskOf acc o.after.toList]).getD i 0 = acc.getD i 0 := fun i hi => by
      simp [List.getD_eq_getElem?_getD, List.getElem?_append_left hi]
    rcases Nat.lt_or_ge j acc.length with hlt | hge
    · rw [get j hlt] at hp
      obtain ⟨o', h1, e, h2, h3, h4⟩ := ha j hlt p hp
      exact ⟨o', h1, e, h2, h3, h4.imp id fun ⟨x, y⟩ => ⟨x, by rw [get _ (by omega)]; exact y⟩⟩
    · have hjl : j = acc.length := by simp at hj; omega
      subst hjl
      have e0 : (acc ++ [maskOf acc o.after.toList]).getD acc.length 0 = maskOf acc o.after.toList := by simp [List.getD_eq_getElem?_getD]
      rw [e0] at hp
      have ho : ops[acc.length]? = some o := by
        rw [← Array.getElem?_toList, h, hl]; simp
      rcases maskOf_bit acc p _ 0 hp with hz | ⟨e, h1, h2, h3⟩
      · simp at hz
      · refine ⟨o, ho, e, by simpa using h1, h2, ?_⟩
        rcases h3 with h3 | h3
        · exact .inl h3
        · right
          have hlt : e.on < acc.length := by
            rcases Nat.lt_or_ge e.on acc.length with h' | h'
            · exact h'
            · rw [List.getD_eq_getElem?_getD, List.getElem?_eq_none h'] at h3; simp at h3
          exact ⟨hlt, by rw [get _ hlt]; exact h3⟩

theorem Mk_ok : MaskOk ops (Mk ops) ∧ (Mk ops).length = ops.size := masksGo_ok _ [] [] (by simp) rfl (fun j hj => by simp at hj)

/-- What an operation waits for is in the set with it. -/
def Down (ops : Array Oper) (S : Nat → Bool) : Prop := ∀ q o, S q = true → ops[q]? = some o → ∀ e ∈ o.after, Region.binds .any e = true → S e.on = true

theorem Down.bit {S : Nat → Bool} (hS : Down ops S) : ∀ (q : Nat), q < ops.size → S q = true → ∀ p, ((Mk ops).getD q 0).testBit p = true → S p = true := by
  intro q
  induction q using Nat.strongRecOn with
  | ind q ih =>
    intro hq hs p hp
    obtain ⟨o, h1, e, h2, h3, h4⟩ := Mk_ok.1 q (by rw [Mk_ok.2]; exact hq) p hp
    have he := hS q o hs h1 e h2 h3
    rcases h4 with rfl | ⟨h4, h5⟩
    · exact he
    · exact ih e.on h4 (by omega) he p h5

theorem Down.ready {S : Nat → Bool} (hS : Down ops S) {i : Nat} {o : Oper} (ho : ops[i]? = some o) (hr : ∀ e ∈ o.after, Region.binds .any e = true → S e.on = true) {p : Nat} (hp : ((Mk ops).getD i 0).testBit p = true) : S p = true := by
  have hi : i < ops.size := (Array.getElem?_eq_some_iff.1 ho).1
  obtain ⟨o', h1, e, h2, h3, h4⟩ := Mk_ok.1 i (by rw [Mk_ok.2]; exact hi) p hp
  rw [ho] at h1; obtain rfl := Option.some.inj h1
  have he := hr e h2 h3
  rcases h4 with rfl | ⟨h4, h5⟩
  · exact he
  · exact hS.bit e.on (by omega) he p h5
end
end Go.Ab

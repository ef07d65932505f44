/- Regions whose order is not told: every order. -/
import Derived.Test.YtdhhdfgboalfiaaDoorD7
set_option linter.unusedVariables false
set_option linter.unusedSimpArgs false
namespace Go.Ab

section
variable {R : Type} {X : Ctx} {k0 : Nat} {c : Cfg} {ops : Array Oper} {base : Nat} {k : List KI} {V : Nat → AV} {F : Nat → Objs} {Sn : Nat → List Nat}

theorem calm_spec {M : List Nat} {i t : Nat} (h : calm ops M i t = true) {q : Nat} (hq : q < ops.size) (hne : q ≠ i) : ordered M q i = true ∨ writes ops q t = false := by
  unfold calm at h
  have := List.all_eq_true.1 h q (by simpa using hq)
  simp only [Bool.or_eq_true, Bool.not_eq_true', beq_ne hne, Bool.false_eq_true, false_or] at this
  exact this

/-- At a set that holds all that must come before i, and not i: of the operations that are ordered with i, those are in it that stand before i. -/
theorem ordered_set {S : Nat → Bool} (hS : Down ops S) {i : Nat} {o : Oper} (ho : ops[i]? = some o) (hSi : S i = false) (hr : ∀ e ∈ o.after, Region.binds .any e = true → S e.on = true)
    (hlt : ∀ q, q < ops.size → (Mk ops).getD q 0 < 2 ^ q) {q : Nat} (hq : q < ops.size) (hord : ordered (Mk ops) q i = true) : S q = decide (q < i) := by
  have hi : i < ops.size := (Array.getElem?_eq_some_iff.1 ho).1
  unfold ordered at hord
  simp only [Bool.or_eq_true] at hord
  rcases hord with h | h
  · have h1 := hS.ready ho hr h
    have h2 : q < i := by
      rcases Nat.lt_or_ge q i with h' | h'
      · exact h'
      · rw [Nat.testBit_lt_two_pow (Nat.lt_of_lt_of_le (hlt i hi) (Nat.pow_le_pow_right (by omega) h'))] at h
        simp at h
    simp [h1, h2]
  · have h1 : S q = false := by
      cases hs : S q with
      | false => rfl
      | true => rw [hS.bit q hq hs i h] at hSi; simp at hSi
    have h2 : ¬ q < i := by
      intro h'
      rw [Nat.testBit_lt_two_pow (Nat.lt_of_lt_of_le (hlt q hq) (Nat.pow_le_pow_right (by omega) (by omega)))] at h
      simp at h
    simp [h1, h2]

theorem ordered_comm (M : List Nat) (i j : Nat) : ordered M i j = ordered M j i := by unfold ordered; exact Bool.or_comm _ _

theorem stepD (hok : ∀ q, q < ops.size → StepOk X k0 c.fr.nt base ops c.fr.env c.objs V F Sn q) (hold : hasOld c.objs = false) {S S' : Nat → Bool} (hS : Down ops S) {i : Nat} {o : Oper} (ho : ops[i]? = some o) (hSi : S i = false)
    (hr : ∀ e ∈ o.after, Region.binds .any e = true → S e.on = true) (hS1 : S' i = true) (hS2 : ∀ q, q ≠ i → S' q = S q) {is : List Nat} {c' : Cfg} (hc : InvD c ops base k V F S (i :: is) c') (ih : Cfg → Option R) :
    ∃ c'', InvD c ops base k V F S' is c'' ∧ regC X k0 ih c' ops base k (i :: is) = ih c'' := by
  have hi : i < ops.size := (Array.getElem?_eq_some_iff.1 ho).1
  have hlt : ∀ q, q < ops.size → (Mk ops).getD q 0 < 2 ^ q := fun q hq => (hok q hq).lt
  have ord := fun q (hq : q < ops.size) => ordered_set hS ho hSi hr hlt (q := q) hq
  -- what the operation sees
  have seeE : ∀ t, calm ops (Mk ops) i t = true → look c'.fr.env t = ovE ops c.fr.env V i t := by
    intro t ht
    rw [hc.env, ovE, ← ov_prefix (Nat.le_of_lt hi)]
    refine ov_congr fun q hq x hx => ?_
    by_cases e : q = i
    · subst e; simp [hSi]
    · rcases calm_spec ht hq e with h | h
      · exact ord q hq h
      · unfold effE at hx; rw [h] at hx; simp at hx
  have keyF : ∀ q n x, effO F q n = some x → n ∈ keysOf (F q) := fun q n x h => look_key h
  have seeO : ∀ n, n ∈ Sn i → (∀ q, q < i → ordered (Mk ops) q i = true ∨ n ∉ keysOf (F q)) → look c'.objs n = ovO c.objs F i n := by
    intro n hn hq0
    rw [hc.objs, ovO, ← ov_prefix (Nat.le_of_lt hi)]
    refine ov_congr fun q hq x hx => ?_
    by_cases e : q = i
    · subst e; simp [hSi]
    · rcases Nat.lt_or_ge q i with h | h
      · rcases hq0 q h with h' | h'
        · exact ord q hq h'
        · exact absurd (keyF q n x hx) h'
      · rcases (hok q hq).apart n (keyF q n x hx) i (by omega) with h' | h'
        · exact ord q hq (by rw [ordered_comm]; exact h')
        · exact absurd hn h'.1
  -- what comes later in the text and is done already touches none of what it changes
  have later : ∀ q, i < q → q < ops.size → S q = true → ordered (Mk ops) q i = true → False := by
    intro q h1 h2 h3 h4
    have := ord q h2 h4
    rw [h3] at this
    have h5 : ¬ q < i := by omega
    simp [h5] at this
  have addE : ∀ t, ov (effE ops V) (look c.fr.env) S' ops.size t = (effE ops V i t).or (look c'.fr.env t) := by
    intro t
    rw [hc.env]
    refine ov_add hi hSi hS1 hS2 fun q h1 h2 h3 x y hx hy => ?_
    have hwi : writes ops i t = true := by
      unfold effE at hy; split at hy
      · assumption
      · simp at hy
    have hwq : writes ops q t = true := by
      unfold effE at hx; split at hx
      · assumption
      · simp at hx
    have hd : o.dst = some t := by
      unfold writes at hwi; rw [ho] at hwi
      simp only [Option.bind_some] at hwi
      split at hwi
      · rename_i d hd; rw [hd, Nat.eq_of_beq_eq_true hwi]
      · simp at hwi
    rcases calm_spec ((hok i hi).dst o t ho hd).1 h2 (by omega) with h | h
    · exact later q h1 h2 h3 h
    · rw [h] at hwq; simp at hwq
  have addO : ∀ n, ov (effO F) (look c.objs) S' ops.size n = (look (F i) n).or (look c'.objs n) := by
    intro n
    rw [hc.objs]
    refine ov_add hi hSi hS1 hS2 fun q h1 h2 h3 x y hx hy => ?_
    rcases (hok q h2).apart n (keyF q n x hx) i h1 with h' | h'
    · exact later q h1 h2 h3 (by rw [ordered_comm]; exact h')
    · exact h'.2 (keyF i n y hy)
  have noOld : ∀ n s xs, look c'.objs n ≠ some (.old s xs) := by
    intro n s xs h
    rw [hc.objs] at h
    rcases ov_some h with h | ⟨q, hq, h⟩
    · exact noOld_look hold n s xs h
    · exact noOld_look (hok q hq).old n s xs h
  have hdst : ∀ d, o.dst = some d → d < c'.fr.nt := fun d hd => by rw [hc.nt]; exact ((hok i hi).dst o d ho hd).2
  -- the state behind it
  have fin : ∀ (E1 : Env) (O' : Objs), (∀ t, look E1 t = look c'.fr.env t) → (∀ n, look O' n = (look (F i) n).or (look c'.objs n)) →
      InvD c ops base k V F S' is { c' with fr := { c'.fr with env := putEnv o.dst (V i) E1, todo := .reg ops base is :: k }, objs := O' } := by
    intro E1 O' hE1 hO'
    refine ⟨hc.fid, hc.nt, hc.cs, hc.nx, rfl, fun t => ?_, fun n => ?_⟩
    · rw [addE]
      show look (putEnv o.dst (V i) E1) t = _
      unfold effE writes putEnv
      rw [ho]
      simp only [Option.bind_some]
      cases hd : o.dst with
      | none => simp only []; exact hE1 t
      | some d =>
        simp only []
        rw [look_cons]
        by_cases e : d = t
        · subst e; simp
        · simp only [e, if_false, beq_ne e]; exact hE1 t
    · rw [addO]; exact hO' n
  have act : ∀ (E1 : Env), (∀ t, look E1 t = look c'.fr.env t) → ∀ (Ev : Env) (Or N : Objs), opX X k0 Or (evalA X.G Ev) (base + 8 * i) o (fun v N => some (v, N)) = some (V i, N) →
        (∀ t v, look Ev t = some v → calm ops (Mk ops) i t = true ∧ ovE ops c.fr.env V i t = some v) →
        (∀ n x, look Or n = some x → n ∈ Sn i ∧ (∀ q, q < i → ordered (Mk ops) q i = true ∨ n ∉ keysOf (F q)) ∧ ovO c.objs F i n = some x) →
        effD (evalA X.G Ev) o Or N = some (F i) → ∃ c'', InvD c ops base k V F S' is c'' ∧ operC X k0 ih { c' with fr := { c'.fr with env := E1 } } ops base i is k o = ih c'' := by
    intro E1 hE1 Ev Or N a1 a2 a3 a4
    obtain ⟨O', b1, b2⟩ := opX_eff (O := c'.objs) (ev' := evalA X.G E1) (fun n x hx => by
      obtain ⟨c1, c2, c3⟩ := a3 n x hx
      rw [seeO n c1 c2]; exact c3) (evalA_sub fun t v hv => by
      obtain ⟨c1, c2⟩ := a2 t v hv
      rw [hE1, seeE t c1]; exact c2) noOld a1 a4
    refine ⟨_, fin E1 O' hE1 b2, ?_⟩
    rw [operC_of_opX (c := { c' with fr := { c'.fr with env := E1 } }) b1, finishC_eq (c := { c' with fr := { c'.fr with env := E1 } }) (fun d hd => hdst d hd)]
  obtain ⟨o', h0, h1, h2⟩ := (hok i hi).run
  rw [ho] at h0; obtain rfl := Option.some.inj h0
  unfold regC
  simp only [ho]
  rcases h1 with hg | ⟨j, want, d, hg, hd, b, hcalm, hb, hbw⟩
  · simp only [hg]
    rcases h2 with ⟨⟨j, want, d, hg', _⟩, _⟩ | ⟨Ev, Or, N, a1, a2, a3, a4⟩
    · rw [hg] at hg'; simp at hg'
    · exact act c'.fr.env (fun _ => rfl) Ev Or N a1 a2 a3 a4
  · simp only [hg, hd]
    have hl : look c'.fr.env d = some (bool b) := by rw [seeE d hcalm]; exact hb
    rw [hl]
    have hE1 : ∀ t, look ((d, bool b) :: c'.fr.env) t = look c'.fr.env t := fun t => by
      rw [look_cons]
      by_cases e : d = t
      · subst e; simp [hl]
      · simp [e]
    have main : ∃ c'', InvD c ops base k V F S' is c'' ∧ (match (b == want) with
        | true => operC X k0 ih { c' with fr := { c'.fr with env := (d, bool b) :: c'.fr.env } } ops base i is k o
        | false => finishC ih { c' with fr := { c'.fr with env := (d, bool b) :: c'.fr.env } } (.c (.a .und)) o.dst (.reg ops base is :: k) c'.objs) = ih c'' := by
      rcases h2 with ⟨⟨j', want', d', hg', hd', b', hb', hne⟩, hv, hF⟩ | ⟨Ev, Or, N, a1, a2, a3, a4⟩
      · rw [hg] at hg'; cases hg'
        rw [hd] at hd'; cases hd'
        rw [hb] at hb'; cases hb'
        have : (b == want) = false := by simpa using hne
        rw [this]
        dsimp only
        rw [finishC_eq (c := { c' with fr := { c'.fr with env := (d, bool b) :: c'.fr.env } }) (fun d hd => hdst d hd)]
        refine ⟨_, ?_, rfl⟩
        have := fin ((d, bool b) :: c'.fr.env) c'.objs hE1 (fun n => by rw [hF]; rfl)
        rw [hv] at this
        exact this
      · rcases hbw with rfl | ⟨hne, hv, hF⟩
        · simp only [beq_self_eq_true]
          exact act _ hE1 Ev Or N a1 a2 a3 a4
        · have : (b == want) = false := by simpa using hne
          rw [this]
          dsimp only
          rw [finishC_eq (c := { c' with fr := { c'.fr with env := (d, bool b) :: c'.fr.env } }) (fun d hd => hdst d hd)]
          refine ⟨_, ?_, rfl⟩
          have := fin ((d, bool b) :: c'.fr.env) c'.objs hE1 (fun n => by rw [hF]; rfl)
          rw [hv] at this
          exact this
    obtain ⟨c'', m1, m2⟩ := main
    refine ⟨c'', m1, ?_⟩
    rw [← m2]
    cases b <;> cases want <;> rfl
end
end Go.Ab

/- What the working out of a region in no order tells of each of its operations. -/
import Derived.Test.YtdhhdfgboalfiaaDoorD5
import Derived.Test.YtdhhdfgboalfiaaDoorA16
set_option linter.unusedVariables false
set_option linter.unusedSimpArgs false
namespace Go.Ab

section
variable {R : Type} {X : Ctx} {k0 nt base : Nat} {ops : Array Oper} {E0 : Env} {O0 : Objs} {V : Nat → AV} {F : Nat → Objs} {Sn : Nat → List Nat}

def effE (ops : Array Oper) (V : Nat → AV) (q t : Nat) : Option AV := match writes ops q t with | true => some (V q) | false => none
def effO (F : Nat → Objs) (q n : Nat) : Option AObj := look (F q) n

def upTo (_ : Nat) : Bool := true
def ovE (ops : Array Oper) (E0 : Env) (V : Nat → AV) : Nat → Nat → Option AV := ov (effE ops V) (look E0) fun _ => true
def ovO (O0 : Objs) (F : Nat → Objs) : Nat → Nat → Option AObj := ov (effO F) (look O0) fun _ => true

/-- What is known of operation i. -/
structure StepOk (X : Ctx) (k0 nt base : Nat) (ops : Array Oper) (E0 : Env) (O0 : Objs) (V : Nat → AV) (F : Nat → Objs) (Sn : Nat → List Nat) (i : Nat) : Prop where
  lt : ((Mk ops).getD i 0) < 2 ^ i
  dst : ∀ o d, ops[i]? = some o → o.dst = some d → calm ops (Mk ops) i d = true ∧ d < nt
  apart : ∀ n, n ∈ keysOf (F i) → ∀ q, q < i → ordered (Mk ops) q i = true ∨ (n ∉ Sn q ∧ n ∉ keysOf (F q))
  old : hasOld (F i) = false
  run : ∃ o, ops[i]? = some o ∧ ((o.guard = none) ∨ ∃ j want d, o.guard = some (j, want) ∧ (ops[j]?).bind (·.dst) = some d ∧ ∃ b : Bool, calm ops (Mk ops) i d = true ∧ ovE ops E0 V i d = some (bool b) ∧
      (b = want ∨ (b ≠ want ∧ V i = .c (.a .und) ∧ F i = []))) ∧
    (((∃ j want d, o.guard = some (j, want) ∧ (ops[j]?).bind (·.dst) = some d ∧ ∃ b : Bool, ovE ops E0 V i d = some (bool b) ∧ b ≠ want) ∧ V i = .c (.a .und) ∧ F i = []) ∨
      ∃ (Ev : Env) (Or N : Objs), opX X k0 Or (evalA X.G Ev) (base + 8 * i) o (fun v N => some (v, N)) = some (V i, N) ∧
        (∀ t v, look Ev t = some v → calm ops (Mk ops) i t = true ∧ ovE ops E0 V i t = some v) ∧
        (∀ n x, look Or n = some x → n ∈ Sn i ∧ (∀ q, q < i → ordered (Mk ops) q i = true ∨ n ∉ keysOf (F q)) ∧ ovO O0 F i n = some x) ∧
        effD (evalA X.G Ev) o Or N = some (F i))

theorem hasNat_iff {l : List Nat} {n : Nat} : hasNat l n = true ↔ n ∈ l := by
  induction l with
  | nil => simp [hasNat]
  | cons m r ih =>
    unfold hasNat
    split
    · rename_i h; have := Nat.eq_of_beq_eq_true h; subst this; simp
    · rename_i h
      have : m ≠ n := fun e => by subst e; rw [Nat.beq_refl] at h; simp at h
      rw [ih]; simp [this, Ne.symm this]

theorem look_calmEnv {M : List Nat} {i t : Nat} {v : AV} : ∀ {E : Env}, look (calmEnv ops M i E) t = some v → calm ops M i t = true ∧ look E t = some v
  | [], h => by simp [calmEnv, look] at h
  | (u, x) :: r, h => by
    unfold calmEnv at h
    rw [look_cons]
    split at h
    · rename_i hc
      rw [look_cons] at h
      by_cases e : u = t
      · subst e; simp at h ⊢; exact ⟨hc, h⟩
      · simp [e] at h ⊢; exact look_calmEnv h
    · rename_i hc
      by_cases e : u = t
      · subst e
        have := (look_calmEnv h).1
        rw [hc] at this; simp at this
      · simp [e]; exact look_calmEnv h

theorem look_calmObjs {ids : List Nat} {M : List Nat} {recs : List Rec} {i n : Nat} {x : AObj} : ∀ {O : Objs}, look (calmObjs ids M recs i O) n = some x → calmObj M recs i n = true ∧ look O n = some x ∧ n ∈ keysOf (calmObjs ids M recs i O)
  | [], h => by simp [calmObjs, look] at h
  | (u, y) :: r, h => by
    have same : ∀ {O : Objs}, look (calmObjs ids M recs i O) n = some x → (hasNat ids n && calmObj M recs i n) = true := by
      intro O
      induction O with
      | nil => intro h; simp [calmObjs, look] at h
      | cons p r ih =>
        intro h
        obtain ⟨u, y⟩ := p
        unfold calmObjs at h
        split at h
        · rename_i hc
          rw [look_cons] at h
          by_cases e : u = n
          · subst e; exact hc
          · simp [e] at h; exact ih h
        · exact ih h
    have hs := same h
    unfold calmObjs at h ⊢
    rw [look_cons]
    split at h
    · rename_i hc
      rw [look_cons] at h
      by_cases e : u = n
      · subst e; simp at h ⊢; exact ⟨by simp at hc; exact hc.2, h, by simp [keysOf]⟩
      · simp [e] at h ⊢
        obtain ⟨h1, h2, h3⟩ := look_calmObjs h
        exact ⟨h1, h2, by simp [keysOf] at h3 ⊢; exact .inr h3⟩
    · rename_i hc
      by_cases e : u = n
      · subst e
        rw [hs] at hc; simp at hc
      · simp [e]; exact look_calmObjs h

theorem look_viewD {ev : Operand → Option AV} {M : List Nat} {recs : List Rec} {i n : Nat} {o : Oper} {x : AObj} {O : Objs} (h : look (viewD ev M recs i o O) n = some x) :
    calmObj M recs i n = true ∧ look O n = some x ∧ n ∈ keysOf (viewD ev M recs i o O) := by
  unfold viewD at h ⊢
  split at h
  · simp [look] at h
  · exact look_calmObjs h

theorem look_append (A B : Objs) (n : Nat) : look (A ++ B) n = match look A n with | some x => some x | none => look B n := by
  induction A with
  | nil => rfl
  | cons p r ih =>
    obtain ⟨m, x⟩ := p
    rw [List.cons_append, look_cons, look_cons, ih]
    by_cases e : m = n <;> simp [e]

theorem look_key {A : Objs} {n : Nat} {x : AObj} (h : look A n = some x) : n ∈ keysOf A := by
  induction A with
  | nil => simp [look] at h
  | cons p r ih =>
    obtain ⟨m, y⟩ := p
    rw [look_cons] at h
    by_cases e : m = n
    · subst e; simp [keysOf]
    · simp [e] at h; have := ih h; simp [keysOf] at this ⊢; exact .inr this

/-- What was worked out so far. -/
structure Past (X : Ctx) (k0 nt base : Nat) (ops : Array Oper) (E0 : Env) (O0 : Objs) (m : Nat) (E : Env) (O : Objs) (recs : List Rec) (V : Nat → AV) (F : Nat → Objs) (Sn : Nat → List Nat) : Prop where
  env : ∀ t, look E t = ovE ops E0 V m t
  objs : ∀ n, look O n = ovO O0 F m n
  recs : ∀ q, q < m → ⟨q, Sn q, keysOf (F q)⟩ ∈ recs
  ok : ∀ i, i < m → StepOk X k0 nt base ops E0 O0 V F Sn i

theorem ovE_congr {V V' : Nat → AV} {m t : Nat} (h : ∀ q, q < m → V q = V' q) : ovE ops E0 V m t = ovE ops E0 V' m t :=
  ov_eff fun k hk => by unfold effE; rw [h k hk]
theorem ovO_congr {F F' : Nat → Objs} {m t : Nat} (h : ∀ q, q < m → F q = F' q) : ovO O0 F m t = ovO O0 F' m t :=
  ov_eff fun k hk => by unfold effO; rw [h k hk]

theorem StepOk.congr {V' : Nat → AV} {F' : Nat → Objs} {Sn' : Nat → List Nat} {i : Nat} (h : StepOk X k0 nt base ops E0 O0 V F Sn i) (hV : ∀ q, q ≤ i → V q = V' q) (hF : ∀ q, q ≤ i → F q = F' q) (hS : ∀ q, q ≤ i → Sn q = Sn' q) :
    StepOk X k0 nt base ops E0 O0 V' F' Sn' i := by
  have eE : ∀ t, ovE ops E0 V' i t = ovE ops E0 V i t := fun t => (ovE_congr fun q hq => hV q (by omega)).symm
  have eO : ∀ t, ovO O0 F' i t = ovO O0 F i t := fun t => (ovO_congr fun q hq => hF q (by omega)).symm
  refine ⟨h.lt, h.dst, fun n hn q hq => ?_, by rw [← hF i (Nat.le_refl _)]; exact h.old, ?_⟩
  · rw [← hF i (Nat.le_refl _)] at hn
    rw [← hS q (by omega), ← hF q (by omega)]
    exact h.apart n hn q hq
  · obtain ⟨o, h1, h2, h3⟩ := h.run
    refine ⟨o, h1, ?_, ?_⟩
    · simp only [eE, ← hV i (Nat.le_refl _), ← hF i (Nat.le_refl _)]; exact h2
    · simp only [eE, eO, ← hV i (Nat.le_refl _), ← hF i (Nat.le_refl _), ← hS i (Nat.le_refl _)]
      rcases h3 with h3 | ⟨Ev, Or, N, a1, a2, a3, a4⟩
      · exact .inl h3
      · exact .inr ⟨Ev, Or, N, a1, a2, fun n x hx => ⟨(a3 n x hx).1, fun q hq => by rw [← hF q (by omega)]; exact (a3 n x hx).2.1 q hq, (a3 n x hx).2.2⟩, a4⟩

/-- One more. -/
theorem Past.next {m : Nat} {E : Env} {O : Objs} {recs : List Rec} (hp : Past X k0 nt base ops E0 O0 m E O recs V F Sn) {o : Oper} (ho : ops[m]? = some o) {v : AV} {eff : Objs} {seen : List Nat} {E' : Env} (hE' : ∀ t, look E' t = look E t)
    (hlt : (Mk ops).getD m 0 < 2 ^ m) (hok : apartD (Mk ops) recs m eff = true) (hold : hasOld eff = false) (hdst : dstOk ops (Mk ops) m o = true) (hnt : (match o.dst with | some d => Nat.blt d nt | none => true) = true)
    (hrun : (o.guard = none ∨ ∃ j want d, o.guard = some (j, want) ∧ (ops[j]?).bind (·.dst) = some d ∧ ∃ b : Bool, calm ops (Mk ops) m d = true ∧ look E d = some (bool b) ∧ (b = want ∨ (b ≠ want ∧ v = .c (.a .und) ∧ eff = []))) ∧
      (((∃ j want d, o.guard = some (j, want) ∧ (ops[j]?).bind (·.dst) = some d ∧ ∃ b : Bool, look E d = some (bool b) ∧ b ≠ want) ∧ v = .c (.a .und) ∧ eff = []) ∨
        ∃ (Ev : Env) (Or N : Objs), opX X k0 Or (evalA X.G Ev) (base + 8 * m) o (fun v N => some (v, N)) = some (v, N) ∧
        (∀ t v, look Ev t = some v → calm ops (Mk ops) m t = true ∧ look E t = some v) ∧
        (∀ n x, look Or n = some x → n ∈ seen ∧ calmObj (Mk ops) recs m n = true ∧ look O n = some x) ∧
        effD (evalA X.G Ev) o Or N = some eff)) :
    Past X k0 nt base ops E0 O0 (m + 1) (match o.dst with | some d => (d, v) :: E' | none => E') (eff ++ O) (⟨m, seen, keysOf eff⟩ :: recs)
      (fun q => if q = m then v else V q) (fun q => if q = m then eff else F q) (fun q => if q = m then seen else Sn q) := by
  have cV : ∀ q, q < m → V q = (fun q => if q = m then v else V q) q := fun q hq => by simp [show q ≠ m by omega]
  have cF : ∀ q, q < m → F q = (fun q => if q = m then eff else F q) q := fun q hq => by simp [show q ≠ m by omega]
  have cS : ∀ q, q < m → Sn q = (fun q => if q = m then seen else Sn q) q := fun q hq => by simp [show q ≠ m by omega]
  have eE : ∀ t, look E t = ovE ops E0 (fun q => if q = m then v else V q) m t := fun t => by rw [hp.env t]; exact ovE_congr cV
  have eO : ∀ t, look O t = ovO O0 (fun q => if q = m then eff else F q) m t := fun t => by rw [hp.objs t]; exact ovO_congr cF
  refine ⟨fun t => ?_, fun n => ?_, fun q hq => ?_, fun i hi => ?_⟩
  · show _ = ov _ _ _ (m + 1) t
    simp only [ov, effE, writes, ho, Option.bind_some]
    cases hd : o.dst with
    | none => simp only []; rw [hE', eE]; rfl
    | some d =>
      simp only []
      rw [look_cons]
      by_cases e : d = t
      · subst e; simp
      · simp only [e, if_false, beq_ne e]; rw [hE', eE]; rfl
  · show _ = ov _ _ _ (m + 1) n
    rw [look_append]
    simp only [ov, effO, if_true]
    cases look eff n with
    | none => simp only []; exact eO n
    | some x => rfl
  · by_cases e : q = m
    · subst e; simp
    · have := hp.recs q (by omega)
      simp only [e, if_false]
      exact List.mem_cons_of_mem _ this
  · by_cases e : i = m
    · subst e
      have ap : ∀ n, n ∈ keysOf eff → ∀ q, q < i → ordered (Mk ops) q i = true ∨ (n ∉ Sn q ∧ n ∉ keysOf (F q)) := by
        intro n hn q hq
        unfold apartD at hok
        have := List.all_eq_true.1 (List.all_eq_true.1 hok n hn) _ (hp.recs q hq)
        simp only [Bool.or_eq_true, Bool.not_eq_true', Bool.or_eq_false_iff] at this
        rcases this with h | ⟨h1, h2⟩
        · exact .inl h
        · refine .inr ⟨fun h => ?_, fun h => ?_⟩
          · rw [hasNat_iff.2 h] at h1; simp at h1
          · rw [hasNat_iff.2 h] at h2; simp at h2
      refine ⟨hlt, fun o' d ho' hd => ?_, fun n hn q hq => ?_, by simpa using hold, o, ho, ?_, ?_⟩
      · rw [ho] at ho'; obtain rfl := Option.some.inj ho'
        rw [hd] at hnt
        unfold dstOk at hdst; rw [hd] at hdst
        exact ⟨hdst, blt_lt hnt⟩
      · simp only [if_true, show q ≠ i by omega, if_false] at hn ⊢
        exact ap n hn q hq
      · rcases hrun.1 with h | ⟨j, want, d, a1, a2, b, a3, a4, a5⟩
        · exact .inl h
        · exact .inr ⟨j, want, d, a1, a2, b, a3, by rw [← eE]; exact a4, by simpa using a5⟩
      · rcases hrun.2 with ⟨⟨j, want, d, a1, a2, b, a4, a5⟩, a6⟩ | ⟨Ev, Or, N, a1, a2, a3, a4⟩
        · exact .inl ⟨⟨j, want, d, a1, a2, b, by rw [← eE]; exact a4, a5⟩, by simpa using a6⟩
        · refine .inr ⟨Ev, Or, N, by simpa using a1, fun t v hv => ⟨(a2 t v hv).1, by rw [← eE]; exact (a2 t v hv).2⟩, fun n x hx => ⟨by simpa using (a3 n x hx).1, fun q hq => ?_, by rw [← eO]; exact (a3 n x hx).2.2⟩, by simpa using a4⟩
          have := List.all_eq_true.1 (a3 n x hx).2.1 _ (hp.recs q hq)
          simp only [Bool.or_eq_true, Bool.not_eq_true'] at this
          simp only [show q ≠ i by omega, if_false]
          rcases this with h | h
          · exact .inl h
          · exact .inr fun hh => by rw [hasNat_iff.2 hh] at h; simp at h
    · exact (hp.ok i (by omega)).congr (fun q hq => cV q (by omega)) (fun q hq => cF q (by omega)) fun q hq => cS q (by omega)

theorem afterD_some {M : List Nat} {i : Nat} {o : Oper} {seen : List Nat} {E : Env} {O : Objs} {recs : List Rec} {v : AV} {eff : Objs} {κ : Env → Objs → List Rec → Option R} {r : R}
    (h : afterD nt ops M i o seen E O recs v eff κ = some r) : apartD M recs i eff = true ∧ hasOld eff = false ∧ dstOk ops M i o = true ∧ (match o.dst with | some d => Nat.blt d nt | none => true) = true ∧
      κ (match o.dst with | some d => (d, v) :: E | none => E) (eff ++ O) (⟨i, seen, keysOf eff⟩ :: recs) = some r := by
  unfold afterD at h
  split at h
  · rename_i h1 h2
    simp only [Bool.and_eq_true, Bool.not_eq_true'] at h1 h2
    exact ⟨h1.1, h1.2, h2.1, h2.2, h⟩
  · simp at h

theorem goD_some {κ : Env → Objs → Option R} {r : R} : ∀ (l m : Nat) (E : Env) (O : Objs) (recs : List Rec) (V : Nat → AV) (F : Nat → Objs) (Sn : Nat → List Nat), Past X k0 nt base ops E0 O0 m E O recs V F Sn →
    goD X k0 nt base ops (Mk ops) κ (List.range' m l) E O recs = some r → ∃ V F Sn E' O' recs', Past X k0 nt base ops E0 O0 (m + l) E' O' recs' V F Sn ∧ κ E' O' = some r
  | 0, m, E, O, recs, V, F, Sn, hp, h => ⟨V, F, Sn, E, O, recs, hp, h⟩
  | l + 1, m, E, O, recs, V, F, Sn, hp, h => by
    rw [List.range'_succ] at h
    unfold goD at h
    split at h
    · rename_i o ho hlt
      have hlt' := blt_lt hlt
      have one : ∀ (E1 : Env), (∀ t, look E1 t = look E t) → ((o.guard = none ∨ ∃ j want d, o.guard = some (j, want) ∧ (ops[j]?).bind (·.dst) = some d ∧ ∃ b : Bool, calm ops (Mk ops) m d = true ∧ look E d = some (bool b) ∧ b = want)) →
          oneD X k0 nt base ops (Mk ops) m o E1 O recs (goD X k0 nt base ops (Mk ops) κ (List.range' (m + 1) l)) = some r →
          ∃ V F Sn E' O' recs', Past X k0 nt base ops E0 O0 (m + (l + 1)) E' O' recs' V F Sn ∧ κ E' O' = some r := by
        intro E1 hE1 hg h
        unfold oneD at h
        rw [opX_nat, Option.bind_eq_some_iff] at h
        obtain ⟨⟨v, N⟩, h1, h2⟩ := h
        dsimp only at h2
        split at h2
        · rename_i eff heff
          obtain ⟨b1, b2, b3, b4, b5⟩ := afterD_some h2
          have hp' := hp.next ho (E' := E1) hE1 hlt' b1 b2 b3 b4 (seen := keysOf (viewD (evalA X.G (calmEnv ops (Mk ops) m E1)) (Mk ops) recs m o O)) (v := v) ⟨hg.imp id fun ⟨j, want, d, a1, a2, b, a3, a4, a5⟩ => ⟨j, want, d, a1, a2, b, a3, a4, .inl a5⟩,
            .inr ⟨_, _, N, h1, fun t v hv => ⟨(look_calmEnv hv).1, by rw [← hE1]; exact (look_calmEnv hv).2⟩, fun n x hx => ⟨(look_viewD hx).2.2, (look_viewD hx).1, (look_viewD hx).2.1⟩, heff⟩⟩
          have := goD_some l (m + 1) _ _ _ _ _ _ hp' b5
          rw [show m + (l + 1) = m + 1 + l by omega]; exact this
        · simp at h2
      split at h
      · rename_i hg
        exact one E (fun _ => rfl) (.inl hg) h
      · rename_i j want hg
        split at h
        · simp at h
        rename_i d hd
        split at h
        · rename_i b0 hb0
          obtain ⟨b, hb⟩ : ∃ b : Bool, b = b0 := ⟨b0, rfl⟩
          subst hb
          obtain ⟨hc, hl⟩ := look_calmEnv hb0
          have hE1 : ∀ t, look ((d, bool b) :: E) t = look E t := fun t => by
            rw [look_cons]
            by_cases e : d = t
            · subst e; simp [hl]
            · simp [e]
          have yes : (match (b == want) with
              | true => oneD X k0 nt base ops (Mk ops) m o ((d, bool b) :: E) O recs (goD X k0 nt base ops (Mk ops) κ (List.range' (m + 1) l))
              | false => afterD nt ops (Mk ops) m o [] ((d, bool b) :: E) O recs (.c (.a .und)) [] (goD X k0 nt base ops (Mk ops) κ (List.range' (m + 1) l))) = some r := by
            cases b <;> cases want <;> exact h
          split at yes
          · rename_i hbw
            exact one _ hE1 (.inr ⟨j, want, d, hg, hd, b, hc, hl, by simpa using hbw⟩) yes
          · rename_i hbw
            obtain ⟨b1, b2, b3, b4, b5⟩ := afterD_some yes
            have hne : b ≠ want := by simpa using hbw
            have hp' := hp.next ho (E' := (d, bool b) :: E) hE1 hlt' b1 b2 b3 b4 (seen := []) (v := .c (.a .und)) ⟨.inr ⟨j, want, d, hg, hd, b, hc, hl, .inr ⟨hne, rfl, rfl⟩⟩, .inl ⟨⟨j, want, d, hg, hd, b, hl, hne⟩, rfl, rfl⟩⟩
            have := goD_some l (m + 1) _ _ _ _ _ _ hp' b5
            rw [show m + (l + 1) = m + 1 + l by omega]; exact this
        · simp at h
    · simp at h
end
end Go.Ab

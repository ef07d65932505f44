/- Configurations and the machine's frames; norming a configuration keeps the relation. -/
import Derived.Test.YtdhhdfgboalfiaaDoorA11
set_option linter.unusedVariables false
set_option linter.unusedSimpArgs false
namespace Go.Ab
open Go.RowKit

def EnvR (g : Gm) (E : Env) (tmps : Array Value) : Prop := ∀ t v, look E t = some v → t < tmps.size ∧ AVR g v (tmps.getD t undef)

theorem EnvR.mono {g g' : Gm} (h : Gm.Le g g') {E : Env} {tmps : Array Value} (he : EnvR g E tmps) : EnvR g' E tmps :=
  fun t v hl => ⟨(he t v hl).1, (he t v hl).2.mono h⟩

def KI.item : KI → Item
  | .code c => .code c
  | .exec c => .code c
  | .inBlock id => .inBlock id
  | .inLoop c => .inLoop c
  | .inScope c => .inScope c
  | .reg ops _ is => .inRegion ops is

def FrR (X : Ctx) (g : Gm) (af : AFr) (rf : Frame) : Prop :=
  ∃ (b : Frame) (tmps : Array Value) (fn : Func), rf = b.at ⟨tmps, []⟩ (af.todo.map KI.item) ∧ b.fn = af.fid ∧ b.kind = .normal ∧ X.P.funcs[af.fid]? = some fn ∧ tmps.size = af.nt ∧ EnvR g af.env tmps

/-- The numbers that the operations still to come may give are free. -/
def Nums (g : Gm) (hi : Nat) : List AFr → Prop
  | [] => True
  | f :: r =>
    match f.todo with
    | .reg ops base is :: _ => base8 ops base ≤ hi ∧ (∀ i ∈ is, i < ops.size ∧ ∀ j, j < 8 → ¬ g.dom (base + 8 * i + j)) ∧ is.Nodup ∧ Nums g base r
    | _ => Nums g hi r

theorem Nums.mono {g g' : Gm} {hi hi' : Nat} : ∀ {l : List AFr}, Nums g hi l → hi ≤ hi' → (∀ i, i < hi → g'.dom i → g.dom i) → Nums g' hi' l
  | [], _, _, _ => trivial
  | f :: r, h, hh, hd => by
    unfold Nums at h ⊢
    split at h
    · rename_i ops base is _
      obtain ⟨h1, h2, h3, h4⟩ := h
      refine ⟨Nat.le_trans h1 hh, fun i hi' => ⟨(h2 i hi').1, fun j hj hdj => (h2 i hi').2 j hj (hd _ ?_ hdj)⟩, h3, h4.mono (Nat.le_refl _) (fun i hi hdi => hd i ?_ hdi)⟩
      · have := (h2 i hi').1; unfold base8 at h1; omega
      · unfold base8 at h1; omega
    · exact Nums.mono h hh hd

structure CfgR (X : Ctx) (g : Gm) (w0 : World) (c : Cfg) (rf : Frame) (rcs : List Frame) (w : World) : Prop where
  rel : Rel X.G g w0 c.objs w
  B : g.B = w0.heap.size
  top : FrR X g c.fr rf
  cs : All2 (FrR X g) c.cs rcs
  nx : ∀ i, g.dom i → i < c.nx
  nums : Nums g c.nx (c.fr :: c.cs)

theorem FrR.mono {X : Ctx} {g g' : Gm} (h : Gm.Le g g') {af : AFr} {rf : Frame} (hf : FrR X g af rf) : FrR X g' af rf := by
  obtain ⟨b, tmps, fn, h1, h2, h3, h4, h5, h6⟩ := hf
  exact ⟨b, tmps, fn, h1, h2, h3, h4, h5, h6.mono h⟩

/-! ### Norming -/
theorem look_liveEnv {E : Env} : ∀ {l : List Nat} {t : Nat} {v : AV}, look (liveEnv E l) t = some v → look E t = some v
  | [], t, v, h => by simp [liveEnv, look] at h
  | u :: r, t, v, h => by
    unfold liveEnv at h
    split at h
    · rename_i v' hv
      rw [look_cons] at h
      by_cases e : u = t
      · subst e; simp at h; subst h; exact hv
      · simp [e] at h; exact look_liveEnv h
    · exact look_liveEnv h

theorem setEnv_cons (m : Nat) (x : AV) (r : Env) (n : Nat) (o : AV) : setEnv ((m, x) :: r) n o = if m = n then (m, o) :: r else (m, x) :: setEnv r n o := by
  by_cases h : m = n
  · subst h; simp [setEnv]
  · simp only [setEnv, beq_ne h, h, if_false]

theorem look_setEnv (E : Env) (n : Nat) (o : AV) (m : Nat) : look (setEnv E n o) m = if n = m then (look E n).map (fun _ => o) else look E m := by
  induction E with
  | nil => simp [setEnv, look]
  | cons p r ih =>
    obtain ⟨k, x⟩ := p
    rw [setEnv_cons]
    by_cases h : k = n
    · subst h; simp only [if_true, look_cons]; by_cases h' : k = m <;> simp [h']
    · simp only [h, if_false, look_cons, ih]
      by_cases h' : k = m
      · subst h'; have : ¬ n = k := fun e => h e.symm; simp [this]
      · simp [h']

section
variable {G : Nat → Option (List Cell)} {g : Gm} {w0 w : World} {O : Objs}

theorem EnvR.set {E : Env} {tmps : Array Value} (h : EnvR g E tmps) {t : Nat} {v0 v : AV} (hl : look E t = some v0) (hv : AVR g v (tmps.getD t undef)) : EnvR g (setEnv E t v) tmps := by
  intro u x hx
  rw [look_setEnv] at hx
  by_cases e : t = u
  · subst e
    simp [hl] at hx
    subst hx
    exact ⟨(h t v0 hl).1, hv⟩
  · simp [e] at hx; exact h u x hx

theorem promotes_sound {tmps : Array Value} : ∀ (l : List (Nat × Sh)) (E : Env) (O : Objs) (nx : Nat) (g : Gm), EnvR g E tmps → Rel G g w0 O w → (∀ i, g.dom i → i < nx) →
    ∃ g', Gm.Le g g' ∧ EnvR g' (promotes E O nx l).1 tmps ∧ Rel G g' w0 (promotes E O nx l).2.1 w ∧ (∀ i, g'.dom i → i < (promotes E O nx l).2.2) ∧ nx ≤ (promotes E O nx l).2.2 ∧ (∀ i, i < nx → g'.dom i → g.dom i)
  | [], E, O, nx, g, he, hr, hn => ⟨g, Gm.Le.refl g, he, hr, hn, Nat.le_refl _, fun _ _ h => h⟩
  | (t, s) :: r, E, O, nx, g, he, hr, hn => by
    unfold promotes
    split
    · rename_i hl hs
      have hid : ¬ g.dom nx := fun h => Nat.lt_irrefl _ (hn nx h)
      have le := Gm.ext_le (ρ := w.heap.size) (len := 0) (sz := s.size) (bs := 0) hid
      have hr' := hr.noBlock hid (.rows s []) 0 s.size ⟨blt_lt hs, by simp, by simp, .inl ⟨by simp, rfl⟩⟩
      have hv : tmps.getD t undef = .slice none 0 0 := (he t _ hl).2
      have he' : EnvR (g.ext nx w.heap.size 0 s.size 0) (setEnv E t (.c (.a (.slw nx)))) tmps :=
        (he.mono le).set hl (by rw [hv]; exact ⟨.inr rfl, none, 0, by simp, by simp, .inl rfl⟩)
      obtain ⟨g', h1, h2, h3, h4, h5, h6⟩ := promotes_sound r _ _ (nx + 1) _ he' hr' (fun i hi => by
        rcases hi with hi | rfl
        · have := hn i hi; omega
        · omega)
      refine ⟨g', le.trans h1, h2, h3, h4, by omega, fun i hi hd => ?_⟩
      rcases h6 i (by omega) hd with h | rfl
      · exact h
      · omega
    · exact promotes_sound r E O nx g he hr hn

/-- A slice's array is written no more. -/
theorem freeze_one (hB : g.B = w0.heap.size) (hr : Rel G g w0 O w) {id : Nat} {s : Sh} {xs : List (El s)} (hl : look O id = some (.rows s xs)) :
    ∃ g', Gm.Le g g' ∧ (∀ i, g'.dom i ↔ g.dom i) ∧ g'.B = g.B ∧ Rel G g' w0 (setAt (dropOld O) id .gone) w ∧ ∀ v, A0R g (.slw id) v → A0R g' (.v (.lst s) xs) v := by
  obtain ⟨h0, h1, h2, h3⟩ := hr.obj _ _ hl
  have lk : ∀ i x, look (setAt (dropOld O) id .gone) i = some x → x = .gone ∧ (∃ y, look O i = some y) ∨ (i ≠ id ∧ look O i = some x ∧ x.isOld = false) := fun i x hi => by
    rw [look_setAt] at hi
    by_cases e : id = i
    · subst e
      rw [look_dropOld, hl] at hi
      simp at hi
      exact .inl ⟨hi.symm, _, hl⟩
    · simp only [e, if_false, look_dropOld] at hi
      cases hy : look O i with
      | none => simp [hy] at hi
      | some y =>
        simp [hy] at hi
        rcases noOld_cases y x hi with ⟨rfl, ho⟩ | ⟨rfl, _⟩
        · exact .inr ⟨fun e' => e e'.symm, rfl, ho⟩
        · exact .inl ⟨rfl, y, rfl⟩
  have ex : ∀ o : AObj, (o.excl || o.isOld) = true → o.isOld = false → o.excl = true := fun o h1 h2 => by simpa [h2] using h1
  by_cases hb : 0 < g.bs id
  · obtain ⟨b1, b2, b3⟩ := hr.blk _ _ hl rfl hb
    obtain ⟨c, e, fr, hc, hth, hcs, hxf, hxr⟩ : ∃ c e fr, w.heap[g.ρ id]? = some (.cells c e fr) ∧ Thawed fr c.size ∧ c.size = g.bs id ∧ xs.length * s.size ≤ c.size ∧ RowsR g.fz s xs c 0 := by
      rcases h3 with ⟨hz, _⟩ | h
      · omega
      · exact h
    let g' : Gm := { g with fz := fun b => if b = g.ρ id then some (.cells c e fr) else g.fz b }
    have fzne : ∀ b, b ≠ g.ρ id → g'.fz b = g.fz b := fun b hb => by simp [g', hb]
    have le : Gm.Le g g' := ⟨fun _ h => h, fun _ _ => rfl, fun _ _ => rfl, fun _ _ => rfl, fun _ _ => rfl, fun b o hbo => by
        rw [fzne b (fun e => by rw [e, b3] at hbo; simp at hbo)]; exact hbo, ⟨rfl, fun b o hbo hlt => by
        rw [fzne b (fun e => by rw [hB] at hlt; omega)] at hbo; exact hbo⟩⟩
    refine ⟨g', le, fun i => Iff.rfl, rfl, ?_, ?_⟩
    · refine ⟨hr.below, fun b o hbo => ?_, ?_, ?_, ?_, ?_, ?_⟩
      · by_cases hbe : b = g.ρ id
        · subst hbe; simp [g'] at hbo; subst hbo; exact hc
        · rw [fzne b hbe] at hbo; exact hr.fz b o hbo
      · intro i x hi
        rcases lk i x hi with ⟨_, y, hy⟩ | ⟨_, hy, _⟩
        · exact hr.dom i y hy
        · exact hr.dom i x hy
      · intro i x hi hx hbb
        rcases lk i x hi with ⟨rfl, _⟩ | ⟨hne, hy, ho⟩
        · simp [AObj.excl, AObj.isOld] at hx
        · obtain ⟨q1, q2, q3⟩ := hr.blk i x hy hx hbb
          refine ⟨q1, q2, ?_⟩
          rw [fzne _ (fun e => (hr.sep i x id _ hne hy hl).both (ex x hx ho) rfl hbb hb e)]
          exact q3
      · intro i x hi
        rcases lk i x hi with ⟨rfl, _⟩ | ⟨hne, hy, ho⟩
        · trivial
        · exact (hr.obj i x hy).keep le (hr.dom i x hy) (fun y hy _ _ => hy)
      · intro i oi j oj hij hi hj
        rcases lk i oi hi with ⟨rfl, _⟩ | ⟨_, hy, ho⟩
        · exact ⟨fun e => by simp [AObj.excl] at e, fun e => by simp [AObj.excl] at e⟩
        · rcases lk j oj hj with ⟨rfl, _⟩ | ⟨_, hz, ho'⟩
          · exact ⟨fun _ e => by simp [AObj.excl] at e, fun _ e => by simp [AObj.isOld] at e⟩
          · exact (hr.sep i oi j oj hij hy hz).keep le (hr.dom i oi hy) (hr.dom j oj hz)
      · intro n cs hn
        obtain ⟨c', e', fr', q1, q2⟩ := hr.glob n cs hn
        exact ⟨c', e', fr', le.fz _ _ q1, q2.mono fun _ _ => CellR.mono le⟩
    · rintro v ⟨hd, a, cap, rfl, hcap, hrow⟩
      refine ⟨⟨a, cap, by rw [h2], by rw [← h2]; exact hcap, ?_⟩, rfl⟩
      rcases hrow with rfl | ⟨rfl, _⟩
      · left
        have : xs.length = 0 := by omega
        exact List.eq_nil_of_length_eq_zero this
      · right
        refine ⟨h0, g.ρ id, 0, c, e, fr, rfl, by simp [g'], fun i hi => ?_⟩
        obtain ⟨row, r1, r2, r3⟩ := hxr i hi
        exact ⟨row, r1, r2, K.mono le.fz _ _ _ r3⟩
  · have hx0 : xs = [] := by
      rcases h3 with ⟨_, h⟩ | ⟨c, e, fr, hc, hth, hcs, hxf, hxr⟩
      · exact h
      · have : xs.length * s.size = 0 := by omega
        rcases Nat.mul_eq_zero.1 this with q | q
        · exact List.eq_nil_of_length_eq_zero q
        · omega
    refine ⟨g, Gm.Le.refl g, fun _ => Iff.rfl, rfl, ?_, ?_⟩
    · refine ⟨hr.below, hr.fz, ?_, ?_, ?_, ?_, hr.glob⟩
      · intro i x hi
        rcases lk i x hi with ⟨_, y, hy⟩ | ⟨_, hy, _⟩
        · exact hr.dom i y hy
        · exact hr.dom i x hy
      · intro i x hi hx hbb
        rcases lk i x hi with ⟨rfl, _⟩ | ⟨hne, hy, ho⟩
        · simp [AObj.excl, AObj.isOld] at hx
        · exact hr.blk i x hy hx hbb
      · intro i x hi
        rcases lk i x hi with ⟨rfl, _⟩ | ⟨hne, hy, ho⟩
        · trivial
        · exact hr.obj i x hy
      · intro i oi j oj hij hi hj
        rcases lk i oi hi with ⟨rfl, _⟩ | ⟨_, hy, ho⟩
        · exact ⟨fun e => by simp [AObj.excl] at e, fun e => by simp [AObj.excl] at e⟩
        · rcases lk j oj hj with ⟨rfl, _⟩ | ⟨_, hz, ho'⟩
          · exact ⟨fun _ e => by simp [AObj.excl] at e, fun _ e => by simp [AObj.isOld] at e⟩
          · exact hr.sep i oi j oj hij hy hz
    · rintro v ⟨hd, a, cap, rfl, hcap, hrow⟩
      exact ⟨⟨a, cap, by rw [h2], by rw [← h2]; exact hcap, .inl hx0⟩, rfl⟩

theorem freezes_sound {tmps : Array Value} : ∀ (l : List (Nat × Sh)) (E : Env) (O : Objs) (g : Gm), g.B = w0.heap.size → EnvR g E tmps → Rel G g w0 O w →
    ∃ g', Gm.Le g g' ∧ (∀ i, g'.dom i ↔ g.dom i) ∧ g'.B = g.B ∧ EnvR g' (freezes E O l).1 tmps ∧ Rel G g' w0 (freezes E O l).2 w
  | [], E, O, g, hB, he, hr => ⟨g, Gm.Le.refl g, fun _ => Iff.rfl, rfl, he, hr⟩
  | (t, s) :: r, E, O, g, hB, he, hr => by
    unfold freezes
    split
    · rename_i hl
      have hv : tmps.getD t undef = .slice none 0 0 := (he t _ hl).2
      exact freezes_sound r _ O g hB (he.set hl (by rw [hv]; exact ⟨⟨none, 0, rfl, Nat.le_refl _, .inl rfl⟩, rfl⟩)) hr
    · rename_i id hl
      split
      · rename_i s' xs ho
        obtain ⟨g1, q1, q2, q3, q4, q5⟩ := freeze_one hB hr ho
        obtain ⟨g', h1, h2, h3, h4, h5⟩ := freezes_sound r (setEnv E t (.c (.a (.v (.lst s') xs)))) _ g1 (by rw [q3]; exact hB) ((he.mono q1).set hl (q5 _ (he t _ hl).2)) q4
        exact ⟨g', q1.trans h1, fun i => (h2 i).trans (q2 i), h3.trans q3, h4, h5⟩
      · exact freezes_sound r E O g hB he hr
    · exact freezes_sound r E O g hB he hr

/-! ### Numbers given anew -/
theorem hasNat_mem {l : List Nat} {n : Nat} : hasNat l n = false → n ∉ l := by
  induction l with
  | nil => simp
  | cons m r ih =>
    intro h
    unfold hasNat at h
    split at h
    · simp at h
    · rename_i hb
      have hne : m ≠ n := fun e => by subst e; rw [beq_same] at hb; simp at hb
      simp only [List.mem_cons, not_or]
      exact ⟨fun e => hne e.symm, ih h⟩

theorem reach_nodup (O : Objs) : ∀ (d : Nat) (todo seen : List Nat), seen.Nodup → (reach O d todo seen).Nodup
  | 0, _, _, h => h
  | _ + 1, [], _, h => h
  | d + 1, n :: todo, seen, h => by
    unfold reach
    split
    · rename_i o hh _
      exact reach_nodup O d _ _ (List.nodup_append.2 ⟨h, by simp, fun a ha b hb => by simp at hb; subst hb; exact fun e => hasNat_mem hh (e ▸ ha)⟩)
    · exact reach_nodup O d _ _ h

theorem place_spec {l : List Nat} {n i : Nat} (h : place l n = some i) : l[i]? = some n := by
  induction l generalizing i with
  | nil => simp [place] at h
  | cons m r ih =>
    unfold place at h
    split at h
    · rename_i hb
      obtain rfl := Option.some.inj h
      simp [Nat.eq_of_beq_eq_true hb]
    · split at h
      · rename_i j hj
        obtain rfl := Option.some.inj h
        simpa using ih hj
      · simp at h

/-- The relation under new numbers. -/
def Gm.renum (g : Gm) (l : List Nat) (off : Nat) : Gm :=
  { dom := fun i => off ≤ i ∧ ∃ n, l[i - off]? = some n ∧ g.dom n, ρ := fun i => g.ρ (l.getD (i - off) 0), len := fun i => g.len (l.getD (i - off) 0),
    sz := fun i => g.sz (l.getD (i - off) 0), bs := fun i => g.bs (l.getD (i - off) 0), fz := g.fz, B := g.B }

section
variable {l : List Nat} {off : Nat} {f : Nat → Option Nat}
def IsRenum (l : List Nat) (off : Nat) (f : Nat → Option Nat) : Prop := ∀ n i, f n = some i → off ≤ i ∧ l[i - off]? = some n

theorem renum_get (hf : IsRenum l off f) {n i : Nat} (h : f n = some i) : l.getD (i - off) 0 = n := by
  simp [List.getD, (hf n i h).2]

theorem PBR.ren (hf : IsRenum l off f) {b b' : PB} {blk o : Nat} (h : b.ren f = some b') (hb : PBR g b blk o) : PBR (g.renum l off) b' blk o := by
  cases b with
  | box id =>
    simp only [PB.ren] at h
    split at h
    · rename_i j hj
      obtain rfl := Option.some.inj h
      obtain ⟨hd, hb, ho⟩ := hb
      exact ⟨⟨(hf _ _ hj).1, _, (hf _ _ hj).2, hd⟩, by simp only [Gm.renum, renum_get hf hj]; exact hb, ho⟩
    · simp at h
  | row id i =>
    simp only [PB.ren] at h
    split at h
    · rename_i j hj
      obtain rfl := Option.some.inj h
      obtain ⟨hd, hb, ho⟩ := hb
      exact ⟨⟨(hf _ _ hj).1, _, (hf _ _ hj).2, hd⟩, by simp only [Gm.renum, renum_get hf hj]; exact hb, by simp only [Gm.renum, renum_get hf hj]; exact ho⟩
    · simp at h
  | lrow s xs i => simp only [PB.ren] at h; obtain rfl := Option.some.inj h; exact hb
  | glob n => simp only [PB.ren] at h; obtain rfl := Option.some.inj h; exact hb

theorem A0R.ren (hf : IsRenum l off f) {x : A0} {v : Value} (h : A0R g x v) : A0R (g.renum l off) (x.ren f) v := by
  cases x with
  | v s x => exact h
  | und => trivial
  | nilsl => exact h
  | slw id =>
    simp only [A0.ren]
    split
    · rename_i j hj
      obtain ⟨hd, a, cap, h1, h2, h3⟩ := h
      refine ⟨⟨(hf _ _ hj).1, _, (hf _ _ hj).2, hd⟩, a, cap, ?_⟩
      simp only [Gm.renum, renum_get hf hj]
      exact ⟨h1, h2, h3⟩
    · trivial
  | sl id lo n =>
    simp only [A0.ren]
    split
    · rename_i j hj
      obtain ⟨hd, a, cap, h1, h2, h3, h4⟩ := h
      refine ⟨⟨(hf _ _ hj).1, _, (hf _ _ hj).2, hd⟩, a, cap, ?_⟩
      simp only [Gm.renum, renum_get hf hj]
      exact ⟨h1, h2, h3, h4⟩
    · trivial
  | ptr b o =>
    simp only [A0.ren]
    split
    · rename_i b' hb
      obtain ⟨blk, o', h1, h2⟩ := h
      exact ⟨blk, o', PBR.ren hf hb h1, h2⟩
    · trivial
  | iptr b o n sz i o2 =>
    simp only [A0.ren]
    split
    · rename_i b' hb
      obtain ⟨blk, o', h1, h2⟩ := h
      exact ⟨blk, o', PBR.ren hf hb h1, h2⟩
    · trivial
  | nilptr => exact h
  | map id =>
    simp only [A0.ren]
    split
    · rename_i j hj
      obtain ⟨hd, h1⟩ := h
      exact ⟨⟨(hf _ _ hj).1, _, (hf _ _ hj).2, hd⟩, by simp only [Gm.renum, renum_get hf hj]; exact h1⟩
    · trivial
  | nilmap => exact h
  | nilfn => exact h
  | nilif => exact h

theorem All2.map_left {α β γ : Type} {R : α → β → Prop} {S : γ → β → Prop} {h : α → γ} (hh : ∀ a b, R a b → S (h a) b) : ∀ {l : List α} {m : List β}, All2 R l m → All2 S (l.map h) m
  | [], [], _ => trivial
  | _ :: _, _ :: _, ⟨h1, h2⟩ => ⟨hh _ _ h1, All2.map_left hh h2⟩
  | [], _ :: _, h => h.elim
  | _ :: _, [], h => h.elim

theorem CellR.ren (hf : IsRenum l off f) {x : Cell} {v : Value} (h : CellR g x v) : CellR (g.renum l off) (x.ren f) v := by
  cases x with
  | a x => exact A0R.ren hf h
  | fn fid caps =>
    obtain ⟨vs, e, ha⟩ := h
    exact ⟨vs, e, ha.map_left (h := A0.ren f) fun _ _ => A0R.ren hf⟩

theorem AVR.ren (hf : IsRenum l off f) {x : AV} {v : Value} (h : AVR g x v) : AVR (g.renum l off) (x.ren f) v := by
  cases x with
  | c x => exact CellR.ren hf h
  | agg cs =>
    obtain ⟨vs, e, ha⟩ := h
    exact ⟨vs, e, ha.map_left (h := Cell.ren f) fun _ _ => CellR.ren hf⟩
  | tup l =>
    obtain ⟨vs, e, ha⟩ := h
    refine ⟨vs, e, ha.map_left fun p u hp => ?_⟩
    obtain ⟨b, cs⟩ := p
    cases b
    · obtain ⟨c, e, hc⟩ := hp
      simp only at e; subst e
      exact ⟨c.ren f, by simp, CellR.ren hf hc⟩
    · obtain ⟨us, e, hc⟩ := hp
      exact ⟨us, e, hc.map_left (h := Cell.ren f) fun _ _ => CellR.ren hf⟩

theorem look_renEnv (E : Env) (t : Nat) : look (Env.ren f E) t = (look E t).map (AV.ren f) := by
  unfold Env.ren
  induction E with
  | nil => simp [look]
  | cons p r ih =>
    obtain ⟨k, x⟩ := p
    simp only [List.map_cons, look_cons]
    by_cases h : k = t <;> simp [h, ih]

theorem EnvR.ren (hf : IsRenum l off f) {E : Env} {tmps : Array Value} (h : EnvR g E tmps) : EnvR (g.renum l off) (Env.ren f E) tmps := by
  intro t v hl
  rw [look_renEnv, Option.map_eq_some_iff] at hl
  obtain ⟨v', hv', rfl⟩ := hl
  exact ⟨(h t v' hv').1, AVR.ren hf (h t v' hv').2⟩

theorem look_renObjs : ∀ (l : List Nat) (k i : Nat) (x : AObj), look (renObjs O f k l) i = some x → k ≤ i ∧ ∃ n o, l[i - k]? = some n ∧ look O n = some o ∧ x = o.ren f
  | [], k, i, x, h => by simp [renObjs, look] at h
  | n :: r, k, i, x, h => by
    unfold renObjs at h
    split at h
    · rename_i o ho
      rw [look_cons] at h
      by_cases e : k = i
      · subst e; simp at h; exact ⟨Nat.le_refl _, n, o, by simp, ho, h.symm⟩
      · simp [e] at h
        obtain ⟨h1, m, o', h2, h3, h4⟩ := look_renObjs r (k + 1) i x h
        refine ⟨by omega, m, o', ?_, h3, h4⟩
        rw [show i - k = (i - (k + 1)) + 1 by omega]; simpa using h2
    · obtain ⟨h1, m, o', h2, h3, h4⟩ := look_renObjs r (k + 1) i x h
      refine ⟨by omega, m, o', ?_, h3, h4⟩
      rw [show i - k = (i - (k + 1)) + 1 by omega]; simpa using h2

theorem ren_excl (o : AObj) : (o.ren f).excl = o.excl := by cases o <;> rfl
theorem ren_isOld (o : AObj) : (o.ren f).isOld = o.isOld := by cases o <;> rfl
theorem ren_isRows (o : AObj) : (o.ren f).isRows = o.isRows := by cases o <;> rfl

theorem Rel.renum (hf : IsRenum l off f) (hn : l.Nodup) (hr : Rel G g w0 O w) (hG : ∀ n cs, G n = some cs → ∀ c ∈ cs, c.ren f = c) : Rel G (g.renum l off) w0 (renObjs O f off l) w := by
  refine ⟨hr.below, hr.fz, ?_, ?_, ?_, ?_, ?_⟩
  · intro i x hi
    obtain ⟨h1, n, o, h2, h3, rfl⟩ := look_renObjs l off i x hi
    exact ⟨h1, n, h2, hr.dom n o h3⟩
  · intro i x hi hx hb
    obtain ⟨h1, n, o, h2, h3, rfl⟩ := look_renObjs l off i x hi
    have hg : l.getD (i - off) 0 = n := by simp [List.getD, h2]
    simp only [Gm.renum, hg] at hb ⊢
    rw [ren_excl, ren_isOld] at hx
    exact hr.blk n o h3 hx hb
  · intro i x hi
    obtain ⟨h1, n, o, h2, h3, rfl⟩ := look_renObjs l off i x hi
    have hg : l.getD (i - off) 0 = n := by simp [List.getD, h2]
    have ho := hr.obj n o h3
    cases o with
    | box cells =>
      obtain ⟨q1, c, e, q2, q3⟩ := ho
      refine ⟨by simp only [Gm.renum, hg]; simpa using q1, c, e, by simp only [Gm.renum, hg]; exact q2, q3.map_left (h := Cell.ren f) fun _ _ => CellR.ren hf⟩
    | rows s xs => simp only [AObj.ren, ObjR, Gm.renum, hg]; exact ho
    | old s xs => simp only [AObj.ren, ObjR, Gm.renum, hg]; exact ho
    | map k v es => simp only [AObj.ren, ObjR, Gm.renum, hg]; exact ho
    | gone => trivial
  · intro i oi j oj hij hi hj
    obtain ⟨h1, n, o, h2, h3, rfl⟩ := look_renObjs l off i oi hi
    obtain ⟨k1, m, o', k2, k3, rfl⟩ := look_renObjs l off j oj hj
    have hg : l.getD (i - off) 0 = n := by simp [List.getD, h2]
    have hg' : l.getD (j - off) 0 = m := by simp [List.getD, k2]
    have hnm : n ≠ m := fun e => by
      subst e
      have e1 := (List.getElem?_eq_some_iff.1 h2).1
      have := (List.getElem?_inj e1 hn).1 (h2.trans k2.symm)
      omega
    have sp := hr.sep n o m o' hnm h3 k3
    constructor
    · simp only [Gm.renum, hg, hg', ren_excl]; exact sp.both
    · simp only [Gm.renum, hg, hg', ren_excl, ren_isOld, ren_isRows]; exact sp.old
  · intro n cs hcs
    obtain ⟨c, e, fr, q1, q2⟩ := hr.glob n cs hcs
    refine ⟨c, e, fr, q1, ?_⟩
    have := q2.map_left (S := CellR (g.renum l off)) (h := Cell.ren f) fun _ _ => CellR.ren hf
    have hm : cs.map (Cell.ren f) = cs := (List.map_congr_left fun c hc => hG n cs hcs c hc).trans (List.map_id _)
    rwa [hm] at this
end

theorem liveEnv_R {E : Env} {tmps : Array Value} (h : EnvR g E tmps) (l : List Nat) : EnvR g (liveEnv E l) tmps := fun t v hl => h t v (look_liveEnv hl)

/-- What a translation's package variables hold is plain data. -/
def PlainG (G : Nat → Option (List Cell)) : Prop := ∀ n cs, G n = some cs → ∀ c ∈ cs, ∀ f, Cell.ren f c = c

theorem FrR.env {X : Ctx} {g g' : Gm} {af : AFr} {rf : Frame} {E' : Env} (h : FrR X g af rf) (he : ∀ tmps, EnvR g af.env tmps → EnvR g' E' tmps) : FrR X g' { af with env := E' } rf := by
  obtain ⟨b, tmps, fn, h1, h2, h3, h4, h5, h6⟩ := h
  exact ⟨b, tmps, fn, h1, h2, h3, h4, h5, he _ h6⟩

theorem Nums.env {g : Gm} {hi : Nat} {f : AFr} {r : List AFr} {E : Env} (h : Nums g hi (f :: r)) : Nums g hi ({ f with env := E } :: r) := h

theorem Nums.floor {g : Gm} {hi : Nat} {r : List AFr} (h : Nums g hi r) (hr : ∀ f ∈ r, ∃ ops base is k, f.todo = .reg ops base is :: k) : floorOf r ≤ hi ∧ ∀ (g' : Gm) (φ : AFr → AFr), (∀ f, (φ f).todo = f.todo) → (∀ i, i < floorOf r → ¬ g'.dom i) → ∀ hi', floorOf r ≤ hi' → Nums g' hi' (r.map φ) := by
  cases r with
  | nil => exact ⟨Nat.zero_le _, fun _ _ _ _ _ _ => trivial⟩
  | cons f r =>
    obtain ⟨ops, base, is, k, hf⟩ := hr f (by simp)
    have hn := h
    unfold Nums at hn
    rw [hf] at hn
    obtain ⟨h1, h2, h3, h4⟩ := hn
    have hfl : floorOf (f :: r) = base8 ops base := by simp [floorOf, hf, base8]
    rw [hfl]
    refine ⟨h1, fun g' φ hφ hd hi' hh => ?_⟩
    have key : ∀ (l : List AFr) (b : Nat), b ≤ base → Nums g b l → Nums g' b (l.map φ) := by
      intro l
      induction l with
      | nil => intro b _ _; trivial
      | cons f l ih =>
        intro b hb hn
        simp only [List.map_cons]
        unfold Nums at hn ⊢
        rw [hφ]
        split at hn
        · rename_i ops' base' is' k' _
          obtain ⟨q1, q2, q3, q4⟩ := hn
          refine ⟨q1, fun i hi => ⟨(q2 i hi).1, fun j hj => hd _ ?_⟩, q3, ih base' ?_ q4⟩
          · have := (q2 i hi).1; unfold base8 at q1; unfold base8; omega
          · unfold base8 at q1; omega
        · exact ih b hb hn
    simp only [List.map_cons]
    unfold Nums
    rw [hφ, hf]
    exact ⟨hh, fun i hi => ⟨(h2 i hi).1, fun j hj => hd _ (by have := (h2 i hi).1; unfold base8; omega)⟩, h3, key r base (Nat.le_refl _) h4⟩

theorem norm_sound {X : Ctx} (hG : PlainG X.G) {g : Gm} {w0 w : World} {c : Cfg} {rf : Frame} {rcs : List Frame} (h : CfgR X g w0 c rf rcs w) (an : Ann) (htop : ∀ ops base is k, c.fr.todo ≠ .reg ops base is :: k) (hcs : ∀ f ∈ c.cs, ∃ ops base is k, f.todo = .reg ops base is :: k) :
    ∃ g', CfgR X g' w0 (norm an c) rf rcs w ∧ Gm.Low g g' := by
  obtain ⟨b, tmps, fn, t1, t2, t3, t4, t5, t6⟩ := h.top
  obtain ⟨g1, p1, p2, p3, p4, p5, p6⟩ := promotes_sound (w0 := w0) (w := w) (G := X.G) an.promote (liveEnv c.fr.env an.live) c.objs c.nx g (liveEnv_R t6 _) h.rel h.nx
  obtain ⟨g2, q1, q2, q3, q4, q5⟩ := freezes_sound an.freeze (promotes (liveEnv c.fr.env an.live) c.objs c.nx an.promote).1 _ g1 (by rw [p1.low.B]; exact h.B) p2 p3
  unfold norm
  generalize promotes (liveEnv c.fr.env an.live) c.objs c.nx an.promote = pr at *
  obtain ⟨E1, O1, n1⟩ := pr
  unfold normPro
  simp only at *
  generalize freezes E1 O1 an.freeze = fz at *
  obtain ⟨E2, O2⟩ := fz
  unfold normMid
  simp only at *
  generalize hl : reach O2 1000 (envIds E2 ++ c.cs.flatMap fun f => envIds f.env) [] = l
  have hnd : l.Nodup := by rw [← hl]; exact reach_nodup _ _ _ _ (by simp)
  generalize hoff : floorOf c.cs = off
  have hf : IsRenum l off (renF l off) := by
    intro n i hi
    unfold renF at hi
    split at hi
    · rename_i j hj
      obtain rfl := Option.some.inj hi
      exact ⟨by omega, by rw [show off + j - off = j by omega]; exact place_spec hj⟩
    · simp at hi
  unfold normFin
  generalize renF l off = f at hf ⊢
  have le : Gm.Le g g2 := p1.trans q1
  have hnums : Nums g c.nx c.cs := by
    have := h.nums
    unfold Nums at this
    split at this
    · rename_i ops base is k heq; exact absurd heq (htop _ _ _ _)
    · exact this
  obtain ⟨_, hfl⟩ := hnums.floor hcs
  refine ⟨g2.renum l off, ⟨q5.renum hf hnd (fun n cs hn cc hc => hG n cs hn cc hc _), by show g2.B = _; rw [q3, p1.low.B]; exact h.B, ?_, ?_, ?_, ?_⟩, ?_⟩
  · exact ⟨b, tmps, fn, t1, t2, t3, t4, t5, q4.ren hf⟩
  · refine h.cs.map_left (h := fun fr => { fr with env := Env.ren f fr.env }) fun af rf' hfr => ?_
    exact FrR.env hfr fun tmps he => (he.mono le).ren hf
  · rintro i ⟨h1, n, h2, _⟩
    have := (List.getElem?_eq_some_iff.1 h2).1
    simp only
    omega
  · have : Nums (g2.renum l off) (off + l.length) (c.cs.map fun fr => { fr with env := Env.ren f fr.env }) :=
      hfl (g2.renum l off) (fun fr => { fr with env := Env.ren f fr.env }) (fun _ => rfl) (fun i hi hd => by rw [hoff] at hi; have := hd.1; omega) (off + l.length) (by rw [hoff]; omega)
    unfold Nums
    split
    · rename_i ops base is k heq; exact absurd heq (htop _ _ _ _)
    · exact this
  · have := le.low
    exact ⟨this.B, this.low⟩
end
end Go.Ab

/- Regions whose order is not told: the machine takes any, and comes to what was worked out. -/
import Derived.Test.YtdhhdfgboalfiaaDoorD8
import Derived.Orders
set_option linter.unusedVariables false
set_option linter.unusedSimpArgs false
namespace Go.Ab

theorem Rel.look {G : Nat → Option (List Cell)} {g : Gm} {w0 w : World} {O O' : Objs} (h : Rel G g w0 O w) (hO : ∀ n, look O' n = Ab.look O n) : Rel G g w0 O' w :=
  ⟨h.below, h.fz, fun i o hl => h.dom i o (by rw [← hO]; exact hl), fun i o hl => h.blk i o (by rw [← hO]; exact hl), fun i o hl => h.obj i o (by rw [← hO]; exact hl),
    fun i oi j oj hne h1 h2 => h.sep i oi j oj hne (by rw [← hO]; exact h1) (by rw [← hO]; exact h2), h.glob⟩

section
variable {R : Type} {X : Ctx} {fin : AV → Objs → Option R} {r : R}

theorem Nums.head {g : Gm} {hi : Nat} {f f' : AFr} {l : List AFr} (h : f'.todo = f.todo) : Nums g hi (f :: l) → Nums g hi (f' :: l) := by
  intro hn
  unfold Nums at hn ⊢
  rw [h]; exact hn

theorem Good.look {c d : Cfg} (h : Good X fin d r) (hf : c.fr.fid = d.fr.fid) (hn : c.fr.nt = d.fr.nt) (ht : c.fr.todo = d.fr.todo) (hcs : c.cs = d.cs) (hnx : c.nx = d.nx)
    (hE : ∀ t, Ab.look c.fr.env t = Ab.look d.fr.env t) (hO : ∀ n, Ab.look c.objs n = Ab.look d.objs n) : Good X fin c r := by
  intro g w0 rf rcs w cs0 hc hr htop
  have hc' : CfgR X g w0 d rf rcs w := by
    obtain ⟨b, tmps, fn, h1, h2, h3, h4, h5, h6⟩ := hc.top
    refine ⟨hc.rel.look fun n => (hO n).symm, hc.B, ⟨b, tmps, fn, by rw [h1, ht], by rw [h2, hf], h3, by rw [← hf]; exact h4, by rw [h5, hn], fun t v hl => h6 t v (by rw [hE]; exact hl)⟩, by rw [← hcs]; exact hc.cs, by rw [← hnx]; exact hc.nx, ?_⟩
    rw [← hcs, ← hnx]
    exact Nums.head ht.symm hc.nums
  obtain ⟨rf2, w2, g2, v2, val2, O2, s2, q2, q3, q4⟩ := h g w0 rf rcs w cs0 hc' (by rw [← hcs]; exact hr) (by rw [← ht]; exact htop)
  refine ⟨rf2, w2, g2, v2, val2, O2, s2, q2, q3.trans ?_, q4⟩
  unfold bottom; rw [hcs, hf]
end

/-! ### Orders -/
section
variable {ops : Array Oper}

theorem maskOf_edge (acc : List Nat) {e : Edge} (hb : Region.binds .any e = true) : ∀ (es : List Edge) (s : Nat), (e ∈ es ∨ s.testBit e.on = true) →
    (es.foldl (fun s e => match Region.binds .any e with | true => s ||| (2 ^ e.on ||| acc.getD e.on 0) | false => s) s).testBit e.on = true
  | [], s, h => by
    rcases h with h | h
    · simp at h
    · exact h
  | e' :: es, s, h => by
    simp only [List.foldl_cons]
    refine maskOf_edge acc hb es _ ?_
    rcases h with h | h
    · rcases List.mem_cons.1 h with rfl | h
      · right
        rw [hb]; simp [Nat.testBit_or, Nat.testBit_two_pow]
      · exact .inl h
    · right
      split
      · simp [Nat.testBit_or, h]
      · exact h

def MaskEdge (ops : Array Oper) (acc : List Nat) : Prop := ∀ j, j < acc.length → ∀ o, ops[j]? = some o → ∀ e ∈ o.after, Region.binds .any e = true → (acc.getD j 0).testBit e.on = true

theorem masksGo_edge : ∀ (l dn : List Oper) (acc : List Nat), ops.toList = dn ++ l → acc.length = dn.length → MaskEdge ops acc → MaskEdge ops (masksGo l acc)
  | [], dn, acc, h, hl, ha => ha
  | o :: l, dn, acc, h, hl, ha => by
    refine masksGo_edge l (dn ++ [o]) (acc ++ [maskOf acc o.after.toList]) (by simp [h]) (by simp [hl]) fun j hj o' ho' e he hb => ?_
    rcases Nat.lt_or_ge j acc.length with hlt | hge
    · have : (acc ++ [maskOf acc o.after.toList]).getD j 0 = acc.getD j 0 := by simp [List.getD_eq_getElem?_getD, List.getElem?_append_left hlt]
      rw [this]; exact ha j hlt o' ho' e he hb
    · have hjl : j = acc.length := by simp at hj; omega
      subst hjl
      have e0 : (acc ++ [maskOf acc o.after.toList]).getD acc.length 0 = maskOf acc o.after.toList := by simp [List.getD_eq_getElem?_getD]
      rw [e0]
      have ho : ops[acc.length]? = some o := by
        rw [← Array.getElem?_toList, h, hl]; simp
      rw [ho] at ho'; obtain rfl := Option.some.inj ho'
      exact maskOf_edge acc hb _ 0 (.inl (by simpa using he))

theorem Mk_edge : MaskEdge ops (Mk ops) := masksGo_edge _ [] [] (by simp) rfl (fun j hj => by simp at hj)

def lset (listed : Array Bool) (q : Nat) : Bool := listed.getD q false

theorem lset_true {listed : Array Bool} {q : Nat} (h : q < listed.size) : listed.getD q true = lset listed q := by
  unfold lset; simp [h]

def unl (ops : Array Oper) (listed : Array Bool) : Nat := ((List.range ops.size).filter fun q => !listed.getD q true).length

theorem filter_lt {α : Type} {p q : α → Bool} : ∀ {l : List α}, (∀ x ∈ l, p x = true → q x = true) → (∃ x ∈ l, q x = true ∧ p x = false) → (l.filter p).length < (l.filter q).length
  | [], _, ⟨x, h, _⟩ => by simp at h
  | a :: l, h1, ⟨x, h2, h3, h4⟩ => by
    have le : ∀ {l : List α}, (∀ x ∈ l, p x = true → q x = true) → (l.filter p).length ≤ (l.filter q).length := by
      intro l
      induction l with
      | nil => intro _; simp
      | cons b l ih =>
        intro h
        have ih := ih fun x hx => h x (List.mem_cons_of_mem _ hx)
        have hb := h b (by simp)
        simp only [List.filter_cons]
        cases hp : p b <;> cases hq : q b <;> simp [hp, hq] at hb ⊢ <;> omega
    simp only [List.filter_cons]
    rcases List.mem_cons.1 h2 with rfl | h2
    · have := le fun x hx => h1 x (List.mem_cons_of_mem _ hx)
      simp [h3, h4]; omega
    · have ih := filter_lt (fun x hx => h1 x (List.mem_cons_of_mem _ hx)) ⟨x, h2, h3, h4⟩
      have hb := h1 a (by simp)
      cases hp : p a <;> cases hq : q a <;> simp [hp, hq] at hb ⊢ <;> omega

theorem unl_set {listed : Array Bool} {i : Nat} (hs : listed.size = ops.size) (hi : i < ops.size) (h : listed.getD i true = false) : unl ops (listed.setIfInBounds i true) < unl ops listed := by
  refine filter_lt (fun q hq hp => ?_) ⟨i, by simpa using hi, by simp only [h]; rfl, by simp [hs, hi]⟩
  by_cases e : i = q
  · subst e; simp [hs, hi] at hp
  · rw [getD_set_ne true e] at hp; exact hp

/-- When none may come up, all have come up. -/
theorem all_listed {listed : Array Bool} (hs : listed.size = ops.size) (hlt : ∀ q, q < ops.size → (Mk ops).getD q 0 < 2 ^ q) (hr : Region.ready .any ops listed = []) : ∀ q, q < ops.size → lset listed q = true := by
  intro q
  induction q using Nat.strongRecOn with
  | ind q ih =>
    intro hq
    cases h : lset listed q with
    | true => rfl
    | false =>
      exfalso
      have : q ∈ Region.ready .any ops listed := by
        rw [mem_ready]
        refine ⟨by rw [lset_true (by omega)]; exact h, ops[q], by simp [hq], fun e he hb => ?_⟩
        have hbit := Mk_edge q (by rw [Mk_ok.2]; exact hq) ops[q] (by simp [hq]) e he hb
        have : e.on < q := by
          rcases Nat.lt_or_ge e.on q with h' | h'
          · exact h'
          · rw [Nat.testBit_lt_two_pow (Nat.lt_of_lt_of_le (hlt q hq) (Nat.pow_le_pow_right (by omega) h'))] at hbit
            simp at hbit
        exact ih e.on this (by omega)
      rw [hr] at this; simp at this

theorem go_eq {fuel t : Nat} {listed : Array Bool} : (Region.ready .any ops listed = [] ∧ Region.linearise.go .any ops (fuel + 1) t listed [] = []) ∨
    ∃ i t', i ∈ Region.ready .any ops listed ∧ Region.linearise.go .any ops (fuel + 1) t listed [] = i :: Region.linearise.go .any ops fuel t' (listed.setIfInBounds i true) [] := by
  simp only [Region.linearise.go]
  cases hi : (Region.ready .any ops listed)[t % (Region.ready .any ops listed).length]? with
  | none =>
    left
    have hnil : Region.ready .any ops listed = [] := by
      cases hr : Region.ready .any ops listed with
      | nil => rfl
      | cons x xs =>
        rw [hr] at hi
        have hlt : t % (x :: xs).length < (x :: xs).length := Nat.mod_lt _ (by simp)
        simp at hi
        simp at hlt
        omega
    refine ⟨hnil, ?_⟩
    have hi' := hi
    unfold Region.ready at hi'
    rw [hi']; rfl
  | some i =>
    right
    refine ⟨i, t / (Region.ready .any ops listed).length, List.mem_of_getElem? hi, ?_⟩
    have hi' := hi
    unfold Region.ready at hi'
    rw [hi']
    simp only []
    rw [linearise_go_acc, List.reverse_singleton, List.singleton_append]
    rfl

theorem go_mem : ∀ (fuel t : Nat) (listed : Array Bool), listed.size = ops.size → (∀ i ∈ Region.linearise.go .any ops fuel t listed [], listed.getD i true = false) ∧ (Region.linearise.go .any ops fuel t listed []).Nodup
  | 0, t, listed, _ => by simp [Region.linearise.go]
  | fuel + 1, t, listed, hs => by
    rcases go_eq (ops := ops) (fuel := fuel) (t := t) (listed := listed) with ⟨_, h⟩ | ⟨i, t', hi, h⟩
    · rw [h]; simp
    · rw [h]
      obtain ⟨h1, h2⟩ := go_mem fuel t' (listed.setIfInBounds i true) (by simpa using hs)
      have hi' := (mem_ready.1 hi).1
      have hlt : i < listed.size := by
        obtain ⟨o, ho, _⟩ := (mem_ready.1 hi).2
        rw [hs]; exact (Array.getElem?_eq_some_iff.1 ho).1
      refine ⟨fun q hq => ?_, List.nodup_cons.2 ⟨fun hm => ?_, h2⟩⟩
      · rcases List.mem_cons.1 hq with rfl | hq
        · exact hi'
        · have := h1 q hq
          by_cases e : i = q
          · subst e; exact hi'
          · rw [getD_set_ne true e] at this; exact this
      · have := h1 i hm
        simp [hlt] at this
end
end Go.Ab

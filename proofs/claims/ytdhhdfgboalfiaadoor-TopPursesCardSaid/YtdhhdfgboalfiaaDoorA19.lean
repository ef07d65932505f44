/- Arguments as the form of claims reads them are plain data. -/
import Derived.Test.YtdhhdfgboalfiaaDoorA18
import Derived.ChangeArms
import Derived.OpenShut
import Derived.DataReads
set_option linter.unusedVariables false
set_option linter.unusedSimpArgs false
namespace Go.Ab

/-- Data that the form of claims lets in. -/
def WfEl : (s : Sh) → El s → Prop
  | .int k, x => (Lit.int k x).wf = true
  | .bool, _ => True
  | .str, x => ByteArray.size x ≤ maxLen
  | .lst s, x => List.length (α := El s) x ≤ maxLen ∧ ∀ i, i < List.length (α := El s) x → WfEl s (List.getD (α := El s) x i (El.dflt s))
  | .unit, _ => True
  | .pair a b, x => WfEl a x.1 ∧ WfEl b x.2

def layFs (ok : Nat → Bool) (sh : Nat → Option Sh) : Nat → List FInfo → Option Nat
  | off, [] => some off
  | off, f :: r => match sh f.type with
    | some s => match ok f.type && Nat.beq f.off off && Nat.beq f.size s.size with | true => layFs ok sh (off + s.size) r | false => none
    | none => none

/-- The cells of a type lie one behind the other. -/
def layOk (P : Program) : Nat → Nat → Bool
  | 0, _ => false
  | d + 1, t =>
    match tkOf P t with
    | .int _ => true
    | .bool => true
    | .str => true
    | .slice e => match shOf P d e with | some s => layOk P d e && Nat.beq (P.cellsOf e) s.size && Nat.blt 0 s.size | none => false
    | .array n e => match shOf P d e with | some s => layOk P d e && Nat.beq (P.cellsOf e) s.size && Nat.beq (P.cellsOf t) (n * s.size) | none => false
    | .struct fs => match layFs (layOk P d) (shOf P d) 0 fs with | some n => Nat.beq (P.cellsOf t) n | none => false
    | _ => false

theorem K_size {fz : Nat → Option Obj} {s : Sh} {y : El s} {cs : List Value} (h : K fz s y cs) : cs.length = s.size := K.length s y cs h

/-- A type opens: what is read under it is plain data. -/
def Opens {H : Type} (enc : TypeId × Value → H) (P : Program) (w : World) (base : Nat) (sp : Nat → Bool) (held : Bool) (s : Sh) (t : Nat) : Prop :=
  ∀ (fuel : Nat) (cs : List Value) (x : DataW H × List MemPlace), DataW.trod enc P w base sp held fuel t cs = some x → ∃ y : El s, K (fun b => w.heap[b]?) s y cs ∧ WfEl s y

section
variable {H : Type} {enc : TypeId × Value → H} {P : Program} {w : World} {base : Nat} {sp : Nat → Bool} {held : Bool}

theorem open_fs {ok : Nat → Bool} {sh : Nat → Option Sh} (hop : ∀ t s, ok t = true → sh t = some s → Opens enc P w base sp held s t) {cs : List Value} {n : Nat} :
    ∀ (fs : List FInfo) (ss : List Sh) (off total : Nat), fs.mapM (fun f => sh f.type) = some ss → layFs ok sh off fs = some total → cs.length = total →
      (∀ f ∈ fs, ∃ x, DataW.trod enc P w base sp held n f.type ((cs.drop f.off).take f.size) = some x) → ∃ y : El (pairs ss), K (fun b => w.heap[b]?) (pairs ss) y (cs.drop off) ∧ WfEl (pairs ss) y
  | [], ss, off, total, hm, hl, hc, ht => by
    simp at hm; subst hm
    simp [layFs] at hl; subst hl
    refine ⟨(), ?_, trivial⟩
    show cs.drop off = []
    rw [← hc]; simp
  | f :: r, ss, off, total, hm, hl, hc, ht => by
    simp only [List.mapM_cons, Option.pure_def, Option.bind_eq_bind, Option.bind_eq_some_iff] at hm
    obtain ⟨s, hs, ss', hss, e⟩ := hm
    obtain rfl := Option.some.inj e
    unfold layFs at hl
    rw [hs] at hl
    simp only at hl
    split at hl
    · rename_i hb
      simp only [Bool.and_eq_true] at hb
      have e1 : f.off = off := Nat.eq_of_beq_eq_true hb.1.2
      have e2 : f.size = s.size := Nat.eq_of_beq_eq_true hb.2
      obtain ⟨x, hx⟩ := ht f (by simp)
      obtain ⟨y, hy, wy⟩ := hop f.type s hb.1.1 hs _ _ _ hx
      rw [e1, e2] at hy
      obtain ⟨z, hz, wz⟩ := open_fs hop r ss' (off + s.size) total hss hl hc fun g hg => ht g (by simp [hg])
      cases ss' with
      | nil =>
        have hzz : cs.drop (off + s.size) = [] := hz
        have hlen : cs.length ≤ off + s.size := by
          have := congrArg List.length hzz
          simp at this; omega
        refine ⟨y, ?_, wy⟩
        show K _ s y (cs.drop off)
        rw [List.take_of_length_le (by simp; omega)] at hy
        exact hy
      | cons s2 ss2 =>
        refine ⟨(y, z), ⟨(cs.drop off).take s.size, cs.drop (off + s.size), ?_, hy, hz⟩, wy, wz⟩
        rw [← List.drop_drop, List.take_append_drop]
    · simp at hl

theorem open_arr {s : Sh} {e : Nat} (hop : Opens enc P w base sp held s e) {cs : List Value} {n : Nat} : ∀ (m i : Nat), cs.length = (i + m) * s.size →
      (∀ j, i ≤ j → j < i + m → ∃ x, DataW.trod enc P w base sp held n e ((cs.drop (j * s.size)).take s.size) = some x) →
      ∃ y : El (pairs (List.replicate m s)), K (fun b => w.heap[b]?) (pairs (List.replicate m s)) y (cs.drop (i * s.size)) ∧ WfEl (pairs (List.replicate m s)) y
  | 0, i, hc, ht => by
    refine ⟨(), ?_, trivial⟩
    show cs.drop (i * s.size) = []
    apply List.drop_eq_nil_of_le
    rw [hc]; simp
  | m + 1, i, hc, ht => by
    obtain ⟨x, hx⟩ := ht i (by omega) (by omega)
    obtain ⟨y, hy, wy⟩ := hop _ _ _ hx
    obtain ⟨z, hz, wz⟩ := open_arr hop m (i + 1) (by rw [hc]; congr 1; omega) fun j h1 h2 => ht j (by omega) (by omega)
    have hmul : (i + 1) * s.size = i * s.size + s.size := Nat.succ_mul _ _
    cases m with
    | zero =>
      refine ⟨y, ?_, wy⟩
      show K _ s y (cs.drop (i * s.size))
      rw [List.take_of_length_le (by simp only [List.length_drop]; rw [hc, Nat.zero_add, hmul]; omega)] at hy
      exact hy
    | succ m =>
      refine ⟨(y, z), ⟨(cs.drop (i * s.size)).take s.size, cs.drop ((i + 1) * s.size), ?_, hy, hz⟩, wy, wz⟩
      rw [hmul, ← List.drop_drop, List.take_append_drop]

theorem opens : ∀ (d t : Nat) (s : Sh), layOk P d t = true → shOf P d t = some s → Opens enc P w base sp held s t := by
  intro d
  induction d with
  | zero => intro t s h; simp [layOk] at h
  | succ d ih =>
    intro t s hl hs fuel cs x hx
    unfold layOk at hl
    unfold shOf at hs
    split at hl
    · rename_i k ht
      rw [ht] at hs; obtain rfl := Option.some.inj hs
      obtain ⟨n, rfl, _, hw⟩ := DataW.trod_int (tkOf_int ht) hx
      exact ⟨n, rfl, hw⟩
    · rename_i ht
      rw [ht] at hs; obtain rfl := Option.some.inj hs
      obtain ⟨n, rfl, _⟩ := DataW.trod_bool (tkOf_bool ht) hx
      exact ⟨n, rfl, trivial⟩
    · rename_i ht
      rw [ht] at hs; obtain rfl := Option.some.inj hs
      obtain ⟨n, rfl, _, hw⟩ := DataW.trod_string (tkOf_str ht) hx
      exact ⟨n, rfl, hw⟩
    · rename_i e ht
      rw [ht] at hs
      simp only at hs
      split at hl
      · rename_i se hse
        rw [hse] at hs; obtain rfl := Option.some.inj hs
        simp only [Bool.and_eq_true] at hl
        have e2 : P.cellsOf e = se.size := Nat.eq_of_beq_eq_true hl.1.2
        have hpos : 0 < se.size := blt_lt hl.2
        rcases DataW.trod_slice (tkOf_slice ht) hx with ⟨rfl, _⟩ | ⟨a, len, cap, elems, rest, n, _, rfl, _, _, hcap, hmax, hel, hrow, _⟩
        · exact ⟨([] : List (El se)), ⟨none, 0, rfl, Nat.le_refl _, .inl rfl⟩, by simp, fun i hi => by simp at hi⟩
        · -- the rows
          have row : ∀ i, i < len → ∃ (cells : List Value) (y : El se), w.cells? base (a.add (i * se.size)) se.size = some cells ∧ K (fun b => w.heap[b]?) se y cells ∧ WfEl se y := by
            intro i hi
            have h1 := hrow i hi
            rw [e2] at h1
            have : ∃ z, elems[i]? = some z := ⟨elems[i]'(by omega), by simp [show i < elems.length by omega]⟩
            obtain ⟨z, hz⟩ := this
            rw [hz, Option.bind_eq_some_iff] at h1
            obtain ⟨cells, h1, h2⟩ := h1
            obtain ⟨y, hy, wy⟩ := ih e se hl.1.1 hse _ _ _ h2
            exact ⟨cells, y, h1, hy, wy⟩
          have list : ∀ m, m ≤ len → ∃ ys : List (El se), ys.length = m ∧ ∀ i, i < m → ∃ cells, w.cells? base (a.add (i * se.size)) se.size = some cells ∧ K (fun b => w.heap[b]?) se (ys.getD i (El.dflt se)) cells ∧ WfEl se (ys.getD i (El.dflt se)) := by
            intro m
            induction m with
            | zero => intro _; exact ⟨[], rfl, fun i hi => by omega⟩
            | succ m ihm =>
              intro hm
              obtain ⟨ys, hlen, hys⟩ := ihm (by omega)
              obtain ⟨cells, y, h1, h2, h3⟩ := row m (by omega)
              refine ⟨ys ++ [y], by simp [hlen], fun i hi => ?_⟩
              rcases Nat.lt_or_ge i m with h | h
              · have : (ys ++ [y]).getD i (El.dflt se) = ys.getD i (El.dflt se) := by
                  simp [List.getD_eq_getElem?_getD, List.getElem?_append_left (show i < ys.length by omega)]
                rw [this]; exact hys i h
              · have him : i = m := by omega
                subst him
                have : (ys ++ [y]).getD i (El.dflt se) = y := by
                  simp [List.getD_eq_getElem?_getD, ← hlen]
                rw [this]; exact ⟨cells, h1, h2, h3⟩
          obtain ⟨ys, hlen, hys⟩ := list len (Nat.le_refl _)
          refine ⟨ys, ⟨some a, cap, by show _ = [Value.slice (some a) ys.length cap]; rw [hlen], by show ys.length ≤ cap; omega, ?_⟩, by show ys.length ≤ maxLen; omega, fun i hi => ?_⟩
          · rcases Nat.eq_zero_or_pos len with h0 | h0
            · left
              exact List.eq_nil_of_length_eq_zero (by rw [hlen]; exact h0)
            · right
              obtain ⟨cells0, hc0, _, _⟩ := hys 0 h0
              obtain ⟨_, hl0, hcell0⟩ := World.cells?_some hc0
              have h00 := hcell0 0 hpos
              have hsome : ∃ v, cells0[0]? = some v := ⟨cells0[0]'(by omega), by simp [show 0 < cells0.length by omega]⟩
              obtain ⟨v, hv⟩ := hsome
              rw [hv] at h00
              obtain ⟨b, o, spot⟩ := a
              have h01 : w.cell? ⟨b, o, spot⟩ = some v := by simpa [Addr.add] using h00
              unfold World.cell? at h01
              split at h01
              · rename_i c el fr hh
                have hspot : spot = none := by
                  cases spot with
                  | none => rfl
                  | some q => simp at h01
                subst hspot
                refine ⟨hpos, b, o, c, el, fr, rfl, hh, fun i hi => ?_⟩
                obtain ⟨cells, k1, k2, k3⟩ := hys i (by rw [← hlen]; exact hi)
                obtain ⟨_, k4, k5⟩ := World.cells?_some k1
                refine ⟨cells, k4, fun j hj => ?_, k2⟩
                have := k5 j (by omega)
                rw [add_eq, add_eq, cell_of_block hh] at this
                exact this
              · simp at h01
          · obtain ⟨cells, _, _, k3⟩ := hys i (by rw [← hlen]; exact hi)
            exact k3
      · simp at hl
    · rename_i n e ht
      rw [ht] at hs
      simp only at hs
      split at hl
      · rename_i se hse
        rw [hse] at hs; obtain rfl := Option.some.inj hs
        simp only [Bool.and_eq_true] at hl
        have e2 : P.cellsOf e = se.size := Nat.eq_of_beq_eq_true hl.1.2
        have e3 : P.cellsOf t = n * se.size := Nat.eq_of_beq_eq_true hl.2
        obtain ⟨xs, m, _, _, hlen, hxs, hel⟩ := DataW.trod_array (tkOf_array ht) hx
        have := open_arr (cs := cs) (n := m) (ih e se hl.1.1 hse) n 0 (by rw [hlen, e3]; simp) (fun j _ hj => by
          have := hel j (by omega)
          rw [e2] at this
          have hsm : ∃ z, xs[j]? = some z := ⟨xs[j]'(by omega), by simp [show j < xs.length by omega]⟩
          obtain ⟨z, hz⟩ := hsm
          exact ⟨z, this.trans hz⟩)
        simpa using this
      · simp at hl
    · rename_i fs ht
      rw [ht] at hs
      simp only at hs
      split at hs
      · rename_i ss hss
        obtain rfl := Option.some.inj hs
        split at hl
        · rename_i tot htot
          have e3 : P.cellsOf t = tot := Nat.eq_of_beq_eq_true hl
          obtain ⟨fs', hu, hfs⟩ := tkOf_struct ht
          obtain ⟨xs, m, _, _, hlen, hxs, hel⟩ := DataW.trod_struct hu hx
          have := open_fs (cs := cs) (n := m) (fun t s h1 h2 => ih t s h1 h2) fs ss 0 tot hss htot (by rw [hlen, e3]) (fun f hf => by
            rw [hfs] at hf
            obtain ⟨f', hf', rfl⟩ := List.mem_map.1 hf
            obtain ⟨i, hi⟩ := List.getElem?_of_mem hf'
            have hi' : fs'[i]? = some f' := by rw [← Array.getElem?_toList]; exact hi
            have := hel i f' hi'
            have hlt : i < fs'.size := (Array.getElem?_eq_some_iff.1 hi').1
            have hsm : ∃ z, xs[i]? = some z := ⟨xs[i]'(by omega), by simp [show i < xs.length by omega]⟩
            obtain ⟨z, hz⟩ := hsm
            exact ⟨z, this.trans hz⟩)
          simpa using this
        · simp at hl
      · simp at hs
    · simp at hl
end
end Go.Ab

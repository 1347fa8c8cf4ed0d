/- Lv: the tables of a text, checked piece by piece; the check of the whole text, piece by piece. -/
import Derived.Test.YtdbpidkbpiidiaaGreatDoorLvFastD
namespace Go.Lv
open Go
set_option linter.unusedVariables false
set_option linter.unusedSimpArgs false

noncomputable def trOf {α : Type} (l : List (Nat × α)) : Tr α := List.rec .leaf (fun p _ ih => setP (some p.2) (pathOf p.1) ih) l
theorem trOf_get {α : Type} : ∀ (l : List (Nat × α)) (k : Nat) (v : α), getP (pathOf k) (trOf l) = some v → (k, v) ∈ l
  | [], k, v, h => by rw [getP_eq] at h; simp [trOf, Tr.get_leaf] at h
  | (j, u) :: l, k, v, h => by
    rw [getP_eq] at h
    have h' : (setP (some u) (pathOf j) (trOf l)).get k = some v := h
    rw [setP_eq, Tr.get_set] at h'
    split at h'
    · rename_i e; subst e; cases h'; exact List.mem_cons_self
    · exact List.mem_cons_of_mem _ (trOf_get l k v (by rw [getP_eq]; exact h'))

section
variable {P : Program}
def fldOk (P : Program) (t : Nat) : Nat → List (Option Nat) → Bool
  | _, [] => true
  | k, none :: r => fldOk P t (k + 1) r
  | k, some off :: r => (match fieldOf P t k with
      | some f => (match sizeT P f.type with | some (_ + 1) => Nat.beq f.offset off | _ => false)
      | none => false) && fldOk P t (k + 1) r
def tiOk (P : Program) (x : Nat × TI) : Bool :=
  (match isAggT P x.1 with | some b => b == x.2.agg | none => false) && (match sizeT P x.1 with | some z => Nat.beq z x.2.size | none => false) &&
  (match x.2.elem with
    | none => true
    | some sz => match P.underlying x.1 with
      | some (.slice e) => (match sizeT P e with | some z => Nat.beq z sz | none => false)
      | _ => false) && fldOk P x.1 0 x.2.flds
theorem fldOk_spec {t : Nat} : ∀ (l : List (Option Nat)) (k j off : Nat), fldOk P t k l = true → l[j]? = some (some off) → ∃ f s, fieldOf P t (k + j) = some f ∧ sizeT P f.type = some (s + 1) ∧ f.offset = off
  | [], k, j, off, h, hj => by simp at hj
  | none :: r, k, 0, off, h, hj => by simp at hj
  | none :: r, k, j + 1, off, h, hj => by
    simp only [fldOk] at h
    have := fldOk_spec r (k + 1) j off h (by simpa using hj)
    rwa [Nat.add_assoc, Nat.add_comm 1 j] at this
  | some o :: r, k, 0, off, h, hj => by
    simp at hj
    subst hj
    simp only [fldOk, Bool.and_eq_true] at h
    obtain ⟨h, _⟩ := h
    split at h
    · rename_i f hf
      split at h
      · rename_i s hs
        exact ⟨f, s, by simpa using hf, hs, Nat.eq_of_beq_eq_true h⟩
      · cases h
    · cases h
  | some o :: r, k, j + 1, off, h, hj => by
    simp only [fldOk, Bool.and_eq_true] at h
    have := fldOk_spec r (k + 1) j off h.2 (by simpa using hj)
    rwa [Nat.add_assoc, Nat.add_comm 1 j] at this

def AllFn (P : Program) : List (Nat × Func) → Prop
  | [] => True
  | x :: l => P.funcs[x.1]? = some x.2 ∧ AllFn P l
theorem AllFn.mem : ∀ {l : List (Nat × Func)}, AllFn P l → ∀ f fn, (f, fn) ∈ l → P.funcs[f]? = some fn
  | [], _, f, fn, h => by cases h
  | x :: l, ha, f, fn, h => by
    rcases List.mem_cons.1 h with h1 | h1
    · subst h1; exact ha.1
    · exact ha.2.mem f fn h1

theorem tabOk_of {ts : List (Nat × TI)} {fs : List (Nat × Func)} (h : (ts.all (tiOk P)) = true) (hf : AllFn P fs) : TabOk P ⟨trOf ts, trOf fs⟩ := by
  rw [List.all_eq_true] at h
  have key : ∀ t i, getP (pathOf t) (trOf ts) = some i → tiOk P (t, i) = true := fun t i hi => h _ (trOf_get _ _ _ hi)
  refine ⟨fun t i hi => ?_, fun t i sz hi he => ?_, fun t i k off hi hk => ?_, fun f fn hfn => hf.mem _ _ (trOf_get _ _ _ hfn)⟩
  · have h1 := key t i hi
    simp only [tiOk, Bool.and_eq_true] at h1
    obtain ⟨⟨⟨h1, h2⟩, _⟩, _⟩ := h1
    constructor
    · split at h1
      · rename_i b hb; rw [hb]; simpa using h1
      · cases h1
    · split at h2
      · rename_i z hz; rw [hz, Nat.eq_of_beq_eq_true h2]
      · cases h2
  · have h1 := key t i hi
    simp only [tiOk, Bool.and_eq_true] at h1
    obtain ⟨⟨_, h3⟩, _⟩ := h1
    rw [he] at h3
    simp only at h3
    split at h3
    · rename_i e hu
      split at h3
      · rename_i z hz; exact ⟨e, hu, by rw [hz, Nat.eq_of_beq_eq_true h3]⟩
      · cases h3
    · cases h3
  · have h1 := key t i hi
    simp only [tiOk, Bool.and_eq_true] at h1
    have := fldOk_spec _ 0 k off h1.2 hk
    rwa [Nat.zero_add] at this

/-! ### the check of the text -/
def fnOkB (P : Program) (f : Nat) : Bool :=
  match P.funcs[f]? with
  | some fn => (match fn.body with | some c => codeOk P c | none => true)
  | none => true
theorem progOk_of (h1 : P.follows .mixedOrders = true) (m n : Nat) (hn : Nat.ble P.funcs.size (n * m) = true) (h : ∀ i, i < n → (List.range' (i * m) m).all (fnOkB P) = true) : progOk P = true := by
  simp only [progOk, h1, Bool.true_and, List.all_eq_true]
  intro fn hfn
  obtain ⟨f, hf⟩ := List.getElem?_of_mem hfn
  have hf' : P.funcs[f]? = some fn := by simpa using hf
  have hlt : f < P.funcs.size := (Array.getElem?_eq_some_iff.1 hf').1
  have hle := Nat.le_of_ble_eq_true hn
  have hm : 0 < m := by
    rcases Nat.eq_zero_or_pos m with e | e
    · subst e; omega
    · exact e
  have hi : f / m < n := Nat.div_lt_of_lt_mul (by rw [Nat.mul_comm]; omega)
  have h2 := h (f / m) hi
  rw [List.all_eq_true] at h2
  have h3 := h2 f (by
    rw [List.mem_range'_1]
    have e1 := Nat.div_add_mod f m
    have e2 := Nat.mod_lt f hm
    rw [Nat.mul_comm m (f / m)] at e1
    omega)
  unfold fnOkB at h3
  rw [hf'] at h3
  exact h3
end
end Go.Lv

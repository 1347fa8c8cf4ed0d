/- Lv: what a listed package variable holds, for the evaluator: a table of whole numbers. -/
import Derived.Test.YthakgknamfopcaaLvRow
import Derived.LaidMore
namespace Go.Lv
open Go Go.RowKit Go.ChangeShapes
set_option linter.unusedVariables false
set_option linter.unusedSimpArgs false

section
variable {P : Program} {W : World}

def intsV (k : IntKind) (ns : List Int) : List LV := ns.map (.int k)

theorem trod_ints {k : IntKind} {H : Type} {enc : TypeId × Value → H} {t n e m : Nat} {spare : Nat → Bool} {held : Bool} {base : Nat} {cs : List Value} {x : DataW H × List MemPlace} (ht : P.underlying t = some (.array n e)) (he : P.underlying e = some (.int k)) (h1 : P.cellsOf e = 1)
    (hn : P.cellsOf t = n) (h : DataW.trod enc P W base spare held m t cs = some x) : ∃ ns : List Int, ns.length = n ∧ cs = ns.map (.int k) ∧ x.1 = .agg (ns.map fun a => .lit (.int k a)) := by
  obtain ⟨xs, m1, rfl, rfl, hlen, hxl, hel⟩ := DataW.trod_array ht h
  rw [h1] at hel
  have key : ∀ i, i < n → ∃ a, cs[i]? = some (.int k a) ∧ xs[i]? = some (.lit (.int k a), []) := fun i hi => by
    have h2 := hel i hi
    have hx : ∃ y, xs[i]? = some y := ⟨xs[i]'(by omega), List.getElem?_eq_getElem (by omega)⟩
    obtain ⟨y, hy⟩ := hx
    rw [hy] at h2
    obtain ⟨a, e1, e2, _⟩ := DataW.trod_int he h2
    refine ⟨a, ?_, by rw [hy, e2]⟩
    have h3 : i < cs.length := by omega
    rw [Nat.mul_one, List.drop_eq_getElem_cons h3, List.take_succ_cons, List.take_zero] at e1
    rw [List.getElem?_eq_getElem h3]
    exact congrArg some (List.cons.inj e1).1
  refine ⟨cs.map fun v => match v with | .int _ a => a | _ => 0, by simp; omega, ?_, ?_⟩
  · apply List.ext_getElem?
    intro i
    by_cases hi : i < n
    · obtain ⟨a, h3, _⟩ := key i hi
      simp [h3]
    · rw [List.getElem?_eq_none (by omega), List.getElem?_eq_none (by simp; omega)]
  · show DataW.agg _ = _
    congr 1
    apply List.ext_getElem?
    intro i
    by_cases hi : i < n
    · obtain ⟨a, h3, h4⟩ := key i hi
      simp [h3, h4]
    · rw [List.getElem?_eq_none (by simp; omega), List.getElem?_eq_none (by simp; omega)]

/-- One listed table. -/
theorem DO_table {k : IntKind} {H : Type} {enc : TypeId × Value → H} {name : String} {g t n e m : Nat} {spare : Nat → Bool} {held : Bool} {base : Nat} {cs : Array Value} {x : DataW H × List MemPlace} {ns : List Int} {R : Ren}
    (hg : P.globalNamed name = some g) (hv : W.var? P name = some cs) (ht : P.underlying t = some (.array n e)) (he : P.underlying e = some (.int k)) (h1 : P.cellsOf e = 1)
    (hn : P.cellsOf t = n) (h : DataW.trod enc P W base spare held m t cs.toList = some x) (hx : x.1 = .agg (ns.map fun a => .lit (.int k a))) : DO R W.heap[g]? 0 (intsV k ns).length (.cells (intsV k ns) 0 false false) := by
  obtain ⟨ns', h2, h3, h4⟩ := trod_ints ht he h1 hn h
  rw [hx] at h4
  have e1 : ns = ns' := by
    simp only [DataW.agg.injEq] at h4
    apply List.ext_getElem?
    intro i
    have := congrArg (fun l : List (DataW H) => l[i]?) h4
    simp only [List.getElem?_map] at this
    cases ha : ns[i]? with
    | none =>
      rw [ha] at this
      cases hb : ns'[i]? with
      | none => rfl
      | some b => rw [hb] at this; simp at this
    | some a =>
      rw [ha] at this
      cases hb : ns'[i]? with
      | none => rw [hb] at this; simp at this
      | some b => rw [hb] at this; simp at this; rw [this]
  subst e1
  simp only [World.var?, hg, Option.bind_some] at hv
  split at hv
  · rename_i c ty fr hb
    cases hv
    refine ⟨_, ty, fr, hb, by simp, by simp [intsV]; rw [← Array.length_toList, h3]; simp, fun i v hi => ?_, fun hh => by cases hh⟩
    simp only [intsV, List.getElem?_map, Option.map_eq_some_iff] at hi
    obtain ⟨a, ha, rfl⟩ := hi
    refine ⟨.int k a, ?_, by simp [DV]⟩
    rw [Nat.zero_add, ← Array.getElem?_toList, h3, List.getElem?_map, ha]; rfl
  · cases hv

theorem wide_int {w : World} {r : Reach} {base t : Nat} {v : Value} {k : IntKind} (ht : P.underlying t = some (.int k)) (h : Value.okWide P w r base t v) : ∃ n, v = .int k n := by
  simp only [Value.okWide, ht, Cell.okWide] at h
  cases v with
  | int k' n =>
    simp [Cell.ok, ht] at h
    exact ⟨n, by rw [h.1]⟩
  | _ => simp [Cell.ok, ht] at h
end
end Go.Lv

/- Lv: what a law's arguments may be, as the evaluator is told of them. -/
import Derived.Test.YthakgknamfopcaaLvTop
import Derived.WideShapes
namespace Go.Lv
open Go
set_option linter.unusedVariables false
set_option linter.unusedSimpArgs false

section
variable {P : Program} {w : World} {r : Reach} {base t : Nat} {v : Value}

theorem wide_slice {e : Nat} (ht : P.underlying t = some (.slice e)) (h : Value.okWide P w r base t v) :
    v = .slice none 0 0 ∨ ∃ b off len cap, v = .slice (some ⟨b, off, none⟩) len cap ∧ len ≤ cap ∧ (cap : Int) ≤ IntKind.i64.max := by
  simp only [Value.okWide, ht, Cell.okWide] at h
  cases v with
  | slice a len cap =>
    cases a with
    | none =>
      left
      cases len with
      | zero => cases cap with
        | zero => rfl
        | succ c => simp [Cell.ok, ht] at h
      | succ l => simp [Cell.ok, ht] at h
    | some a =>
      right
      simp only [Cell.ok, ht] at h
      obtain ⟨h1, h2, _, h3, _⟩ := h
      obtain ⟨b, off, spot⟩ := a
      simp only at h3
      subst h3
      exact ⟨b, off, len, cap, rfl, h1, h2⟩
  | _ => simp [Cell.ok, ht] at h

/-- Nothing is told of the slice's cells. -/
def LV.sl (P : Program) (k len cap : Nat) : LV := .slice (some (P.globals.size + k, 0)) len (.ex cap)
theorem DV_sl {gl : List (Nat × List LV)} {tr : List (Nat × Nat × Nat)} {k b off e len cap : Nat} (h : tr[k]? = some (b, off, e)) : DV (inR P gl tr) (LV.sl P k len cap) (.slice (some ⟨b, off, none⟩) len cap) := by
  simp only [LV.sl, DV]
  exact ⟨b, off, e, by rw [inR_at, h], rfl⟩
end
end Go.Lv

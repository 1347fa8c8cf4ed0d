/- Lv: more steps, the same answer. -/
import Derived.Test.YthakgknamfopcaaLvAny
namespace Go.Lv
open Go
set_option linter.unusedVariables false
set_option linter.unusedSimpArgs false

section
variable {P : Program} {rec rec' : Task → Option Res}

def Sub (rec rec' : Task → Option Res) : Prop := ∀ t r, rec t = some r → rec' t = some r

theorem drun_mono (hm : Sub rec rec') {ops : Array Oper} {chk : Bool} : ∀ (l : List Oper) (j : Nat) (recs : List DRec) (S : FS) (r : FR), drun P rec ops chk l j recs S = some r → drun P rec' ops chk l j recs S = some r
  | [], j, recs, S, r, h => h
  | o :: rest, j, recs, S, r, h => by
    have ih := drun_mono hm (ops := ops) (chk := chk) rest
    simp only [drun] at h ⊢
    split at h
    · rename_i hw; exact ih _ _ _ _ h
    · cases h
    · rename_i hw
      split at h
      · cases h
      rename_i U hU
      split at h
      · rename_i q hk hq
        cases q with
        | val v H =>
          simp only [Bool.false_eq_true, if_false] at h ⊢
          split at h
          · cases h
          · rename_i hc; rw [if_neg hc]; exact ih _ _ _ _ h
        | skip H =>
          simp only at h ⊢
          split at h
          · cases h
          · rename_i hc; rw [if_neg hc]; exact ih _ _ _ _ h
        | call f args =>
          simp only at h ⊢
          cases hr : rec (.call f args (S.H.hide U)) with
          | none => rw [hr] at h; simp at h
          | some x =>
            rw [hr] at h
            rw [hm _ _ hr]
            cases x with
            | fr y => simp at h
            | out y H =>
              cases y with
              | ret v =>
                simp only at h ⊢
                split at h
                · cases h
                · rename_i hc; rw [if_neg hc]; exact ih _ _ _ _ h
              | panic v => exact h
        | round f args =>
          simp only at h ⊢
          cases hr : rec (.round f args (S.H.hide U)) with
          | none => rw [hr] at h; simp at h
          | some x =>
            rw [hr] at h
            rw [hm _ _ hr]
            cases x with
            | fr y => simp at h
            | out y H =>
              cases y with
              | ret v =>
                simp only at h ⊢
                split at h
                · cases h
                · rename_i hc; rw [if_neg hc]; exact ih _ _ _ _ h
              | panic v => exact h
        | _ => simp at h
      · rename_i v H' hk hq
        split at h
        · cases h
        · rename_i hc; rw [if_neg hc]; exact ih _ _ _ _ h
      · exact ih _ _ _ _ h
      · cases h

theorem runStep_mono (hm : Sub rec rec') : Sub (runStep P rec) (runStep P rec') := by
  intro t r h
  cases t with
  | frame K S =>
    unfold runStep at h ⊢
    simp only at h ⊢
    repeat' split at h
    all_goals first
      | (cases h; done)
      | exact hm _ _ h
      | exact h
      | (rename_i hr; rw [drun_mono hm _ _ _ _ _ hr]; first | exact hm _ _ h | exact h)
      | (rename_i hr; rw [hm _ _ hr]; first | exact hm _ _ h | exact h)
      | (rename_i hr; rw [hm _ _ hr, if_neg ‹¬¬rangeStands S = true›]; first | exact hm _ _ h | exact h)
      | (rw [if_neg (by assumption)]; exact hm _ _ h)
  | call f args H =>
    unfold runStep at h ⊢
    simp only at h ⊢
    repeat' split at h
    all_goals first
      | (cases h; done)
      | (rename_i hr; rw [hm _ _ hr]; first | exact hm _ _ h | exact h)
  | round l args H =>
    unfold runStep at h ⊢
    simp only at h ⊢
    repeat' split at h
    all_goals first
      | (cases h; done)
      | (rw [hm _ _ ‹rec (.frame _ _) = some _›]; simp_all; done)
  | defs S p =>
    unfold runStep at h ⊢
    simp only at h ⊢
    repeat' split at h
    all_goals first
      | (cases h; done)
      | exact hm _ _ h
      | exact h
      | (rw [hm _ _ ‹rec (.frame _ _) = some _›]; simp only [*]; first | exact hm _ _ h | exact h)
      | skip

theorem run_succ : ∀ n, Sub (run P n) (run P (n + 1))
  | 0 => fun t r h => by simp [run] at h
  | n + 1 => runStep_mono (run_succ n)
theorem run_le {n m : Nat} (h : n ≤ m) : Sub (run P n) (run P m) := by
  induction h with
  | refl => exact fun t r h => h
  | step _ ih => exact fun t r h => run_succ _ t r (ih t r h)

end
end Go.Lv

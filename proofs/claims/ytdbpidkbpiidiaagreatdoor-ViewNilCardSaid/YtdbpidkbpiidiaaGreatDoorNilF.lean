/- Towards the statement ViewNilCardSaid: views that are nil, or were not made by New, answer as the document says, whatever the arguments. No condition. -/
import Derived.Test.YtdbpidkbpiidiaaGreatDoorCards
import Derived.Test.YtdbpidkbpiidiaaGreatDoorTie
import Derived.Test.YtdbpidkbpiidiaaGreatDoorNilE
import Derived.Test.YtdbpidkbpiidiaaGreatDoorNilG
import Derived.Stop.Joined
import Derived.SevenTiedAt
namespace Go.Proofs.YtdbpidkbpiidiaaGreatDoor.viewNil
open Go.ChangeShapes Go.WideShapes Go.ChangeAt Go.RowKit Go.Lv
set_option linter.unusedVariables false
set_option linter.constructorNameAsVariable false
set_option maxRecDepth 100000

theorem closed : joinedFacts Tryz.prog 4 Tryz.f4 Rows.viewNilSpec Rows.viewNilRow = true := by
  simp only [joinedFacts, Bool.and_eq_true]
  exact ⟨⟨⟨⟨⟨⟨⟨⟨⟨⟨⟨⟨⟨⟨⟨⟨⟨⟨⟨⟨⟨⟨⟨⟨⟨⟨⟨⟨⟨⟨⟨q0, q1⟩, q2⟩, q3⟩, q4⟩, q5⟩, q6⟩, q7⟩, q8⟩, q9⟩, q10⟩, q11⟩, q12⟩, q13⟩, q14⟩, q15⟩, q16⟩, q17⟩, q18⟩, q19⟩, q20⟩, q21⟩, q22⟩, q23⟩, q24⟩, q25⟩, q26⟩, q27⟩, q28⟩, q29⟩, q30⟩, q31⟩
theorem hfn : Tryz.pinned.checked.prog.funcNamed Rows.viewNilRow.func = some 4 := by kernel_rfl
theorem hinst : Tryz.f4.isInstance Tryz.pinned.checked.prog Rows.viewNilRow.origin Rows.viewNilRow.targs := of_decide_eq_true (by kernel_rfl)
theorem hwrap : Tryz.f4.isWrapper Tryz.pinned.checked.prog Rows.viewNilRow.wrapper Rows.viewNilRow.mainSum := by
  unfold Func.isWrapper
  first | (rw [if_pos (by decide +kernel)]; kernel_rfl) | (rw [if_neg (by decide +kernel)]; exact ⟨rfl, rfl⟩)
theorem row_holds : Rows.ViewNilSaid :=
  OpenClaim.holds_of_wide 4 Tryz.f4 rfl rfl rfl rfl rfl rfl rfl ⟨rfl, rfl, rfl, rfl, rfl⟩ rfl rfl rfl rfl rfl hfn Tryz.func4 closed hinst hwrap
    (fun os started H enc _ => lifted os started H enc)
end Go.Proofs.YtdbpidkbpiidiaaGreatDoor.viewNil

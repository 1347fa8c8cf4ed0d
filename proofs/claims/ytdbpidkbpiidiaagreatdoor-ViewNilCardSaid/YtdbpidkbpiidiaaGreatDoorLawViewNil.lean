/- The statement ViewNilCardSaid: views and windows that are nil, or were not made by New, answer as the document says, whatever the arguments. No condition. -/
import Derived.Test.YtdbpidkbpiidiaaGreatDoorCards
import Derived.Test.YtdbpidkbpiidiaaGreatDoorTie
import Derived.Test.YtdbpidkbpiidiaaGreatDoorNilF
import Derived.Stop.Joined
import Derived.SevenTiedAt
namespace Go.Proofs.YtdbpidkbpiidiaaGreatDoor.viewNil
open Go.ChangeShapes Go.WideShapes Go.ChangeAt Go.RowKit Go.Lv
set_option linter.unusedVariables false
set_option linter.constructorNameAsVariable false
set_option maxRecDepth 100000

theorem proved : Rows.ViewNilCardSaid :=
  Claim7.holds_tied_plain_at .later [] [.data, .data] true (true, "49e03b334bbccd7382e456d623882736c6c0ce025760e47e37d400d3e9dd5169") true
    row_holds (fun _ h => by cases h) (by kernel_rfl) (fun _ h => by cases h) viewNil_row_tie rfl ⟨rfl, rfl⟩ (by kernel_rfl) rfl
    (fun f fn hf hfn => by
      obtain rfl : f = 4 := Option.some.inj ((show Tryz.prog.funcNamed "seepage/seepagelaw38.ViewNil" = some 4 by kernel_rfl).symm.trans hf) |>.symm
      obtain rfl : fn = Tryz.f4 := (Option.some.inj (Tryz.func4.symm.trans hfn)).symm
      exact ⟨by kernel_rfl, fun j t ht => by
        rw [Tryz.params4] at ht
        have h3 : t = 29 ∨ t = 2 ∨ t = 35 := by
          rcases j with _ | _ | _ | j
          · simp at ht; exact .inl ht.symm
          · simp at ht; exact .inr (.inl ht.symm)
          · simp at ht; exact .inr (.inr ht.symm)
          · simp at ht
        rcases h3 with rfl | rfl | rfl
        · exact (show Tryz.prog.wantsStandIn 29 = false by kernel_rfl)
        · exact (show Tryz.prog.wantsStandIn 2 = false by kernel_rfl)
        · exact (show Tryz.prog.wantsStandIn 35 = false by kernel_rfl)⟩)
    (by kernel_rfl)
end Go.Proofs.YtdbpidkbpiidiaaGreatDoor.viewNil

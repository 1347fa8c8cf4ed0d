/- Towards the statement ViewNilCardSaid: views that are nil, or were not made by New, answer as the document says, whatever the arguments. No condition. -/
import Derived.Test.YtdbpidkbpiidiaaGreatDoorCards
import Derived.JoinedOf
import Derived.Stop.Joined
import Derived.SevenTiedAt
namespace Go.Proofs.YtdbpidkbpiidiaaGreatDoor.viewNil
open Go
set_option linter.unusedVariables false
set_option linter.constructorNameAsVariable false
set_option maxRecDepth 100000

theorem q0 : (Rows.viewNilRow.wf (OpenSpec.ofChange Rows.viewNilSpec)) = true := by kernel_rfl
theorem q1 : (laidOutB Tryz.prog) = true := by kernel_rfl
theorem q2 : (mapsRowed Tryz.prog) = true := by kernel_rfl
theorem q3 : (Tryz.f4.params.all (Tryz.prog.readableRec ·)) = true := by kernel_rfl
theorem q4 : (namedTie Tryz.prog Rows.viewNilRow.named Rows.viewNilSpec.vars) = true := by kernel_rfl
theorem q5 : ((Rows.viewNilRow.stops == [])) = true := by kernel_rfl
theorem q6 : ((Tryz.prog.stops == [])) = true := by kernel_rfl
theorem q7 : ((Rows.viewNilRow.knobs == [])) = true := by kernel_rfl
theorem q8 : ((Tryz.prog.stopKnobs == [])) = true := by kernel_rfl
theorem q9 : ((Rows.viewNilRow.inPlace == Tryz.prog.inPlace 4)) = true := by kernel_rfl
theorem q10 : ((Rows.viewNilRow.unfollowed == Tryz.prog.unfollowed 4)) = true := by kernel_rfl
theorem q11 : ((Rows.viewNilRow.recurses == Tryz.prog.recurses 4)) = true := by kernel_rfl
theorem q12 : ((Rows.viewNilRow.named == Tryz.prog.varsNamed 4)) = true := by kernel_rfl
theorem q13 : ((Rows.viewNilRow.maps == (Tryz.f4.params.toList ++ Rows.viewNilSpec.plain.varTypes Tryz.prog).any (Tryz.prog.mapsRec ·))) = true := by kernel_rfl
theorem q14 : ((Rows.viewNilRow.ifaces == (Tryz.f4.params.toList ++ Rows.viewNilSpec.plain.varTypes Tryz.prog).any (Tryz.prog.ifacesRec ·))) = true := by kernel_rfl
theorem q15 : ((Rows.viewNilRow.mapsOut == Tryz.prog.mapsAmong Tryz.f4.resultTypes.toList)) = true := by kernel_rfl
theorem q16 : ((Rows.viewNilRow.loops == (Tryz.f4.params.toList ++ Rows.viewNilSpec.plain.varTypes Tryz.prog).any (Tryz.prog.loopsFrom ·))) = true := by kernel_rfl
theorem q17 : ((Rows.viewNilRow.wideKeys == (Tryz.f4.params.toList ++ Rows.viewNilSpec.plain.varTypes Tryz.prog ++ Tryz.f4.resultTypes.toList).any (Tryz.prog.wideKeysFrom ·))) = true := by kernel_rfl
theorem q18 : (Rows.viewNilSpec.vars.all (Tryz.prog.varReadable ·)) = true := by kernel_rfl
theorem q19 : (Tryz.f4.resultTypes.all (fun t => Tryz.prog.readableRec t && decide (t < Tryz.prog.types.size))) = true := by kernel_rfl
theorem q20 : ((Rows.viewNilRow.ifacesOut == Tryz.f4.resultTypes.toList.any (Tryz.prog.ifacesRec ·))) = true := by kernel_rfl
theorem q21 : ((Rows.viewNilRow.loopsOut == Tryz.f4.resultTypes.toList.any (Tryz.prog.loopsFrom ·))) = true := by kernel_rfl
theorem q22 : ((Rows.viewNilRow.plainKeys == Tryz.prog.plainKeys)) = true := by kernel_rfl
theorem q23 : (Rows.viewNilRow.shortTexts.isNone) = true := by kernel_rfl
theorem q24 : (Tryz.prog.stopsHeard) = true := by kernel_rfl
theorem q25 : (Tryz.prog.mayEnter) = true := by kernel_rfl
theorem q26 : ((Rows.viewNilRow.lifted == Tryz.prog.liftsFinal)) = true := by kernel_rfl
theorem q27 : ((Tryz.prog.make == some Rows.viewNilRow.make)) = true := by kernel_rfl
theorem q28 : ((Rows.viewNilRow.kinds == (if Rows.viewNilRow.domain.isEmpty then [] else Tryz.f4.params.toList.map fun t => match Tryz.prog.underlying t with | some (.int k) => some k | _ => none))) = true := by kernel_rfl
theorem q29 : ((Rows.viewNilRow.pinned == Rows.viewNilRow.pinnedBy)) = true := by kernel_rfl
theorem q30 : ((Rows.viewNilRow.veiled == (Tryz.f4.params.toList ++ Rows.viewNilSpec.plain.varTypes Tryz.prog ++ Tryz.f4.resultTypes.toList).any (Tryz.prog.veiledRec ·))) = true := by kernel_rfl
theorem q31 : (Rows.viewNilRow.veiledFits Tryz.prog Tryz.f4.params.toList (Tryz.f4.params.toList ++ Rows.viewNilSpec.plain.varTypes Tryz.prog ++ Tryz.f4.resultTypes.toList)) = true := by kernel_rfl
end Go.Proofs.YtdbpidkbpiidiaaGreatDoor.viewNil

/- The evaluator runs ViewNil, the bounds not nil. -/
import Derived.Test.YtdbpidkbpiidiaaGreatDoorRows
import Derived.Test.YtdbpidkbpiidiaaGreatDoorTab
import Derived.Test.YtdbpidkbpiidiaaGreatDoorNilA
namespace Go.Proofs.YtdbpidkbpiidiaaGreatDoor.viewNil
open Go Go.Lv
set_option linter.unusedVariables false
set_option maxRecDepth 100000
theorem nil_b (u θ : Int) (len cap : Nat) : okB (runF Tryz.prog tab 1000000 (.call 4 [.int .u64 u, .int .i64 θ, .slice (some (2, 0)) len (.ex cap)] (inH Tryz.prog gl [none]))) = true := by kernel_rfl
end Go.Proofs.YtdbpidkbpiidiaaGreatDoor.viewNil

/- The evaluator runs ViewNil, the bounds nil. -/
import Derived.Test.YtdbpidkbpiidiaaGreatDoorRows
import Derived.Test.YtdbpidkbpiidiaaGreatDoorTab
import Derived.Test.YtdbpidkbpiidiaaGreatDoorLvLaid
namespace Go.Proofs.YtdbpidkbpiidiaaGreatDoor.viewNil
open Go Go.Lv
set_option linter.unusedVariables false
set_option maxRecDepth 100000
def intsOf : DataW Unit → List Int
  | .agg l => l.map fun d => match d with | .lit (.int _ n) => n | _ => 0
  | _ => []
def tab32 : List Int := intsOf Rows.laid_math_bits_deBruijn32tab
def tab64 : List Int := intsOf Rows.laid_math_bits_deBruijn64tab
def gl : List (Nat × List LV) := [(0, intsV .u8 tab32), (1, intsV .u8 tab64)]
theorem nil_a (u θ : Int) : okB (runF Tryz.prog tab 1000000 (.call 4 [.int .u64 u, .int .i64 θ, .slice none 0 (.ex 0)] (inH Tryz.prog gl []))) = true := by kernel_rfl
end Go.Proofs.YtdbpidkbpiidiaaGreatDoor.viewNil

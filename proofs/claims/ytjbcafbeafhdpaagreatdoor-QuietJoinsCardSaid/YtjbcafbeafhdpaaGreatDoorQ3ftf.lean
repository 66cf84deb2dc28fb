/- QuietJoins: one of its runs. -/
import Derived.Test.YtjbcafbeafhdpaaGreatDoorQ3a
namespace Go.D
open Go.SL Go.RowKit
set_option maxRecDepth 1000000
theorem qj_ftf (o : Int) : twoD (call2D env0 1000 100 5 [.bool false, .bool true, .int .i64 o] ⟨.emp, 0⟩ 1000 42 (.bool false)) = some (.bool (decide (oddI o = 1)), .bool true) := by kernel_rfl
end Go.D

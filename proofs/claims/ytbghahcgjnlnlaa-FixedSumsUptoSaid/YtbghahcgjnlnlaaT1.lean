import Derived.Test.YtbghahcgjnlnlaaIr
import Derived.Test.YtbghahcgjnlnlaaAmSim
namespace Go.AM.F
open Go Go.AM
set_option maxRecDepth 10000

theorem c_amount (v : Int) : Cinf T n_thicketref04_amount [.v (.int .i64 v)] = some (.v (.int .u64 (if v < 0 then IntKind.u64.wrap (0 - IntKind.u64.wrap v) else IntKind.u64.wrap v)), [.dead]) := by
  simp [run_thicketref04_amount, Run, a_thicketref04_amount, b_thicketref04_amount, j0_thicketref04_amount]
  split <;> simp
theorem c_signed (neg : Bool) (v : Int) : Cinf T n_thicketref04_signed [.v (.bool neg), .v (.int .u64 v)] = some (if (neg && decide (v ≤ 9223372036854775808)) = true then .tup [.v (.int .i64 (IntKind.i64.wrap (0 - IntKind.i64.wrap v))), .v (.bool true)] else .tup [.v (.int .i64 (IntKind.i64.wrap v)), .v (.bool (decide (v < 9223372036854775808)))], [.dead, .dead]) := by
  cases neg <;> simp [run_thicketref04_signed, Run, a_thicketref04_signed, b_thicketref04_signed, j0_thicketref04_signed]
  split <;> simp
end Go.AM.F

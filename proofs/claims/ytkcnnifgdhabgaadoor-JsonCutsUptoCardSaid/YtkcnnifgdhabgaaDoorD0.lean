/- JSON: the laws' question that has no input is answered yes, by running. No conditions. -/
import Derived.Test.YtkcnnifgdhabgaaDoorIr
import Derived.KernelRfl
namespace Go.AM.F
open Go Go.AM
set_option maxRecDepth 100000

theorem begins_run : callN T 60 n_thicketlaw10_begins [] = some (.v (.bool true), []) := by kernel_rfl
theorem c_begins : Cinf T n_thicketlaw10_begins [] = some (.v (.bool true), []) := Cinf_iff.2 ⟨60, begins_run⟩
end Go.AM.F

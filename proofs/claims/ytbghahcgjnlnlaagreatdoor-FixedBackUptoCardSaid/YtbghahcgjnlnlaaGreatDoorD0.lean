/- The law's question that has no input: it is answered yes, by running. No conditions. -/
import Derived.Test.YtbghahcgjnlnlaaGreatDoorIr
import Derived.KernelRfl
namespace Go.AM.F
open Go Go.AM
set_option maxRecDepth 100000

theorem begins_run : callN T 200 n_thicketlaw04_begins [] = some (.v (.bool true), []) := by kernel_rfl
theorem c_begins : Cinf T n_thicketlaw04_begins [] = some (.v (.bool true), []) := Cinf_iff.2 ⟨200, begins_run⟩
end Go.AM.F

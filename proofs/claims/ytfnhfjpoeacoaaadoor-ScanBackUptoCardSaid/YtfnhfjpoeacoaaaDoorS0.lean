/- The law's question that has no input: it is answered yes, by running. No conditions. -/
import Derived.Test.YtfnhfjpoeacoaaaDoorIr
import Derived.KernelRfl
namespace Go.AM.F
open Go Go.AM
set_option maxRecDepth 100000

theorem lives_run : callN T 40 n_thicketlaw03_lives [] = some (.v (.bool true), []) := by kernel_rfl
theorem c_lives : Cinf T n_thicketlaw03_lives [] = some (.v (.bool true), []) := Cinf_iff.2 ⟨40, lives_run⟩
end Go.AM.F

/- The law's question that has no input: it is answered yes, by running. No conditions. -/
import Derived.Test.YtfkgoofipbbhpaaDoorIr
import Derived.KernelRfl
namespace Go.AM.F
open Go Go.AM
set_option maxRecDepth 100000

theorem lives_run : callN T 60 n_thicketlaw01_lives [] = some (.v (.bool true), []) := by kernel_rfl
theorem c_lives : Cinf T n_thicketlaw01_lives [] = some (.v (.bool true), []) := Cinf_iff.2 ⟨60, lives_run⟩
end Go.AM.F

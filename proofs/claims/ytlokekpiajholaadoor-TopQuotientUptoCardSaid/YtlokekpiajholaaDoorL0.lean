/- The law's question that has no input: it is answered yes, by running. No conditions. -/
import Derived.Test.YtlokekpiajholaaDoorIr
import Derived.KernelRfl
namespace Go.AM.F
open Go Go.AM
set_option maxRecDepth 100000

end Go.AM.F

/- Every Quote, as the document has it. No conditions. -/
import Derived.Test.YtfnhfjpoeacoaaaDoorS12
namespace Go.AM.F
open Go Go.AM
set_option maxRecDepth 10000
set_option linter.unusedSimpArgs false
theorem quo16 : ∀ c < 256, IntKind.u8.wrap (((c : Nat) : Int).tdiv 16) = ((c / 16 : Nat) : Int) := by decide +kernel
theorem rem16 : ∀ c < 256, ((c : Nat) : Int).tmod 16 = ((c % 16 : Nat) : Int) := by decide +kernel
end Go.AM.F

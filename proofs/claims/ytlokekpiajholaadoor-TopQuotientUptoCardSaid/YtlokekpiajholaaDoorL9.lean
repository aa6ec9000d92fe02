/- Differences of naturals, as the document has them. No conditions. -/
import Derived.Test.YtlokekpiajholaaDoorL8
namespace Go.AM.F
open Go Go.AM
set_option maxRecDepth 10000
set_option linter.unusedSimpArgs false
end Go.AM.F

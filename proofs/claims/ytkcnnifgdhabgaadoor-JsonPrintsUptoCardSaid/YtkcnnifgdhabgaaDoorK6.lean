/- JSON: the program's reader: a character; texts. No conditions. -/
import Derived.Test.YtkcnnifgdhabgaaDoorK5
namespace Go.AM.F
open Go Go.AM
set_option maxRecDepth 10000
set_option linter.unusedSimpArgs false

theorem uc_le (M : List UInt8) : uc M ≤ M.length ∧ uc M ≤ 4 := by
  unfold uc
  repeat' split
  all_goals omega
end Go.AM.F

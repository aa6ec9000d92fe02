/- JSON: the document's reader: four hexadecimal digits. No conditions. -/
import Derived.Test.YtkcnnifgdhabgaaDoorM3
namespace Go.AM.F
open Go Go.AM
set_option maxRecDepth 10000
set_option linter.unusedSimpArgs false

/-- Four digits, exactly. -/
def fourOut (L : List UInt8) : PR Nat → Option (PV × List PV)
  | .ok j u => some (.v (.int .i64 u), [rg L j 0 0])
  | .bad _ a => some (.v (.int .i64 0), [rg L a 100 a])
end Go.AM.F

import Derived.Test.YtbghahcgjnlnlaaDoorT4
namespace Go.AM.F
open Go Go.AM
set_option maxRecDepth 10000

def saysTwo (t : Bool) (v : Int) : Option (Out × Env) := some (.ret, [(2, .v (.int .i64 (if t then v else 0))), (3, .v (.int .i64 (if t then 0 else 41)))])
end Go.AM.F

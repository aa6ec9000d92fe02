/- Products of naturals, as the document has them. No conditions. -/
import Derived.Test.YtlokekpiajholaaDoorL10
namespace Go.AM.F
open Go Go.AM
set_option maxRecDepth 10000
set_option linter.unusedSimpArgs false
def rmE (a b out : List Nat) (i x : Nat) (c k : Nat) (x18 : PV) (la : Int) (xi : PV) : Env := [(0, .ro 1 (ul a)), (1, .ro 1 (ul b)), (5, .own 1 (ul out)), (6, .v (.int .i64 i)), (7, .v (.int .u32 x)), (8, .v (.int .u64 c)), (9, .v (.int .i64 k)), (17, .dead), (18, x18), (19, .v (.int .i64 la)), (20, xi)]
end Go.AM.F

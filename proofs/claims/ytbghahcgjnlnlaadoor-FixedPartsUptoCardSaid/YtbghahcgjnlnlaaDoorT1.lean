import Derived.Test.YtbghahcgjnlnlaaDoorIr
import Derived.Test.YtbghahcgjnlnlaaDoorAmSim
namespace Go.AM.F
open Go Go.AM
set_option maxRecDepth 10000

end Go.AM.F

/- utf8.ValidString: what it answers. No conditions. -/
import Derived.Test.YtkcnnifgdhabgaaDoorAmSim
import Derived.Lib.ValidU
namespace Go.AM
open Go
def xValidString : List PV → Option (PV × List PV)
  | [.v (.string s)] => if s.size ≤ 9223372036854775807 then some (.v (.bool (Lib.validD s.data.toList)), [.dead]) else none
  | _ => none
theorem valid_run (s : ByteArray) (h : s.size ≤ 9223372036854775807) : xValidString [.v (.string s)] = some (.v (.bool (Lib.validD s.data.toList)), [.dead]) := by
  rw [xValidString, if_pos h]
end Go.AM

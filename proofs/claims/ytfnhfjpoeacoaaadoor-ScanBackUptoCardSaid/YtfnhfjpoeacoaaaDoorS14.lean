/- Every Name, every Blank. No conditions. -/
import Derived.Test.YtfnhfjpoeacoaaaDoorS13
namespace Go.AM.F
open Go Go.AM
set_option maxRecDepth 10000
set_option linter.unusedSimpArgs false
def nameAll (s : ByteArray) : Nat → Nat → Bool
  | 0, _ => true
  | n + 1, k => !noName s k && nameAll s n (k + 1)
def nameB (s : ByteArray) : Bool := decide (1 ≤ s.size ∧ s.size ≤ 64) && nameAll s s.size 0
def bR (b : Bool) : Option (Out × Env) := some (.ret, [(2, .v (.bool b))])
def blankAll (s : ByteArray) : Nat → Nat → Bool
  | 0, _ => true
  | n + 1, k => decide (ch s k = 35) || (decide (cls (ch s k) = 32) && blankAll s n (k + 1))
end Go.AM.F

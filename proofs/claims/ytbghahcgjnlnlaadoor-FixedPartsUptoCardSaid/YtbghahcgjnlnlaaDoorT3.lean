import Derived.Test.YtbghahcgjnlnlaaDoorT2
namespace Go.AM.F
open Go Go.AM
set_option maxRecDepth 10000

def In64 (v : Int) : Prop := -9223372036854775808 ≤ v ∧ v < 9223372036854775808
instance (v : Int) : Decidable (In64 v) := by unfold In64; infer_instance
def pos : List Int → Int
  | [] => 0
  | v :: r => (if v < 0 then 0 else v) + pos r
def neg : List Int → Int
  | [] => 0
  | v :: r => (if v < 0 then -v else 0) + neg r
/-- The sum, or that it is too great. -/
def sumSays (l : List Int) : PV := if In64 (pos l - neg l) then .tup [.v (.int .i64 (pos l - neg l)), .v (.int .i64 0)] else .tup [.v (.int .i64 0), .v (.int .i64 41)]
end Go.AM.F

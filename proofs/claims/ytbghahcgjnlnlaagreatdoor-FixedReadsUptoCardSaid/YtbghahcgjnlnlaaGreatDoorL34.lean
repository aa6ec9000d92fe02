/- Quotients in lowest terms. No conditions. -/
import Derived.Test.YtbghahcgjnlnlaaGreatDoorL28
import Derived.Test.YtbghahcgjnlnlaaGreatDoorL14
namespace Go.AM.F
open Go Go.AM
set_option maxRecDepth 10000
set_option linter.unusedSimpArgs false
/-- A quotient, owned; as it is handed in. -/
def rat (neg : Bool) (n d : Nat) : PV := .agg [.v (.bool neg), .own 1 (ul (limbs n)), .own 1 (ul (limbs d))]
def ratA (neg : Bool) (n d : List Nat) : PV := .agg [.v (.bool neg), .ro 1 (ul n), .ro 1 (ul d)]
def rightR (neg : Bool) (n d : Nat) : PV := if n = 0 then rat false 0 1 else rat neg (n / Nat.gcd n d) (d / Nat.gcd n d)
def overR (neg : Bool) (n d : Nat) : PV := if d = 0 then .tup [rat false 0 0, .v (.int .i64 11)] else .tup [rightR neg n d, .v (.int .i64 0)]
theorem nbits_eq_zero {v : Nat} : nbits v = 0 ↔ v = 0 := by
  constructor
  · intro h
    refine Classical.byContradiction fun h0 => ?_
    rw [nbits_pos h0] at h
    omega
  · rintro rfl; exact nbits_zero
end Go.AM.F

/- The document's division; greatest common divisors; every DivMod and Gcd. No conditions. -/
import Derived.Test.YtlokekpiajholaaDoorL26
namespace Go.AM.F
open Go Go.AM
set_option maxRecDepth 10000
set_option linter.unusedSimpArgs false
theorem shl_one_32 {r P : Nat} (hr : r < 32) (hP : 2 ^ r = P) : binInt .shl .u32 1 r = some (.int .u32 (P : Nat)) := by
  have h1 : ¬ (r : Int) < 0 := by omega
  have h2 : P < 4294967296 := by have := pow31 hr; omega
  rw [binInt_shl, if_neg h1, Int.toNat_natCast, show IntKind.u32.bits = 32 from rfl, Nat.min_eq_left (by omega), show (1 : Int) * 2 ^ r = ((2 ^ r : Nat) : Int) by simp, hP, u32_nat h2]
def rdE (x y q : List Nat) (R k : Nat) (x74 x79 x82 x83 : PV) : Env := [(7, .own 1 (ul x)), (8, .own 1 (ul y)), (9, .own 1 (ul q)), (12, .own 1 (ul (limbs R))), (13, .v (.int .i64 ((k : Int) - 1))), (15, .dead), (17, .dead), (23, .dead), (74, x74), (79, x79), (82, x82), (83, x83)]
end Go.AM.F

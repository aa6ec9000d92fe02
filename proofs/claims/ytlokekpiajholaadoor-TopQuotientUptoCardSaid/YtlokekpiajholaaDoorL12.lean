/- Every Add, Sub, Mul. No conditions. -/
import Derived.Test.YtlokekpiajholaaDoorL0
import Derived.Test.YtlokekpiajholaaDoorL11
namespace Go.AM.F
open Go Go.AM
set_option maxRecDepth 10000
set_option linter.unusedSimpArgs false
theorem limbs_add_len {a b : List Nat} (ha : Lim a) (hb : Lim b) : (limbs (val a + val b)).length ≤ a.length + b.length + 1 := by
  refine limbs_len_le ?_
  have h1 := val_lt ha
  have h2 := val_lt hb
  have h3 : 4294967296 ^ a.length ≤ 4294967296 ^ (a.length + b.length) := Nat.pow_le_pow_right (by omega) (by omega)
  have h4 : 4294967296 ^ b.length ≤ 4294967296 ^ (a.length + b.length) := Nat.pow_le_pow_right (by omega) (by omega)
  rw [Nat.pow_succ]
  omega
theorem limbs_mul_len {a b : List Nat} (ha : Lim a) (hb : Lim b) : (limbs (val a * val b)).length ≤ a.length + b.length := by
  refine limbs_len_le ?_
  rw [Nat.pow_add]
  exact Nat.mul_lt_mul_of_lt_of_le (val_lt ha) (Nat.le_of_lt (val_lt hb)) (Nat.pow_pos (by omega))
theorem limbs_sub_len {a b : List Nat} (ha : Lim a) : (limbs (val a - val b)).length ≤ a.length :=
  limbs_len_le (Nat.lt_of_le_of_lt (Nat.sub_le _ _) (val_lt ha))
end Go.AM.F

/- Greatest common divisors; every DivMod and Gcd. No conditions. -/
import Derived.Test.YtbghahcgjnlnlaaGreatDoorL27
namespace Go.AM.F
open Go Go.AM
set_option maxRecDepth 10000
set_option linter.unusedSimpArgs false
def gcE (a b : List Nat) (x6 x9 x11 x15 x18 x20 x22 x23 : PV) : Env := [(0, .own 1 (ul a)), (1, .own 1 (ul b)), (6, x6), (9, x9), (11, x11), (15, x15), (18, x18), (20, x20), (22, x22), (23, x23)]
def rgcE (a b : List Nat) (x8 x11 x13 x17 x20 x22 x24 x25 : PV) : Env := [(5, .own 1 (ul a)), (6, .own 1 (ul b)), (8, x8), (11, x11), (13, x13), (17, x17), (20, x20), (22, x22), (24, x24), (25, x25)]
theorem limbs_le {v : Nat} {l : List Nat} (hl : Lim l) (h : v ≤ val l) : (limbs v).length ≤ l.length := Nat.le_trans (limbs_mono h) (limbs_len hl)
theorem limbs_gcd_len {a b : List Nat} (ha : Lim a) (hb : Lim b) : (limbs (Nat.gcd (val a) (val b))).length ≤ a.length + b.length := by
  rcases Nat.eq_zero_or_pos (val a) with h | h
  · rw [h, Nat.gcd_zero_left]
    have := limbs_len hb
    omega
  · have := limbs_le ha (Nat.gcd_le_left (val b) h)
    omega
end Go.AM.F

/- Halves of double words; naturals of one word. No conditions. -/
import Derived.Test.YtlokekpiajholaaDoorL2
namespace Go.AM.F
open Go Go.AM
set_option maxRecDepth 10000
set_option linter.unusedSimpArgs false
attribute [local simp] b_limbs_low a_limbs_low b_limbs_high a_limbs_high b_limbs_From a_limbs_From b_bits_Sub32 a_bits_Sub32
theorem bv64 (x : Nat) (h : x < 18446744073709551616) : (BitVec.ofInt IntKind.u64.bits (x : Int)).toNat = x := by
  rw [BitVec.ofInt_natCast, BitVec.toNat_ofNat]
  exact Nat.mod_eq_of_lt h
theorem mask32 (x : Nat) (h : x < 18446744073709551616) : IntKind.u64.wrap (BitVec.ofInt IntKind.u64.bits (x : Int) &&& BitVec.ofInt IntKind.u64.bits 4294967295).toNat = ((x % 4294967296 : Nat) : Int) := by
  rw [BitVec.toNat_and, bv64 x h, show (BitVec.ofInt IntKind.u64.bits 4294967295).toNat = 2 ^ 32 - 1 from rfl, Nat.and_two_pow_sub_one_eq_mod]
  exact u64_nat (by omega)
theorem shr32 (x : Nat) : (x : Int).fdiv (2 ^ min (32 : Int).toNat IntKind.u64.bits) = ((x / 4294967296 : Nat) : Int) := by
  show (x : Int).fdiv 4294967296 = _
  rw [Int.fdiv_eq_ediv_of_nonneg _ (by decide)]
  rfl
theorem c_low (x : Nat) (h : x < 18446744073709551616) : Cinf T n_limbs_low [.v (.int .u64 x)] = some (.v (.int .u32 (x % 4294967296 : Nat)), [.dead]) := by
  have h1 := mask32 x h
  have h2 := u32_nat (k := x % 4294967296) (by omega)
  simp at h1 h2
  rw [run_limbs_low]
  simp [Run, h1, h2]
theorem c_high (x : Nat) : Cinf T n_limbs_high [.v (.int .u64 x)] = some (.v (.int .u64 (x / 4294967296 : Nat)), [.dead]) := by
  have h1 := shr32 x
  simp at h1
  rw [run_limbs_high]
  simp [Run, h1]
theorem two_lim (n : Nat) (h : n < 18446744073709551616) : Lim [n % 4294967296, n / 4294967296] := by
  intro x hx
  simp at hx
  omega
theorem two_val (n : Nat) : val [n % 4294967296, n / 4294967296] = n := by
  simp only [val]
  omega
theorem c_From (n : Nat) (h : n < 18446744073709551616) : Cinf T n_limbs_From [.v (.int .u64 n)] = some (.own 1 (ul (limbs n)), [.dead]) := by
  have h0 := c_trimO [n % 4294967296, n / 4294967296] (by simp)
  rw [← limbs_val (two_lim n h), two_val] at h0
  have h1 := c_low n h
  have h2 := c_high n
  have h3 := u32_nat (k := n / 4294967296) (by omega)
  simp at h0 h1 h2 h3
  rw [run_limbs_From]
  simp [Run, home, h0, h1, h2, h3]
end Go.AM.F

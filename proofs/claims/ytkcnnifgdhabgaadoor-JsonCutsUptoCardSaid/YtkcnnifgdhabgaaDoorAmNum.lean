/- Numbers in the abstract machine: simp rules of use everywhere. No conditions. -/
import Derived.Test.YtkcnnifgdhabgaaDoorAmSim
namespace Go.AM.F
open Go Go.AM

theorem wrap_i64 {v : Int} (h1 : -9223372036854775808 ≤ v) (h2 : v < 9223372036854775808) : IntKind.i64.wrap v = v := by
  simp only [IntKind.wrap, IntKind.signed, IntKind.bits]
  simp
  omega
theorem wrap_u64 {v : Int} (h1 : 0 ≤ v) (h2 : v < 18446744073709551616) : IntKind.u64.wrap v = v := by
  simp only [IntKind.wrap, IntKind.signed, IntKind.bits]
  simp
  omega
theorem wrap_u32 {v : Int} (h1 : 0 ≤ v) (h2 : v < 4294967296) : IntKind.u32.wrap v = v := by
  simp only [IntKind.wrap, IntKind.signed, IntKind.bits]
  simp
  omega
theorem wrap_u8 {v : Int} (h1 : 0 ≤ v) (h2 : v < 256) : IntKind.u8.wrap v = v := by
  simp only [IntKind.wrap, IntKind.signed, IntKind.bits]
  simp
  omega
theorem mod_u64 (n : Nat) : IntKind.u64.wrap (n : Int) = ((n % 18446744073709551616 : Nat) : Int) := by
  simp only [IntKind.wrap, IntKind.signed, IntKind.bits]
  simp
theorem mod_u32 (n : Nat) : IntKind.u32.wrap (n : Int) = ((n % 4294967296 : Nat) : Int) := by
  simp only [IntKind.wrap, IntKind.signed, IntKind.bits]
  simp
theorem wrap_succ {k n : Nat} (h : k < n) (hn : n < 4611686018427387904) : IntKind.i64.wrap ((k : Int) + 1) = (k : Int) + 1 := by rw [wrap_i64] <;> omega
theorem wrap_add {k : Nat} (j : Int) (hk : k ≤ 4611686018427387903) (h0 : -4611686018427387904 ≤ j := by decide) (h1 : j ≤ 4611686018427387904 := by decide) : IntKind.i64.wrap ((k : Int) + j) = (k : Int) + j := by rw [wrap_i64] <;> omega
theorem wrap_nat {k : Nat} (h : k ≤ 4611686018427387903) : IntKind.i64.wrap (k : Int) = k := by rw [wrap_i64] <;> omega
theorem u64_nat {k : Nat} (h : k < 18446744073709551616) : IntKind.u64.wrap (k : Int) = k := by rw [wrap_u64] <;> omega
theorem u32_nat {k : Nat} (h : k < 4294967296) : IntKind.u32.wrap (k : Int) = k := by rw [wrap_u32] <;> omega
theorem succ_cast (k : Nat) : ((k + 1 : Nat) : Int) = (k : Int) + 1 := Int.natCast_succ k
/-! Numbers that are no negative ones, against numerals -/
@[simp] theorem lit_eq (a n : Nat) : ((a : Int) = no_index (@OfNat.ofNat Int n instOfNat)) = (a = @OfNat.ofNat Nat n (instOfNatNat n)) := propext (Int.ofNat_inj (m := a) (n := n))
@[simp] theorem lit_lt (a n : Nat) : ((a : Int) < no_index (@OfNat.ofNat Int n instOfNat)) = (a < @OfNat.ofNat Nat n (instOfNatNat n)) := propext (Int.ofNat_lt (n := a) (m := n))
@[simp] theorem lit_le (a n : Nat) : ((a : Int) ≤ no_index (@OfNat.ofNat Int n instOfNat)) = (a ≤ @OfNat.ofNat Nat n (instOfNatNat n)) := propext (Int.ofNat_le (m := a) (n := n))
@[simp] theorem lit_lt' (a n : Nat) : (no_index (@OfNat.ofNat Int n instOfNat) < (a : Int)) = (@OfNat.ofNat Nat n (instOfNatNat n) < a) := propext (Int.ofNat_lt (n := n) (m := a))
@[simp] theorem lit_le' (a n : Nat) : (no_index (@OfNat.ofNat Int n instOfNat) ≤ (a : Int)) = (@OfNat.ofNat Nat n (instOfNatNat n) ≤ a) := propext (Int.ofNat_le (m := n) (n := a))
@[simp] theorem add_pos (a n : Nat) : (0 ≤ (a : Int) + no_index (@OfNat.ofNat Int n instOfNat)) = True := eq_true (by have : (0 : Int) ≤ @OfNat.ofNat Int n instOfNat := Int.natCast_nonneg n; omega)
@[simp] theorem add_lt (a b n : Nat) : ((a : Int) + no_index (@OfNat.ofNat Int n instOfNat) < (b : Int)) = (a + @OfNat.ofNat Nat n (instOfNatNat n) < b) := propext (Int.ofNat_lt (n := a + n) (m := b))
@[simp] theorem add_le (a b n : Nat) : ((a : Int) + no_index (@OfNat.ofNat Int n instOfNat) ≤ (b : Int)) = (a + @OfNat.ofNat Nat n (instOfNatNat n) ≤ b) := propext (Int.ofNat_le (m := a + n) (n := b))
@[simp] theorem add_lt' (a b n : Nat) : ((b : Int) < (a : Int) + no_index (@OfNat.ofNat Int n instOfNat)) = (b < a + @OfNat.ofNat Nat n (instOfNatNat n)) := propext (Int.ofNat_lt (n := b) (m := a + n))
@[simp] theorem add_le' (a b n : Nat) : ((b : Int) ≤ (a : Int) + no_index (@OfNat.ofNat Int n instOfNat)) = (b ≤ a + @OfNat.ofNat Nat n (instOfNatNat n)) := propext (Int.ofNat_le (m := b) (n := a + n))
@[simp] theorem i64_lit (n : Nat) (h : n < 9223372036854775808) : IntKind.i64.wrap (no_index (@OfNat.ofNat Int n instOfNat)) = @OfNat.ofNat Int n instOfNat := wrap_i64 (by have : (0 : Int) ≤ @OfNat.ofNat Int n instOfNat := Int.natCast_nonneg n; omega) (Int.ofNat_lt.2 h)
@[simp] theorem toNat_add (a n : Nat) : ((a : Int) + no_index (@OfNat.ofNat Int n instOfNat)).toNat = a + @OfNat.ofNat Nat n (instOfNatNat n) := Int.toNat_natCast (a + n)
end Go.AM.F

/- A natural's bits; naturals of one word. No conditions. -/
import Derived.Test.YtlokekpiajholaaDoorL14
namespace Go.AM.F
open Go Go.AM
set_option maxRecDepth 100000
set_option linter.unusedSimpArgs false
attribute [local simp] j0_limbs_Small j1_limbs_Small w0_limbs_Small j2_limbs_Small j3_limbs_Small b_limbs_Small a_limbs_Small
theorem testBit_val : ∀ {l : List Nat} (_ : Lim l) (n : Nat), (val l).testBit n = (at0 l (n / 32)).testBit (n % 32)
  | [], _, n => by simp [val, at0]
  | x :: r, h, n => by
    have h1 := testBit_val h.tail (n - 32)
    have h2 := h.head
    rw [val, Nat.add_comm, show 4294967296 = 2 ^ 32 from rfl, Nat.testBit_two_pow_mul_add _ h2]
    by_cases hn : n < 32
    · rw [if_pos hn, Nat.div_eq_of_lt hn, Nat.mod_eq_of_lt hn]
      simp [at0]
    · obtain ⟨m, rfl⟩ : ∃ m, n = m + 32 := ⟨n - 32, by omega⟩
      rw [if_neg hn, h1, Nat.add_sub_cancel, Nat.add_div_right _ (by decide), Nat.add_mod_right]
      simp [at0]
theorem shr_32 (x r : Nat) (hr : r ≤ 32) : binInt .shr .u32 x r = some (.int .u32 (x / 2 ^ r : Nat)) := by
  have h1 : ¬ (r : Int) < 0 := by omega
  rw [binInt_shr, if_neg h1, Int.toNat_natCast, show IntKind.u32.bits = 32 from rfl, Nat.min_eq_left hr, show (2 : Int) ^ r = ((2 ^ r : Nat) : Int) by simp, Int.fdiv_eq_ediv_of_nonneg _ (Int.natCast_nonneg _)]
  rfl
theorem and1_32 (y : Nat) (hy : y < 4294967296) : binInt .and .u32 y 1 = some (.int .u32 (y % 2 : Nat)) := and32 (y := 1) hy (by decide) (Nat.and_one_is_mod y) (by omega)
theorem tdiv_nat (n m : Nat) : (n : Int).tdiv m = ((n / m : Nat) : Int) := rfl
theorem tmod_nat (n m : Nat) : (n : Int).tmod m = ((n % m : Nat) : Int) := rfl
def bitV (l : List Nat) (k : Int) : Bool := decide (0 ≤ k) && (val l).testBit k.toNat
theorem or64 {x y e : Nat} (hx : x < 18446744073709551616) (hy : y < 18446744073709551616) (h : x ||| y = e) : binInt .or .u64 x y = some (.int .u64 (e : Nat)) := by
  have he : e < 18446744073709551616 := by rw [← h]; exact Nat.or_lt_two_pow (n := 64) hx hy
  rw [binInt_or, BitVec.toNat_or, bv64 x hx, bv64 y hy, h, u64_nat he]
theorem shl_64 (x r : Nat) (hr : r ≤ 64) (hx : x * 2 ^ r < 18446744073709551616) : binInt .shl .u64 x r = some (.int .u64 (x * 2 ^ r : Nat)) := by
  have h1 : ¬ (r : Int) < 0 := by omega
  rw [binInt_shl, if_neg h1, Int.toNat_natCast, show IntKind.u64.bits = 64 from rfl, Nat.min_eq_left hr, show (x : Int) * 2 ^ r = ((x * 2 ^ r : Nat) : Int) by simp, u64_nat hx]
theorem shl32_64 (x : Nat) (hx : x < 4294967296) : binInt .shl .u64 x 32 = some (.int .u64 (x * 4294967296 : Nat)) := shl_64 x 32 (by decide) (by omega)
theorem shl0_64 (x : Nat) (hx : x < 4294967296) : binInt .shl .u64 x 0 = some (.int .u64 (x : Nat)) := by
  have := shl_64 x 0 (by decide) (by omega)
  rw [Nat.pow_zero, Nat.mul_one] at this
  exact this
theorem or_high {x y : Nat} (hx : x < 4294967296) : x ||| y * 4294967296 = x + y * 4294967296 := by
  have := Nat.two_pow_add_eq_or_of_lt (i := 32) hx y
  rw [Nat.or_comm, Nat.mul_comm, ← this, Nat.add_comm]
theorem wrapM1 : IntKind.i64.wrap (-1) = -1 := by decide
theorem wrapU0 : IntKind.u64.wrap 0 = 0 := by decide
def smallR (v : Nat) : Option (PV × List PV) := if (limbs v).length ≤ 2 then some (.tup [.v (.int .u64 (v : Nat)), .v (.bool true)], [.dead]) else some (.tup [.v (.int .u64 (0 : Nat)), .v (.bool false)], [.dead])
theorem limbs_two {v : Nat} (h : (limbs v).length ≤ 2) : limbs v = [] ∧ v = 0 ∨ (∃ x, limbs v = [x] ∧ v = x ∧ x < 4294967296) ∨ (∃ x y, limbs v = [x, y] ∧ v = x + y * 4294967296 ∧ x < 4294967296 ∧ y < 4294967296) := by
  have hl := limbs_lim v
  have hv := val_limbs v
  match hm : limbs v with
  | [] =>
    rw [hm] at hv
    exact .inl ⟨rfl, hv.symm⟩
  | [x] =>
    rw [hm] at hv hl
    simp only [val] at hv
    exact .inr (.inl ⟨x, rfl, by omega, hl x (by simp)⟩)
  | [x, y] =>
    rw [hm] at hv hl
    simp only [val] at hv
    exact .inr (.inr ⟨x, y, rfl, by omega, hl x (by simp), hl y (by simp)⟩)
  | x :: y :: z :: r => rw [hm] at h; simp at h
theorem c_Small (l : List Nat) (h : Fit l) : Cinf T n_limbs_Small [.ro 1 (ul l)] = smallR (val l) := by
  have h0 := c_trim l h.2
  have hlen := limbs_len h.1
  have hl := h.2
  rw [← limbs_val h.1] at h0
  rw [run_limbs_Small]
  unfold smallR
  by_cases hs : (limbs (val l)).length ≤ 2
  · rw [if_pos hs]
    rcases limbs_two hs with ⟨hm, hv⟩ | ⟨x, hm, hv, hx⟩ | ⟨x, y, hm, hv, hx, hy⟩
    · rw [hm] at h0
      rw [hv]
      have l0 : Exec T l0_limbs_Small [(0, .ro 1 (ul [])), (4, .v (.int .u64 0)), (7, .ro 1 (ul [])), (12, .v (.int .i64 0)), (13, .v (.int .i64 0))] = some (.exit 0, [(0, .ro 1 (ul [])), (4, .v (.int .u64 0)), (7, .ro 1 (ul [])), (12, .v (.int .i64 0)), (13, .v (.int .i64 0))]) := by
        rw [ex0_limbs_Small]
        simp
      simp at h0 l0
      simp [Run, h0, l0]
    · rw [hm] at h0
      have q1 := shl0_64 x hx
      have q2 : binInt .or .u64 0 x = some (.int .u64 x) := or64 (x := 0) (y := x) (by decide) (by omega) (Nat.zero_or x)
      have w1 := u64_nat (k := x) (by omega)
      have l1 : Exec T l0_limbs_Small [(0, .ro 1 (ul [x])), (4, .v (.int .u64 x)), (7, .ro 1 (ul [x])), (12, .v (.int .i64 1)), (13, .v (.int .i64 1))] = some (.exit 0, [(0, .ro 1 (ul [x])), (4, .v (.int .u64 x)), (7, .ro 1 (ul [x])), (12, .v (.int .i64 1)), (13, .v (.int .i64 1))]) := by
        rw [ex0_limbs_Small]
        simp
      have l0 : Exec T l0_limbs_Small [(0, .ro 1 (ul [x])), (4, .v (.int .u64 0)), (7, .ro 1 (ul [x])), (12, .v (.int .i64 1)), (13, .v (.int .i64 0))] = some (.exit 0, [(0, .ro 1 (ul [x])), (4, .v (.int .u64 x)), (7, .ro 1 (ul [x])), (12, .v (.int .i64 1)), (13, .v (.int .i64 1))]) := by
        rw [ex0_limbs_Small, ← l1]
        simp [-binInt_shl, -binInt_or, q1, q2, w1]
      rw [hv]
      simp at h0 l0
      simp [Run, h0, l0]
    · rw [hm] at h0
      have q1 := shl0_64 x hx
      have q2 : binInt .or .u64 0 x = some (.int .u64 x) := or64 (x := 0) (y := x) (by decide) (by omega) (Nat.zero_or x)
      have q3 := shl32_64 y hy
      obtain ⟨z, hz⟩ : ∃ z, y * 4294967296 = z := ⟨_, rfl⟩
      have q4 := or64 (x := x) (y := z) (e := x + y * 4294967296) (by omega) (by omega) (by rw [← hz]; exact or_high hx)
      rw [← hv] at q4
      rw [hz] at q3
      have w1 := u64_nat (k := x) (by omega)
      have w2 := u64_nat (k := y) (by omega)
      generalize val l = v at *
      have l2 : Exec T l0_limbs_Small [(0, .ro 1 (ul [x, y])), (4, .v (.int .u64 v)), (7, .ro 1 (ul [x, y])), (12, .v (.int .i64 2)), (13, .v (.int .i64 2))] = some (.exit 0, [(0, .ro 1 (ul [x, y])), (4, .v (.int .u64 v)), (7, .ro 1 (ul [x, y])), (12, .v (.int .i64 2)), (13, .v (.int .i64 2))]) := by
        rw [ex0_limbs_Small]
        simp
      have l1 : Exec T l0_limbs_Small [(0, .ro 1 (ul [x, y])), (4, .v (.int .u64 x)), (7, .ro 1 (ul [x, y])), (12, .v (.int .i64 2)), (13, .v (.int .i64 1))] = some (.exit 0, [(0, .ro 1 (ul [x, y])), (4, .v (.int .u64 v)), (7, .ro 1 (ul [x, y])), (12, .v (.int .i64 2)), (13, .v (.int .i64 2))]) := by
        rw [ex0_limbs_Small, ← l2]
        simp [-binInt_shl, -binInt_or, q3, q4, w2]
      have l0 : Exec T l0_limbs_Small [(0, .ro 1 (ul [x, y])), (4, .v (.int .u64 0)), (7, .ro 1 (ul [x, y])), (12, .v (.int .i64 2)), (13, .v (.int .i64 0))] = some (.exit 0, [(0, .ro 1 (ul [x, y])), (4, .v (.int .u64 v)), (7, .ro 1 (ul [x, y])), (12, .v (.int .i64 2)), (13, .v (.int .i64 2))]) := by
        rw [ex0_limbs_Small, ← l1]
        simp [-binInt_shl, -binInt_or, q1, q2, w1]
      simp at h0 l0
      simp [Run, h0, l0]
  · rw [if_neg hs]
    have hn : 2 < (limbs (val l)).length := by omega
    simp [Run, h0, hn]
end Go.AM.F

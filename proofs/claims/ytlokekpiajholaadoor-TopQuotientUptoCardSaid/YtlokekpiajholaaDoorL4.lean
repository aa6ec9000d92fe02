/- A difference of words with its borrow. No conditions. -/
import Derived.Test.YtlokekpiajholaaDoorL3
namespace Go.AM.F
open Go Go.AM
set_option maxRecDepth 10000
set_option linter.unusedSimpArgs false
attribute [local simp] b_bits_Sub32 a_bits_Sub32
theorem m32 {a : Nat} (h : a < 4294967296) : a % 2 ^ IntKind.u32.bits = a := Nat.mod_eq_of_lt h
theorem and_u32 {a b : Nat} (ha : a < 4294967296) (hb : b < 4294967296) : IntKind.u32.wrap ((a % 2 ^ IntKind.u32.bits &&& b % 2 ^ IntKind.u32.bits : Nat) : Int) = ((a &&& b : Nat) : Int) := by
  rw [m32 ha, m32 hb]
  exact u32_nat (Nat.lt_of_le_of_lt Nat.and_le_left ha)
theorem or_u32 {a b : Nat} (ha : a < 4294967296) (hb : b < 4294967296) : IntKind.u32.wrap ((a % 2 ^ IntKind.u32.bits ||| b % 2 ^ IntKind.u32.bits : Nat) : Int) = ((a ||| b : Nat) : Int) := by
  rw [m32 ha, m32 hb]
  exact u32_nat (Nat.or_lt_two_pow (n := 32) ha hb)
theorem xor_u32 {a b : Nat} (ha : a < 4294967296) (hb : b < 4294967296) : IntKind.u32.wrap ((a % 2 ^ IntKind.u32.bits ^^^ b % 2 ^ IntKind.u32.bits : Nat) : Int) = ((a ^^^ b : Nat) : Int) := by
  rw [m32 ha, m32 hb]
  exact u32_nat (Nat.xor_lt_two_pow (n := 32) ha hb)
theorem not_u32 {a : Nat} (ha : a < 4294967296) : IntKind.u32.wrap ((4294967295 % 2 ^ IntKind.u32.bits ^^^ a % 2 ^ IntKind.u32.bits : Nat) : Int) = ((4294967295 ^^^ a : Nat) : Int) := xor_u32 (by decide) ha
theorem top32 {a : Nat} (ha : a < 4294967296) : a / 2147483648 = (a.testBit 31).toNat := by
  rw [Nat.testBit_eq_decide_div_mod_eq, show (2 : Nat) ^ 31 = 2147483648 from rfl]
  by_cases h : a < 2147483648
  · rw [Nat.div_eq_of_lt h]; rfl
  · have : a / 2147483648 = 1 := by omega
    rw [this]; rfl
theorem bit31 {a : Nat} (ha : a < 4294967296) : a.testBit 31 = decide (2147483648 ≤ a) := by
  have := top32 ha
  cases h : a.testBit 31 with
  | true => rw [h] at this; simp at this ⊢; omega
  | false => rw [h] at this; simp at this ⊢; omega
theorem borrow32 {x y b d : Nat} (hx : x < 4294967296) (hy : y < 4294967296) (hb : b ≤ 1) (hd : d = (x + 8589934592 - y - b) % 4294967296) :
    (((4294967295 ^^^ x) &&& y) ||| ((4294967295 ^^^ (x ^^^ y)) &&& d)) / 2147483648 = if x < y + b then 1 else 0 := by
  have hd2 : d < 4294967296 := by omega
  have n1 : 4294967295 ^^^ x < 4294967296 := Nat.xor_lt_two_pow (n := 32) (by decide) hx
  have n2 : x ^^^ y < 4294967296 := Nat.xor_lt_two_pow (n := 32) hx hy
  have n3 : 4294967295 ^^^ (x ^^^ y) < 4294967296 := Nat.xor_lt_two_pow (n := 32) (by decide) n2
  have n4 : (4294967295 ^^^ x) &&& y < 4294967296 := Nat.lt_of_le_of_lt Nat.and_le_left n1
  have n5 : (4294967295 ^^^ (x ^^^ y)) &&& d < 4294967296 := Nat.lt_of_le_of_lt Nat.and_le_left n3
  rw [top32 (Nat.or_lt_two_pow (n := 32) n4 n5)]
  simp only [Nat.testBit_or, Nat.testBit_and, Nat.testBit_xor, bit31 hx, bit31 hy, bit31 hd2, bit31 (show 4294967295 < 4294967296 by decide)]
  by_cases h1 : 2147483648 ≤ x <;> by_cases h2 : 2147483648 ≤ y <;> by_cases h3 : 2147483648 ≤ d <;> simp [h1, h2, h3] <;> omega
theorem shr31 (z : Nat) : (z : Int).fdiv (2 ^ min 31 IntKind.u32.bits) = ((z / 2147483648 : Nat) : Int) := by
  show (z : Int).fdiv 2147483648 = _
  rw [Int.fdiv_eq_ediv_of_nonneg _ (by decide)]
  rfl
theorem max32 : (IntKind.u32.max % 2 ^ IntKind.u32.bits).toNat = 4294967295 := by decide
theorem un_xor32 {x e : Nat} (hx : x < 4294967296) (h : 4294967295 ^^^ x = e) (n : e < 4294967296) : un .xor (.v (.int .u32 (x : Nat))) = some (.v (.int .u32 (e : Nat))) := by
  have hsg : IntKind.u32.signed = false := rfl
  have m0 := m32 (a := 4294967295) (by decide)
  simp [-Nat.reducePow, un, hsg, max32, m0, m32 hx, h, u32_nat n]
theorem and32 {x y e : Nat} (hx : x < 4294967296) (hy : y < 4294967296) (h : x &&& y = e) (n : e < 4294967296) : binInt .and .u32 x y = some (.int .u32 (e : Nat)) := by
  simp [-Nat.reducePow, m32 hx, m32 hy, h, u32_nat n]
theorem or32 {x y e : Nat} (hx : x < 4294967296) (hy : y < 4294967296) (h : x ||| y = e) (n : e < 4294967296) : binInt .or .u32 x y = some (.int .u32 (e : Nat)) := by
  simp [-Nat.reducePow, m32 hx, m32 hy, h, u32_nat n]
theorem xor32 {x y e : Nat} (hx : x < 4294967296) (hy : y < 4294967296) (h : x ^^^ y = e) (n : e < 4294967296) : binInt .xor .u32 x y = some (.int .u32 (e : Nat)) := by
  simp [-Nat.reducePow, m32 hx, m32 hy, h, u32_nat n]
theorem shr31_32 (x : Nat) : binInt .shr .u32 x 31 = some (.int .u32 (x / 2147483648 : Nat)) := by
  simp [-Nat.reducePow, shr31]
theorem sub32_core (x y b d c : Nat) (hx : x < 4294967296) (hy : y < 4294967296) (hd2 : d < 4294967296) (t1 : Int) (ht1 : IntKind.u32.wrap ((x : Int) - y) = t1) (ht2 : IntKind.u32.wrap (t1 - b) = d)
    (hk : (((4294967295 ^^^ x) &&& y) ||| ((4294967295 ^^^ (x ^^^ y)) &&& d)) / 2147483648 = c) : Cinf T n_bits_Sub32 [.v (.int .u32 x), .v (.int .u32 y), .v (.int .u32 b)] = some (.tup [.v (.int .u32 (d : Nat)), .v (.int .u32 (c : Nat))], [.dead, .dead, .dead]) := by
  have n1 : 4294967295 ^^^ x < 4294967296 := Nat.xor_lt_two_pow (n := 32) (by decide) hx
  have n2 : x ^^^ y < 4294967296 := Nat.xor_lt_two_pow (n := 32) hx hy
  have n3 : 4294967295 ^^^ (x ^^^ y) < 4294967296 := Nat.xor_lt_two_pow (n := 32) (by decide) n2
  have n4 : (4294967295 ^^^ x) &&& y < 4294967296 := Nat.lt_of_le_of_lt Nat.and_le_left n1
  have n5 : (4294967295 ^^^ (x ^^^ y)) &&& d < 4294967296 := Nat.lt_of_le_of_lt Nat.and_le_left n3
  have n6 := Nat.or_lt_two_pow (n := 32) n4 n5
  obtain ⟨e2, h2⟩ : ∃ e, x ^^^ y = e := ⟨_, rfl⟩
  rw [h2] at hk n2 n3 n5 n6
  obtain ⟨e1, h1⟩ : ∃ e, 4294967295 ^^^ x = e := ⟨_, rfl⟩
  rw [h1] at hk n1 n4 n6
  obtain ⟨e3, h3⟩ : ∃ e, 4294967295 ^^^ e2 = e := ⟨_, rfl⟩
  rw [h3] at hk n3 n5 n6
  obtain ⟨e4, h4⟩ : ∃ e, e1 &&& y = e := ⟨_, rfl⟩
  rw [h4] at hk n4 n6
  obtain ⟨e5, h5⟩ : ∃ e, e3 &&& d = e := ⟨_, rfl⟩
  rw [h5] at hk n5 n6
  obtain ⟨e6, h6⟩ : ∃ e, e4 ||| e5 = e := ⟨_, rfl⟩
  rw [h6] at hk n6
  have q1 := un_xor32 hx h1 n1
  have q2 := and32 n1 hy h4 n4
  have q3 := xor32 hx hy h2 n2
  have q4 := un_xor32 n2 h3 n3
  have q5 := and32 n3 hd2 h5 n5
  have q6 := or32 n4 n5 h6 n6
  have q7 := shr31_32 e6
  rw [hk] at q7
  clear h1 h2 h3 h4 h5 h6 n1 n2 n3 n4 n5 n6
  rw [run_bits_Sub32]
  simp [-un, -binInt_and, -binInt_or, -binInt_xor, -binInt_shr, Run, ht1, ht2, q1, q2, q3, q4, q5, q6, q7]
theorem c_Sub32 (x y b : Nat) (hx : x < 4294967296) (hy : y < 4294967296) (hb : b ≤ 1) : Cinf T n_bits_Sub32 [.v (.int .u32 x), .v (.int .u32 y), .v (.int .u32 b)] =
    some (.tup [.v (.int .u32 ((x + 8589934592 - y - b) % 4294967296 : Nat)), .v (.int .u32 (if x < y + b then 1 else 0 : Nat))], [.dead, .dead, .dead]) :=
  sub32_core x y b _ _ hx hy (by omega) _ rfl (by
    simp only [IntKind.wrap, IntKind.signed, IntKind.bits]
    simp
    omega) (borrow32 hx hy hb rfl)
end Go.AM.F

/- How many bits a natural has. No conditions. -/
import Derived.Test.YtlokekpiajholaaDoorL13
namespace Go.AM.F
open Go Go.AM
set_option maxRecDepth 100000
set_option linter.unusedSimpArgs false
attribute [local simp] j0_bits_Len32 j1_bits_Len32 b_bits_Len32 a_bits_Len32
attribute [local simp] j0_limbs_Len b_limbs_Len a_limbs_Len
theorem shr8_32 (z : Nat) : (z : Int).fdiv (2 ^ min 8 IntKind.u32.bits) = ((z / 256 : Nat) : Int) := by
  show (z : Int).fdiv 256 = _
  rw [Int.fdiv_eq_ediv_of_nonneg _ (by decide)]
  rfl
theorem shr16_32 (z : Nat) : (z : Int).fdiv (2 ^ min 16 IntKind.u32.bits) = ((z / 65536 : Nat) : Int) := by
  show (z : Int).fdiv 65536 = _
  rw [Int.fdiv_eq_ediv_of_nonneg _ (by decide)]
  rfl
theorem shr1_32 (z : Nat) : (z : Int).fdiv (2 ^ min 1 IntKind.u32.bits) = ((z / 2 : Nat) : Int) := by
  show (z : Int).fdiv 2 = _
  rw [Int.fdiv_eq_ediv_of_nonneg _ (by decide)]
  rfl
theorem u8_nat {k : Nat} (h : k < 256) : IntKind.u8.wrap (k : Int) = k := by rw [wrap_u8] <;> omega
theorem bitTab_size : ByteArray.size { data := #[0, 1, 2, 2, 3, 3, 3, 3, 4, 4, 4, 4, 4, 4, 4, 4, 5, 5, 5, 5, 5, 5, 5, 5, 5, 5, 5, 5, 5, 5, 5, 5, 6, 6, 6, 6, 6, 6, 6, 6, 6, 6, 6, 6, 6, 6, 6, 6, 6, 6, 6, 6, 6, 6, 6, 6, 6, 6, 6, 6, 6, 6, 6, 6, 7, 7, 7, 7, 7, 7, 7, 7, 7, 7, 7, 7, 7, 7, 7, 7, 7, 7, 7, 7, 7, 7, 7, 7, 7, 7, 7, 7, 7, 7, 7, 7, 7, 7, 7, 7, 7, 7, 7, 7, 7, 7, 7, 7, 7, 7, 7, 7, 7, 7, 7, 7, 7, 7, 7, 7, 7, 7, 7, 7, 7, 7, 7, 7, 8, 8, 8, 8, 8, 8, 8, 8, 8, 8, 8, 8, 8, 8, 8, 8, 8, 8, 8, 8, 8, 8, 8, 8, 8, 8, 8, 8, 8, 8, 8, 8, 8, 8, 8, 8, 8, 8, 8, 8, 8, 8, 8, 8, 8, 8, 8, 8, 8, 8, 8, 8, 8, 8, 8, 8, 8, 8, 8, 8, 8, 8, 8, 8, 8, 8, 8, 8, 8, 8, 8, 8, 8, 8, 8, 8, 8, 8, 8, 8, 8, 8, 8, 8, 8, 8, 8, 8, 8, 8, 8, 8, 8, 8, 8, 8, 8, 8, 8, 8, 8, 8, 8, 8, 8, 8, 8, 8, 8, 8, 8, 8, 8, 8, 8, 8, 8, 8, 8, 8, 8, 8, 8, 8, 8, 8, 8, 8] } = 256 := by rfl
theorem c_Len32 (x : Nat) (hx : x < 4294967296) : Cinf T n_bits_Len32 [.v (.int .u32 x)] = some (.v (.int .i64 (nbits x : Nat)), [.dead]) := by
  rw [run_bits_Len32]
  obtain ⟨y, hy⟩ : ∃ y, x / 65536 = y := ⟨_, rfl⟩
  have q16 := shr16_32 x
  rw [hy] at q16
  by_cases h1 : x < 65536
  · have g1 : ¬ 65536 ≤ x := by omega
    by_cases h2 : x < 256
    · have g2 : ¬ 256 ≤ x := by omega
      have := nbits_le (k := 8) h2
      have w1 := wrap_nat (k := nbits x) (by omega)
      have w2 := u8_nat (k := x) (by omega)
      simp [Run, g1, g2, h2, w1, w2, bitTab_size, bitTab_get]
    · have g2 : 256 ≤ x := by omega
      obtain ⟨z, hz⟩ : ∃ z, x / 256 = z := ⟨_, rfl⟩
      have q8 := shr8_32 x
      rw [hz] at q8
      have hz2 : z < 256 := by omega
      have := nbits_le (k := 8) hz2
      have w1 := wrap_nat (k := nbits z) (by omega)
      have w2 := u8_nat (k := z) (by omega)
      have hn := nbits_shift (k := 8) (n := x) (by omega)
      rw [show (2 : Nat) ^ 8 = 256 from rfl, hz] at hn
      have w3 : IntKind.i64.wrap (8 + (nbits z : Int)) = (nbits x : Nat) := by rw [hn, wrap_i64] <;> omega
      simp [Run, g1, g2, hz2, w1, w2, w3, bitTab_size, bitTab_get, q8]
  · have g1 : 65536 ≤ x := by omega
    have hn := nbits_shift (k := 16) (n := x) (by omega)
    rw [show (2 : Nat) ^ 16 = 65536 from rfl, hy] at hn
    by_cases h2 : y < 256
    · have g2 : ¬ 256 ≤ y := by omega
      have := nbits_le (k := 8) h2
      have w1 := wrap_nat (k := nbits y) (by omega)
      have w2 := u8_nat (k := y) (by omega)
      have w3 : IntKind.i64.wrap (16 + (nbits y : Int)) = (nbits x : Nat) := by rw [hn, wrap_i64] <;> omega
      simp [Run, g1, g2, h2, w1, w2, w3, bitTab_size, bitTab_get, q16]
    · have g2 : 256 ≤ y := by omega
      obtain ⟨z, hz⟩ : ∃ z, y / 256 = z := ⟨_, rfl⟩
      have q8 := shr8_32 y
      rw [hz] at q8
      have hz2 : z < 256 := by omega
      have := nbits_le (k := 8) hz2
      have w1 := wrap_nat (k := nbits z) (by omega)
      have w2 := u8_nat (k := z) (by omega)
      have hn2 := nbits_shift (k := 8) (n := y) (by omega)
      rw [show (2 : Nat) ^ 8 = 256 from rfl, hz] at hn2
      have w3 : IntKind.i64.wrap (24 + (nbits z : Int)) = (nbits x : Nat) := by rw [hn, hn2, wrap_i64] <;> omega
      simp [Run, g1, g2, hz2, w1, w2, w3, bitTab_size, bitTab_get, q8, q16]
/-- The highest limb says how many bits there are. -/
theorem limbs_top : ∀ {v : Nat}, v ≠ 0 → ∃ (n x : Nat) (h : n < (limbs v).length), (limbs v).length = n + 1 ∧ (limbs v)[n] = x ∧ x < 4294967296 ∧ x ≠ 0 ∧ nbits v = 32 * n + nbits x := by
  intro v
  induction v using Nat.strongRecOn with
  | _ v ih =>
    intro hv
    by_cases hs : v < 4294967296
    · have hm : limbs v = [v] := by rw [limbs_pos hv, Nat.div_eq_of_lt hs, limbs_zero, Nat.mod_eq_of_lt hs]
      refine ⟨0, v, by simp [hm], by simp [hm], by simp [hm], hs, hv, by omega⟩
    · obtain ⟨n, x, h, h1, h2, h3, h4, h5⟩ := ih (v / 4294967296) (by omega) (by omega)
      have hm := limbs_pos hv
      refine ⟨n + 1, x, by rw [hm]; simp; omega, by rw [hm]; simp; omega, ?_, h3, h4, ?_⟩
      · simp only [hm, List.getElem_cons_succ]
        exact h2
      · have := nbits_shift (k := 32) (n := v) (by omega)
        rw [show (2 : Nat) ^ 32 = 4294967296 from rfl, h5] at this
        omega
theorem c_Len (l : List Nat) (h : Fit l) : Cinf T n_limbs_Len [.ro 1 (ul l)] = some (.v (.int .i64 (nbits (val l) : Nat)), [.dead]) := by
  have h0 := c_trim l h.2
  have hlen := limbs_len h.1
  have hl := h.2
  rw [← limbs_val h.1] at h0
  rw [run_limbs_Len]
  by_cases hv : val l = 0
  · rw [hv, limbs_zero] at h0
    simp at h0
    simp [Run, h0, hv, nbits_zero]
  · obtain ⟨n, x, h1, h2, h3, h4, h5, h6⟩ := limbs_top hv
    have hb := nbits_le (k := 32) h4
    have hc := c_Len32 x h4
    generalize limbs (val l) = m at *
    have w1 : IntKind.i64.wrap (32 * (n : Int)) = 32 * n := by rw [wrap_i64] <;> omega
    have w2 : IntKind.i64.wrap (32 * (n : Int) + nbits x) = (nbits (val l) : Nat) := by rw [wrap_i64, h6] <;> omega
    have w3 := wrap_nat (k := n) (by omega)
    have hn : ¬ (n : Int) + 1 = 0 := by omega
    simp [Run, h0, hn, h2, w1, w2, w3, h3, hc]
end Go.AM.F

/- How many bits a natural has. No conditions. -/
import Derived.Test.YtfkgoofipbbhpaaDoorL13
namespace Go.AM.F
open Go Go.AM
set_option maxRecDepth 100000
set_option linter.unusedSimpArgs false
attribute [local simp] j0_bits_Len32 j1_bits_Len32 b_bits_Len32 a_bits_Len32
attribute [local simp] j0_thicketref01_Len j1_thicketref01_Len w0_thicketref01_Len j2_thicketref01_Len j3_thicketref01_Len b_thicketref01_Len a_thicketref01_Len
theorem shr8_32 (z : Nat) : (z : Int).fdiv (2 ^ min 8 IntKind.u32.bits) = ((z / 256 : Nat) : Int) := by
  show (z : Int).fdiv 256 = _
  rw [Int.fdiv_eq_ediv_of_nonneg _ (by decide)]
  rfl
theorem shr16_32 (z : Nat) : (z : Int).fdiv (2 ^ min 16 IntKind.u32.bits) = ((z / 65536 : Nat) : Int) := by
  show (z : Int).fdiv 65536 = _
  rw [Int.fdiv_eq_ediv_of_nonneg _ (by decide)]
  rfl
theorem shr1_32 (z : Nat) : (z : Int).fdiv (2 ^ min 1 IntKind.u32.bits) = ((z / 2 : Nat) : Int) := by
  show (z : Int).fdiv 2 = _
  rw [Int.fdiv_eq_ediv_of_nonneg _ (by decide)]
  rfl
theorem u8_nat {k : Nat} (h : k < 256) : IntKind.u8.wrap (k : Int) = k := by rw [wrap_u8] <;> omega
theorem bitTab_size : ByteArray.size { data := #[0, 1, 2, 2, 3, 3, 3, 3, 4, 4, 4, 4, 4, 4, 4, 4, 5, 5, 5, 5, 5, 5, 5, 5, 5, 5, 5, 5, 5, 5, 5, 5, 6, 6, 6, 6, 6, 6, 6, 6, 6, 6, 6, 6, 6, 6, 6, 6, 6, 6, 6, 6, 6, 6, 6, 6, 6, 6, 6, 6, 6, 6, 6, 6, 7, 7, 7, 7, 7, 7, 7, 7, 7, 7, 7, 7, 7, 7, 7, 7, 7, 7, 7, 7, 7, 7, 7, 7, 7, 7, 7, 7, 7, 7, 7, 7, 7, 7, 7, 7, 7, 7, 7, 7, 7, 7, 7, 7, 7, 7, 7, 7, 7, 7, 7, 7, 7, 7, 7, 7, 7, 7, 7, 7, 7, 7, 7, 7, 8, 8, 8, 8, 8, 8, 8, 8, 8, 8, 8, 8, 8, 8, 8, 8, 8, 8, 8, 8, 8, 8, 8, 8, 8, 8, 8, 8, 8, 8, 8, 8, 8, 8, 8, 8, 8, 8, 8, 8, 8, 8, 8, 8, 8, 8, 8, 8, 8, 8, 8, 8, 8, 8, 8, 8, 8, 8, 8, 8, 8, 8, 8, 8, 8, 8, 8, 8, 8, 8, 8, 8, 8, 8, 8, 8, 8, 8, 8, 8, 8, 8, 8, 8, 8, 8, 8, 8, 8, 8, 8, 8, 8, 8, 8, 8, 8, 8, 8, 8, 8, 8, 8, 8, 8, 8, 8, 8, 8, 8, 8, 8, 8, 8, 8, 8, 8, 8, 8, 8, 8, 8, 8, 8, 8, 8, 8, 8] } = 256 := by rfl
theorem c_Len32 (x : Nat) (hx : x < 4294967296) : Cinf T n_bits_Len32 [.v (.int .u32 x)] = some (.v (.int .i64 (nbits x : Nat)), [.dead]) := by
  rw [run_bits_Len32]
  obtain ⟨y, hy⟩ : ∃ y, x / 65536 = y := ⟨_, rfl⟩
  have q16 := shr16_32 x
  rw [hy] at q16
  by_cases h1 : x < 65536
  · have g1 : ¬ 65536 ≤ x := by omega
    by_cases h2 : x < 256
    · have g2 : ¬ 256 ≤ x := by omega
      have := nbits_le (k := 8) h2
      have w1 := wrap_nat (k := nbits x) (by omega)
      have w2 := u8_nat (k := x) (by omega)
      simp [Run, g1, g2, h2, w1, w2, bitTab_size, bitTab_get]
    · have g2 : 256 ≤ x := by omega
      obtain ⟨z, hz⟩ : ∃ z, x / 256 = z := ⟨_, rfl⟩
      have q8 := shr8_32 x
      rw [hz] at q8
      have hz2 : z < 256 := by omega
      have := nbits_le (k := 8) hz2
      have w1 := wrap_nat (k := nbits z) (by omega)
      have w2 := u8_nat (k := z) (by omega)
      have hn := nbits_shift (k := 8) (n := x) (by omega)
      rw [show (2 : Nat) ^ 8 = 256 from rfl, hz] at hn
      have w3 : IntKind.i64.wrap (8 + (nbits z : Int)) = (nbits x : Nat) := by rw [hn, wrap_i64] <;> omega
      simp [Run, g1, g2, hz2, w1, w2, w3, bitTab_size, bitTab_get, q8]
  · have g1 : 65536 ≤ x := by omega
    have hn := nbits_shift (k := 16) (n := x) (by omega)
    rw [show (2 : Nat) ^ 16 = 65536 from rfl, hy] at hn
    by_cases h2 : y < 256
    · have g2 : ¬ 256 ≤ y := by omega
      have := nbits_le (k := 8) h2
      have w1 := wrap_nat (k := nbits y) (by omega)
      have w2 := u8_nat (k := y) (by omega)
      have w3 : IntKind.i64.wrap (16 + (nbits y : Int)) = (nbits x : Nat) := by rw [hn, wrap_i64] <;> omega
      simp [Run, g1, g2, h2, w1, w2, w3, bitTab_size, bitTab_get, q16]
    · have g2 : 256 ≤ y := by omega
      obtain ⟨z, hz⟩ : ∃ z, y / 256 = z := ⟨_, rfl⟩
      have q8 := shr8_32 y
      rw [hz] at q8
      have hz2 : z < 256 := by omega
      have := nbits_le (k := 8) hz2
      have w1 := wrap_nat (k := nbits z) (by omega)
      have w2 := u8_nat (k := z) (by omega)
      have hn2 := nbits_shift (k := 8) (n := y) (by omega)
      rw [show (2 : Nat) ^ 8 = 256 from rfl, hz] at hn2
      have w3 : IntKind.i64.wrap (24 + (nbits z : Int)) = (nbits x : Nat) := by rw [hn, hn2, wrap_i64] <;> omega
      simp [Run, g1, g2, hz2, w1, w2, w3, bitTab_size, bitTab_get, q8, q16]
/-- The highest limb says how many bits there are. -/
theorem limbs_top : ∀ {v : Nat}, v ≠ 0 → ∃ (n x : Nat) (h : n < (limbs v).length), (limbs v).length = n + 1 ∧ (limbs v)[n] = x ∧ x < 4294967296 ∧ x ≠ 0 ∧ nbits v = 32 * n + nbits x := by
  intro v
  induction v using Nat.strongRecOn with
  | _ v ih =>
    intro hv
    by_cases hs : v < 4294967296
    · have hm : limbs v = [v] := by rw [limbs_pos hv, Nat.div_eq_of_lt hs, limbs_zero, Nat.mod_eq_of_lt hs]
      refine ⟨0, v, by simp [hm], by simp [hm], by simp [hm], hs, hv, by omega⟩
    · obtain ⟨n, x, h, h1, h2, h3, h4, h5⟩ := ih (v / 4294967296) (by omega) (by omega)
      have hm := limbs_pos hv
      refine ⟨n + 1, x, by rw [hm]; simp; omega, by rw [hm]; simp; omega, ?_, h3, h4, ?_⟩
      · simp only [hm, List.getElem_cons_succ]
        exact h2
      · have := nbits_shift (k := 32) (n := v) (by omega)
        rw [show (2 : Nat) ^ 32 = 4294967296 from rfl, h5] at this
        omega
theorem rlen_loop : ∀ (n b x : Nat), b + n ≤ 281474976710656 → nbits x = n → Exec T l0_thicketref01_Len [(4, .v (.int .i64 b)), (5, .v (.int .u32 x))] = some (.exit 0, [(4, .v (.int .i64 (b + n : Nat))), (5, .v (.int .u32 0))]) := by
  intro n
  induction n with
  | zero =>
    intro b x hb hx
    have : x = 0 := by
      by_cases h : x = 0
      · exact h
      · rw [nbits_pos h] at hx; omega
    rw [ex0_thicketref01_Len]
    simp [this]
  | succ n ih =>
    intro b x hb hx
    have h0 : x ≠ 0 := by
      rintro rfl
      rw [nbits_zero] at hx
      omega
    rw [nbits_pos h0] at hx
    have h1 := ih (b + 1) (x / 2) (by omega) (by omega)
    obtain ⟨y, hy⟩ : ∃ y, x / 2 = y := ⟨_, rfl⟩
    obtain ⟨c, hc⟩ : ∃ c, b + 1 = c := ⟨_, rfl⟩
    have q1 := shr1_32 x
    rw [hy] at q1 h1
    rw [hc] at h1
    have w1 : IntKind.i64.wrap ((b : Int) + 1) = (c : Nat) := by rw [wrap_i64] <;> omega
    have hp : 0 < x := by omega
    rw [show b + (n + 1) = c + n by omega, ← h1, ex0_thicketref01_Len]
    simp [hp, q1, w1]
theorem c_rLen (l : List Nat) (h : Fit l) : Cinf T n_thicketref01_Len [.ro 1 (ul l)] = some (.v (.int .i64 (nbits (val l) : Nat)), [.dead]) := by
  have h0 := c_rNorm l h
  have hlen := limbs_len h.1
  have hl := h.2
  rw [run_thicketref01_Len]
  by_cases hv : val l = 0
  · rw [hv, limbs_zero] at h0
    simp at h0
    simp [Run, h0, hv, nbits_zero]
  · obtain ⟨n, x, h1, h2, h3, h4, h5, h6⟩ := limbs_top hv
    have hb := nbits_le (k := 32) h4
    have hc := rlen_loop (nbits x) (32 * n) x (by omega) rfl
    rw [← h6] at hc
    generalize limbs (val l) = m at *
    have w1 : IntKind.i64.wrap (32 * (n : Int)) = (32 * n : Nat) := by rw [wrap_i64] <;> omega
    obtain ⟨c, hcc⟩ : ∃ c, 32 * n = c := ⟨_, rfl⟩
    rw [hcc] at hc w1
    have w3 := wrap_nat (k := n) (by omega)
    have hn : ¬ (n : Int) + 1 = 0 := by omega
    simp [Run, h0, hn, h2, w1, w3, h3, hc]
end Go.AM.F

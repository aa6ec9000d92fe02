/- The document's naturals: quotients bit by bit. No conditions. -/
import Derived.Test.YtbghahcgjnlnlaaL24
import Derived.Test.YtbghahcgjnlnlaaN2
namespace Go.AM.F
open Go Go.AM
set_option maxRecDepth 10000
set_option linter.unusedSimpArgs false
attribute [local simp] j0_thicketref02_divide j1_thicketref02_divide w0_thicketref02_divide j2_thicketref02_divide b_thicketref02_divide a_thicketref02_divide b_thicketref02_Divide a_thicketref02_Divide
theorem fit_mono {m n : Nat} (h : Fit (limbs n)) (hle : m ≤ n) : Fit (limbs m) := ⟨limbs_lim m, Nat.le_trans (limbs_mono hle) h.2⟩
theorem fit_small {n : Nat} (k : Nat) (h : n < 4294967296 ^ k) (hk : k ≤ 1099511627776) : Fit (limbs n) := ⟨limbs_lim n, Nat.le_trans (limbs_len_le h) hk⟩
theorem wrap_mod64 (n : Nat) : IntKind.u64.wrap (n : Int) = ((n % 18446744073709551616 : Nat) : Int) := by
  simp only [IntKind.wrap, IntKind.signed, IntKind.bits]
  simp
theorem shl1_64 {k P : Nat} (hk : k ≤ 64) (hP : 2 ^ k % 18446744073709551616 = P) : binInt .shl .u64 1 k = some (.int .u64 (P : Nat)) := by
  have h1 : ¬ (k : Int) < 0 := by omega
  rw [binInt_shl, if_neg h1, Int.toNat_natCast, show IntKind.u64.bits = 64 from rfl, Nat.min_eq_left hk, show (1 : Int) * 2 ^ k = ((2 ^ k : Nat) : Int) by simp, wrap_mod64, hP]
def dvE (B R q : Nat) (k : Int) : Env := [(0, .ro 1 (ul (limbs R))), (1, .ro 1 (ul (limbs B))), (6, .v (.int .u64 q)), (8, .v (.int .i64 k)), (29, .dead)]
theorem divide_step (B R q k P : Nat) (hk : k ≤ 64) (hR : Fit (limbs R)) (hB : Fit (limbs B)) (hBk : Fit (limbs (B * 2 ^ k))) (hP : 2 ^ k % 18446744073709551616 = P) (hq : q < 18446744073709551616) {q2 : Nat} (hor : q ||| P = q2) :
    Exec T l0_thicketref02_divide (dvE B R q k) = Exec T l0_thicketref02_divide (if R < B * 2 ^ k then dvE B R q ((k : Int) - 1) else dvE B (R - B * 2 ^ k) q2 ((k : Int) - 1)) := by
  have h1 := c2_up B k hB (by omega)
  have h2 := c2_cmp R (B * 2 ^ k) hR hBk
  have w1 : IntKind.i64.wrap ((k : Int) - 1) = (k : Int) - 1 := by rw [wrap_i64] <;> omega
  by_cases hlt : R < B * 2 ^ k
  · rw [if_pos hlt]
    rw [cmp_lt hlt] at h2
    obtain ⟨C, hC⟩ : ∃ C, B * 2 ^ k = C := ⟨_, rfl⟩
    rw [hC] at h1 h2
    rw [ex0_thicketref02_divide]
    unfold dvE
    simp [h1, h2, w1]
  · rw [if_neg hlt]
    have h3 := c2_minus R (B * 2 ^ k) hR hBk (by omega)
    have hcn : ¬ cmpN R (B * 2 ^ k) < 0 := by
      unfold cmpN
      rw [if_neg hlt]
      split <;> decide
    have hcn2 : 0 ≤ cmpN R (B * 2 ^ k) := by omega
    obtain ⟨C, hC⟩ : ∃ C, B * 2 ^ k = C := ⟨_, rfl⟩
    rw [hC] at h1 h2 h3 hcn hcn2 ⊢
    have hPl : P < 18446744073709551616 := by rw [← hP]; exact Nat.mod_lt _ (by decide)
    have h4 := shl1_64 hk hP
    have h5 := or64 hq hPl hor
    have w2 := u64_nat (k := k) (by omega)
    rw [ex0_thicketref02_divide]
    unfold dvE
    simp [-binInt_shl, -binInt_or, h1, h2, h3, w1, w2, h4, h5, hcn, hcn2]
theorem divide_stop (B R q : Nat) (k : Int) (hk : k < 0) : Exec T l0_thicketref02_divide (dvE B R q k) = some (.exit 0, dvE B R q k) := by
  have h1 : ¬ 0 ≤ k := by omega
  rw [ex0_thicketref02_divide]
  unfold dvE
  simp [h1, hk]
theorem divide_loop (B : Nat) (hB : ∀ k, k ≤ 64 → Fit (limbs (B * 2 ^ k))) (hB0 : 0 < B) : ∀ (k R q Q : Nat), k ≤ 64 → Fit (limbs R) → R < B * 2 ^ k → q = Q * 2 ^ k → q + 2 ^ k ≤ 18446744073709551616 →
    Exec T l0_thicketref02_divide (dvE B R q ((k : Int) - 1)) = some (.exit 0, dvE B (R % B) (q + R / B) (-1)) := by
  intro k
  induction k with
  | zero =>
    intro R q Q hk hR hlt hq hs
    rw [Nat.pow_zero, Nat.mul_one] at hlt
    rw [Nat.mod_eq_of_lt hlt, Nat.div_eq_of_lt hlt, Nat.add_zero]
    exact divide_stop B R q _ (by omega)
  | succ k ih =>
    intro R q Q hk hR hlt hq hs
    have hp : 2 ^ (k + 1) = 2 * 2 ^ k := by rw [Nat.pow_succ, Nat.mul_comm]
    have h264 : 2 ^ k < 18446744073709551616 := by have : 0 < 2 ^ k := Nat.two_pow_pos _; omega
    have hpp : 0 < 2 ^ k := Nat.two_pow_pos _
    have hor : q ||| 2 ^ k = q + 2 ^ k := by
      have := or_low (c := 2 ^ k) (x := Q) (r := k + 1) (by omega)
      rw [Nat.or_comm, hq, this, Nat.add_comm]
    have e := divide_step B R q k (2 ^ k) (by omega) hR (by simpa using hB 0 (by omega)) (hB k (by omega)) (Nat.mod_eq_of_lt h264) (by omega) hor
    rw [show ((k + 1 : Nat) : Int) - 1 = (k : Int) by omega, e]
    by_cases hl : R < B * 2 ^ k
    · rw [if_pos hl]
      exact ih R q (2 * Q) (by omega) hR hl (by rw [hq, hp, ← Nat.mul_assoc, Nat.mul_comm Q 2]) (by omega)
    · rw [if_neg hl]
      have hlt2 : R < B * 2 ^ k + B * 2 ^ k := by rw [hp] at hlt; rw [Nat.mul_left_comm] at hlt; omega
      rw [ih (R - B * 2 ^ k) (q + 2 ^ k) (2 * Q + 1) (by omega) (fit_mono hR (Nat.sub_le _ _)) (by omega) (by rw [hq, hp, Nat.add_mul, Nat.one_mul, ← Nat.mul_assoc, Nat.mul_comm Q 2]) (by omega)]
      have hR2 : R = (R - B * 2 ^ k) + B * 2 ^ k := by omega
      obtain ⟨S, hS⟩ : ∃ S, R - B * 2 ^ k = S := ⟨_, rfl⟩
      rw [hS] at hR2 ⊢
      rw [hR2, Nat.add_mul_mod_self_left, Nat.add_mul_div_left _ _ hB0, Nat.add_assoc, Nat.add_comm (2 ^ k)]
theorem c2_divide (A B : Nat) (hA : Fit (limbs A)) (hB : ∀ k, k ≤ 64 → Fit (limbs (B * 2 ^ k))) (hB0 : 0 < B) (hn : nbits A ≤ nbits B + 64) :
    Cinf T n_thicketref02_divide [.ro 1 (ul (limbs A)), .ro 1 (ul (limbs B))] = some (.tup [.v (.int .u64 (A / B % 18446744073709551616 : Nat)), .ro 1 (ul (limbs (A % B)))], [.dead, .dead]) := by
  have hB1 : Fit (limbs B) := by simpa using hB 0 (by omega)
  have h1 := c2_size A hA
  have h2 := c2_size B hB1
  have n1 : nbits A ≤ 35184372088832 := by have := nbits_val hA.1; rw [val_limbs] at this; have := hA.2; omega
  have n2 : nbits B ≤ 35184372088832 := by have := nbits_val hB1.1; rw [val_limbs] at this; have := hB1.2; omega
  have hAl := lt_nbits A
  have hBl := nbits_low (v := B) (by omega)
  have hBn : 0 < nbits B := by rw [nbits_pos (by omega)]; omega
  have key2 : ∃ k : Int, Exec T l0_thicketref02_divide (dvE B A 0 ((nbits A : Int) - nbits B)) = some (.exit 0, dvE B (A % B) (A / B % 18446744073709551616) k) := by
    by_cases hlt : nbits A < nbits B
    · refine ⟨(nbits A : Int) - nbits B, ?_⟩
      have hAB : A < B := Nat.lt_of_lt_of_le (Nat.lt_of_lt_of_le hAl (Nat.pow_le_pow_right (by decide) (by omega))) hBl
      rw [Nat.mod_eq_of_lt hAB, Nat.div_eq_of_lt hAB, Nat.zero_mod]
      exact divide_stop B A 0 _ (by omega)
    · refine ⟨-1, ?_⟩
      obtain ⟨k, hk⟩ : ∃ k, nbits A = nbits B + k := ⟨nbits A - nbits B, by omega⟩
      have hk64 : k ≤ 64 := by omega
      have hA2 : A < B * 2 ^ (k + 1) := by
        rw [hk, show nbits B + k = (nbits B - 1) + (k + 1) by omega, Nat.pow_add] at hAl
        exact Nat.lt_of_lt_of_le hAl (Nat.mul_le_mul_right _ hBl)
      rw [show (nbits A : Int) - nbits B = (k : Int) by omega]
      by_cases h64 : k = 64
      · subst h64
        rw [show ((64 : Nat) : Int) = ((64 : Nat) : Int) from rfl, divide_step B A 0 64 0 (by omega) hA hB1 (hB 64 (by omega)) (by decide) (by omega) (q2 := 0) (by decide)]
        by_cases hl : A < B * 2 ^ 64
        · rw [if_pos hl, divide_loop B hB hB0 64 A 0 0 (by omega) hA hl (by simp) (by decide), Nat.zero_add, Nat.mod_eq_of_lt (a := A / B)]
          exact Nat.div_lt_of_lt_mul hl
        · rw [if_neg hl]
          have hA3 : A - B * 2 ^ 64 < B * 2 ^ 64 := by omega
          rw [divide_loop B hB hB0 64 (A - B * 2 ^ 64) 0 0 (by omega) (fit_mono hA (Nat.sub_le _ _)) hA3 (by simp) (by decide), Nat.zero_add]
          have hR2 : A = (A - B * 2 ^ 64) + B * 2 ^ 64 := by omega
          have hd : (A - B * 2 ^ 64) / B < 2 ^ 64 := Nat.div_lt_of_lt_mul hA3
          obtain ⟨S, hS⟩ : ∃ S, A - B * 2 ^ 64 = S := ⟨_, rfl⟩
          rw [hS] at hR2 hd ⊢
          rw [hR2, Nat.add_mul_mod_self_left, Nat.add_mul_div_left _ _ hB0, show 18446744073709551616 = 2 ^ 64 from rfl, Nat.add_mod_right, Nat.mod_eq_of_lt hd]
      · have hp : 2 ^ (k + 1) ≤ 18446744073709551616 := show 2 ^ (k + 1) ≤ 2 ^ 64 from Nat.pow_le_pow_right (by decide) (by omega)
        have := divide_loop B hB hB0 (k + 1) A 0 0 (by omega) hA hA2 (by simp) (by omega)
        rw [show ((k + 1 : Nat) : Int) - 1 = (k : Int) by omega, Nat.zero_add] at this
        rw [this, Nat.mod_eq_of_lt (a := A / B)]
        exact Nat.lt_of_lt_of_le (Nat.div_lt_of_lt_mul hA2) hp
  have w1 : IntKind.i64.wrap ((nbits A : Int) - nbits B) = (nbits A : Int) - nbits B := by rw [wrap_i64] <;> omega
  obtain ⟨k, h0⟩ := key2
  obtain ⟨R, hR⟩ : ∃ R, A % B = R := ⟨_, rfl⟩
  obtain ⟨q, hq⟩ : ∃ q, A / B % 18446744073709551616 = q := ⟨_, rfl⟩
  rw [hR, hq] at h0 ⊢
  unfold dvE at h0
  simp only [Int.natCast_zero] at h0
  rw [run_thicketref02_divide]
  simp [Run, h1, h2, w1, h0]
theorem c2_Divide (A B : Nat) (hA : Fit (limbs A)) (hB : ∀ k, k ≤ 64 → Fit (limbs (B * 2 ^ k))) (hB0 : 0 < B) (hn : nbits A ≤ nbits B + 64) :
    Cinf T n_thicketref02_Divide [.ro 1 (ul (limbs A)), .ro 1 (ul (limbs B))] = some (.tup [.v (.int .u64 (A / B % 18446744073709551616 : Nat)), .ro 1 (ul (limbs (A % B)))], [.dead, .dead]) := by
  have h0 := c2_divide A B hA hB hB0 hn
  obtain ⟨R, hR⟩ : ∃ R, A % B = R := ⟨_, rfl⟩
  obtain ⟨q, hq⟩ : ∃ q, A / B % 18446744073709551616 = q := ⟨_, rfl⟩
  rw [hR, hq] at h0 ⊢
  rw [run_thicketref02_Divide]
  simp [Run, h0]
end Go.AM.F

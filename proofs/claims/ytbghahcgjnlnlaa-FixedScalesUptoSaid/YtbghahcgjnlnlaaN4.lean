/- Rounded quotients and signed answers; FixedScales. No conditions. -/
import Derived.Test.YtbghahcgjnlnlaaL25
import Derived.Test.YtbghahcgjnlnlaaN3
namespace Go.AM.F
open Go Go.AM
set_option maxRecDepth 10000
set_option linter.unusedSimpArgs false
attribute [local simp] j0_fixed_amount b_fixed_amount a_fixed_amount j0_thicketref04_amount b_thicketref04_amount a_thicketref04_amount
attribute [local simp] j0_fixed_rounded b_fixed_rounded a_fixed_rounded j0_thicketref04_Rounded j1_thicketref04_Rounded j2_thicketref04_Rounded b_thicketref04_Rounded a_thicketref04_Rounded
attribute [local simp] j0_fixed_signed b_fixed_signed a_fixed_signed j0_thicketref04_signed b_thicketref04_signed a_thicketref04_signed
attribute [local simp] j0_fixed_Scale j1_fixed_Scale b_fixed_Scale a_fixed_Scale j0_thicketref04_Scale j1_thicketref04_Scale b_thicketref04_Scale a_thicketref04_Scale
attribute [local simp] b_thicketlaw04_FixedScales a_thicketlaw04_FixedScales
theorem c_amount (v : Int) (h1 : -9223372036854775808 ≤ v) (h2 : v < 9223372036854775808) : Cinf T n_fixed_amount [.v (.int .i64 v)] = some (.v (.int .u64 (v.natAbs : Nat)), [.dead]) := by
  rw [run_fixed_amount]
  by_cases h : v < 0
  · have w1 : IntKind.u64.wrap v = v + 18446744073709551616 := by
      simp only [IntKind.wrap, IntKind.signed, IntKind.bits]
      simp
      omega
    have w2 : IntKind.u64.wrap (-(v + 18446744073709551616)) = (v.natAbs : Int) := by
      simp only [IntKind.wrap, IntKind.signed, IntKind.bits]
      simp
      omega
    simp [Run, h, w1, w2]
  · have w1 : IntKind.u64.wrap v = (v.natAbs : Int) := by rw [wrap_u64] <;> omega
    simp [Run, h, w1]
theorem c4_amount (v : Int) (h1 : -9223372036854775808 ≤ v) (h2 : v < 9223372036854775808) : Cinf T n_thicketref04_amount [.v (.int .i64 v)] = some (.v (.int .u64 (v.natAbs : Nat)), [.dead]) := by
  rw [run_thicketref04_amount]
  by_cases h : v < 0
  · have w1 : IntKind.u64.wrap v = v + 18446744073709551616 := by
      simp only [IntKind.wrap, IntKind.signed, IntKind.bits]
      simp
      omega
    have w2 : IntKind.u64.wrap (-(v + 18446744073709551616)) = (v.natAbs : Int) := by
      simp only [IntKind.wrap, IntKind.signed, IntKind.bits]
      simp
      omega
    simp [Run, h, w1, w2]
  · have w1 : IntKind.u64.wrap v = (v.natAbs : Int) := by rw [wrap_u64] <;> omega
    simp [Run, h, w1]
/-- The quotient rounded to the nearest, halves to the even one. -/
def rnd (A B : Nat) : Nat := A / B + (if B < 2 * (A % B) ∨ (B = 2 * (A % B) ∧ A / B % 2 = 1) then 1 else 0)
theorem c_rounded (A B : Nat) (hA : Fit (limbs A)) (hB : Fit (limbs B)) (hB0 : B ≠ 0) (hf : Fit (limbs (2 * (A % B)))) :
    Cinf T n_fixed_rounded [.ro 1 (ul (limbs A)), .ro 1 (ul (limbs B))] = some (.own 1 (ul (limbs (rnd A B))), [.dead, .dead]) := by
  have h1 := c_DivMod (limbs A) (limbs B) hA hB
  rw [val_limbs, val_limbs, divR_pos hB0] at h1
  have hq : Fit (limbs (A / B)) := fit_mono hA (Nat.div_le_self _ _)
  have hr : Fit (limbs (A % B)) := fit_mono hA (Nat.mod_le _ _)
  have h2 := c_Add (limbs (A % B)) (limbs (A % B)) hr hr
  rw [val_limbs, ← Nat.two_mul] at h2
  have h3 := c_Cmp (limbs (2 * (A % B))) (limbs B) hf hB
  rw [val_limbs, val_limbs] at h3
  have h4 := c_Bit (limbs (A / B)) hq 0 (by decide)
  have h5 : bitV (limbs (A / B)) 0 = decide (A / B % 2 = 1) := by unfold bitV; simp [val_limbs]
  rw [h5] at h4
  have h6 := c_From 1 (by decide)
  have h7 := c_Add (limbs (A / B)) (limbs 1) hq (fit_small 1 (by decide) (by decide))
  rw [val_limbs, val_limbs] at h7
  unfold rnd
  obtain ⟨q, hq⟩ : ∃ q, A / B = q := ⟨_, rfl⟩
  obtain ⟨r, hr⟩ : ∃ r, A % B = r := ⟨_, rfl⟩
  obtain ⟨d, hd⟩ : ∃ d, 2 * r = d := ⟨_, rfl⟩
  simp only [hq, hr, hd] at *
  simp only [Int.natCast_one] at h6
  rw [run_fixed_rounded]
  rcases Nat.lt_trichotomy d B with hl | hl | hl
  · rw [cmp_lt hl] at h3
    rw [if_neg (by omega)]
    simp [Run, h1, h2, h3]
  · rw [hl] at h3 h2
    have e : cmpN B B = 0 := by simp [cmpN]
    rw [e] at h3
    by_cases ho : q % 2 = 1
    · rw [if_pos (by omega)]
      simp [Run, h1, h2, h3, h4, h6, h7, ho]
    · rw [if_neg (by omega)]
      simp [Run, h1, h2, h3, h4, h6, h7, ho]
  · rw [cmp_gt hl] at h3
    rw [if_pos (by omega)]
    simp [Run, h1, h2, h3, h4, h6, h7]
/-- A sign and an amount as a number of 64 bits, or no answer. -/
def sgnR (neg : Bool) (m : Nat) : PV := if 9223372036854775808 < m ∨ (m = 9223372036854775808 ∧ neg = false) then .tup [.v (.int .i64 0), .v (.bool false)] else .tup [.v (.int .i64 (if neg then -(m : Int) else m)), .v (.bool true)]
theorem c_signed (neg : Bool) (m : Nat) (h : Fit (limbs m)) : Cinf T n_fixed_signed [.v (.bool neg), .ro 1 (ul (limbs m))] = some (sgnR neg m, [.dead, .dead]) := by
  have h1 := c_Small (limbs m) h
  rw [val_limbs] at h1
  rw [run_fixed_signed]
  unfold sgnR
  by_cases hs : (limbs m).length ≤ 2
  · rw [smallR, if_pos hs] at h1
    have hm : m < 18446744073709551616 := by rcases limbs_two hs with ⟨_, hv⟩ | ⟨x, _, hv, hx⟩ | ⟨x, y, _, hv, hx, hy⟩ <;> omega
    rcases Nat.lt_trichotomy m 9223372036854775808 with hl | hl | hl
    · have w1 : IntKind.i64.wrap (m : Int) = m := by rw [wrap_i64] <;> omega
      have w2 : IntKind.i64.wrap (-(m : Int)) = -m := by rw [wrap_i64] <;> omega
      have e1 : ¬ 9223372036854775808 < m := by omega
      have e2 : ¬ m = 9223372036854775808 := by omega
      have e3 : ¬ (m : Int) = 9223372036854775808 := by omega
      rw [if_neg (by omega)]
      cases neg <;> simp [Run, h1, w1, w2, e1, e2, e3]
    · subst hl
      cases neg
      · rw [if_pos (by decide)]
        simp [Run, h1]
      · rw [if_neg (by decide)]
        have w1 : IntKind.i64.wrap 9223372036854775808 = -9223372036854775808 := by decide
        simp [Run, h1, w1]
    · rw [if_pos (.inl hl)]
      simp [Run, h1, hl]
  · rw [smallR, if_neg hs] at h1
    have hm : ¬ m < 18446744073709551616 := fun hm => hs (limbs_len_le (k := 2) hm)
    rw [if_pos (by omega)]
    simp [Run, h1]
theorem c4_signed (neg : Bool) (m : Nat) (h : m < 18446744073709551616) : ∃ j : Int, Cinf T n_thicketref04_signed [.v (.bool neg), .v (.int .u64 m)] = some (if 9223372036854775808 < m ∨ (m = 9223372036854775808 ∧ neg = false) then .tup [.v (.int .i64 j), .v (.bool false)] else .tup [.v (.int .i64 (if neg then -(m : Int) else m)), .v (.bool true)], [.dead, .dead]) := by
  rw [run_thicketref04_signed]
  rcases Nat.lt_trichotomy m 9223372036854775808 with hl | hl | hl
  · have w1 : IntKind.i64.wrap (m : Int) = m := by rw [wrap_i64] <;> omega
    have w2 : IntKind.i64.wrap (-(m : Int)) = -m := by rw [wrap_i64] <;> omega
    have e1 : ¬ 9223372036854775808 < m := by omega
    have e2 : m ≤ 9223372036854775808 := by omega
    have e3 : ¬ m = 9223372036854775808 := by omega
    refine ⟨0, ?_⟩
    rw [if_neg (by omega)]
    cases neg <;> simp [Run, w1, w2, e1, e2, e3, hl]
  · subst hl
    have w1 : IntKind.i64.wrap 9223372036854775808 = -9223372036854775808 := by decide
    cases neg
    · refine ⟨-9223372036854775808, ?_⟩
      rw [if_pos (by decide)]
      simp [Run, w1]
    · refine ⟨0, ?_⟩
      rw [if_neg (by decide)]
      simp [Run, w1]
  · have e2 : ¬ m ≤ 9223372036854775808 := by omega
    have e3 : ¬ m < 9223372036854775808 := by omega
    refine ⟨IntKind.i64.wrap m, ?_⟩
    rw [if_pos (.inl hl)]
    cases neg <;> simp [Run, e2, e3]
theorem rnd_ge (A B : Nat) : A / B ≤ rnd A B := Nat.le_add_right _ _
theorem rnd_le (A B : Nat) : rnd A B ≤ A / B + 1 := by unfold rnd; split <;> omega
theorem quot_big {A B : Nat} (hA0 : A ≠ 0) (hB : B ≤ 9223372036854775808) (hB0 : 0 < B) (h : nbits B + 64 ≤ nbits A) : 9223372036854775808 < A / B := by
  have h1 := nbits_low hA0
  have h2 := lt_nbits B
  have h3 : 2 ^ (nbits B + 63) ≤ A := Nat.le_trans (Nat.pow_le_pow_right (by decide) (by omega)) h1
  rw [Nat.pow_add] at h3
  obtain ⟨P, hP⟩ : ∃ P, 2 ^ nbits B = P := ⟨_, rfl⟩
  rw [hP] at h2 h3
  have h4 : (9223372036854775808 + 1) * B ≤ A := by
    have : (2 : Nat) ^ 63 = 9223372036854775808 := by decide
    omega
  have := (Nat.le_div_iff_mul_le hB0).2 h4
  omega
theorem quot_small {A B : Nat} (h : nbits A < nbits B + 64) (hB0 : 0 < B) : A / B < 18446744073709551616 := by
  have h1 := lt_nbits A
  have h2 := nbits_low (v := B) (by omega)
  have hBn : 0 < nbits B := by rw [nbits_pos (by omega)]; omega
  have h3 : A < 2 ^ ((nbits B - 1) + 64) := Nat.lt_of_lt_of_le h1 (Nat.pow_le_pow_right (by decide) (by omega))
  rw [Nat.pow_add] at h3
  have h4 : A < B * 2 ^ 64 := Nat.lt_of_lt_of_le h3 (Nat.mul_le_mul_right _ h2)
  exact Nat.div_lt_of_lt_mul h4
/-- The document's rounded quotient: in agreement where it is at most 2^63 + 1. -/
theorem c4_Rounded (A B : Nat) (hA : A < 4294967296 ^ 4) (hB : B ≤ 9223372036854775808) (hB0 : 0 < B) :
    Cinf T n_thicketref04_Rounded [.ro 1 (ul (limbs A)), .ro 1 (ul (limbs B))] = some (if nbits B + 64 ≤ nbits A ∨ 9223372036854775808 < A / B then .tup [.v (.int .u64 0), .v (.bool false)] else .tup [.v (.int .u64 (rnd A B : Nat)), .v (.bool true)], [.dead, .dead]) := by
  have hAf : Fit (limbs A) := fit_small 4 hA (by decide)
  have hBk : ∀ k, k ≤ 64 → Fit (limbs (B * 2 ^ k)) := fun k hk => by
    refine fit_small 5 ?_ (by decide)
    have h1 : 2 ^ k ≤ 2 ^ 64 := Nat.pow_le_pow_right (by decide) hk
    have h2 : B * 2 ^ k ≤ 9223372036854775808 * 2 ^ 64 := Nat.mul_le_mul hB h1
    exact Nat.lt_of_le_of_lt h2 (by decide)
  have hBf : Fit (limbs B) := by simpa using hBk 0 (by omega)
  have h1 := c2_Size A hAf
  have h2 := c2_Size B hBf
  have n1 : nbits A ≤ 128 := nbits_le (k := 128) hA
  have n2 : nbits B ≤ 64 := nbits_le (k := 64) (Nat.lt_of_le_of_lt hB (by decide))
  have w1 : IntKind.i64.wrap ((nbits A : Int) - nbits B) = (nbits A : Int) - nbits B := by rw [wrap_i64] <;> omega
  rw [run_thicketref04_Rounded]
  by_cases hn : nbits B + 64 < nbits A
  · rw [if_pos (by omega)]
    have e : (64 : Int) < (nbits A : Int) - nbits B := by omega
    simp [Run, h1, h2, w1, e]
  · have e : ¬ (64 : Int) < (nbits A : Int) - nbits B := by omega
    have h3 := c2_Divide A B hAf hBk hB0 (by omega)
    have hrf : Fit (limbs (A % B)) := fit_mono hAf (Nat.mod_le _ _)
    have hm : A % B < B := Nat.mod_lt _ hB0
    by_cases hn2 : nbits A = nbits B + 64
    · rw [if_pos (by omega)]
      have e2 : (nbits A : Int) - nbits B = 64 := by omega
      obtain ⟨q, hq⟩ : ∃ q, A / B % 18446744073709551616 = q := ⟨_, rfl⟩
      obtain ⟨r, hr⟩ : ∃ r, A % B = r := ⟨_, rfl⟩
      rw [hq, hr] at h3
      rw [e2] at w1
      by_cases hg : 9223372036854775808 < q
      · simp [Run, h1, h2, e2, w1, h3, hg]
      · simp [Run, h1, h2, e2, w1, h3, hg]
    · have e2 : ¬ (nbits A : Int) - nbits B = 64 := by omega
      have hs := quot_small (A := A) (B := B) (by omega) hB0
      rw [Nat.mod_eq_of_lt hs] at h3
      have h4 := c2_Up (A % B) 1 hrf (by decide)
      have h5 := c2_Cmp (A % B * 2 ^ 1) B (fit_small 3 (by
        have : A % B * 2 ^ 1 < 18446744073709551616 := by omega
        exact Nat.lt_trans this (by decide)) (by decide)) hBf
      rw [show A % B * 2 ^ 1 = 2 * (A % B) by omega] at h4 h5
      have hq0 := rnd_le A B
      unfold rnd at hq0 ⊢
      obtain ⟨q, hq⟩ : ∃ q, A / B = q := ⟨_, rfl⟩
      obtain ⟨r, hr⟩ : ∃ r, A % B = r := ⟨_, rfl⟩
      obtain ⟨d, hd⟩ : ∃ d, 2 * r = d := ⟨_, rfl⟩
      simp only [hq, hr, hd] at *
      simp only [Int.natCast_one] at h4
      by_cases hg : 9223372036854775808 < q
      · rw [if_pos (.inr hg)]
        simp [Run, h1, h2, e, e2, w1, h3, hg]
      · rw [if_neg (by omega)]
        have w2 : IntKind.u64.wrap ((q : Int) + 1) = (q : Int) + 1 := by rw [wrap_u64] <;> omega
        rcases Nat.lt_trichotomy d B with hl | hl | hl
        · rw [cmp_lt hl] at h5
          rw [if_neg (by omega)]
          simp [Run, h1, h2, e, e2, w1, h3, hg, h4, h5]
        · subst hl
          have e3 : cmpN d d = 0 := by simp [cmpN]
          rw [e3] at h5
          have q4 : binInt .rem .u64 q 2 = some (.int .u64 (q % 2 : Nat)) := by rw [binInt_rem, if_neg (by decide)]; rfl
          obtain ⟨o, ho⟩ : ∃ o, q % 2 = o := ⟨_, rfl⟩
          rw [ho] at q4
          by_cases ho1 : o = 1
          · subst ho1
            rw [if_pos (by omega)]
            simp [-binInt_rem, Run, h1, h2, e, e2, w1, h3, hg, h4, h5, q4, w2]
          · rw [if_neg (by omega)]
            have ho2 : ¬ (o : Int) = 1 := by omega
            simp [-binInt_rem, Run, h1, h2, e, e2, w1, h3, hg, h4, h5, q4, ho1, ho2]
        · rw [cmp_gt hl] at h5
          rw [if_pos (by omega)]
          simp [Run, h1, h2, e, e2, w1, h3, hg, h4, h5, w2]
end Go.AM.F

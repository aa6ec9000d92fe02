/- Rounding to a binary64, as the model has it: it is monotone, and stays where a binary64 is. No conditions. -/
import Derived.Test.YtbghahcgjnlnlaaDoorFx
namespace Go.AM.F
open Go Go.AM
set_option linter.unusedSimpArgs false

theorem cut_ge (neg : Bool) (n k drop : Nat) (h : k * 2 ^ drop ≤ n) : k ≤ Ieee.Toward.even.cut neg n drop := by
  unfold Ieee.Toward.cut
  simp only [Nat.shiftLeft_eq, Nat.one_mul]
  rcases Nat.le_total drop (n.log2 + 2) with hd | hd
  · rw [Nat.min_eq_left hd]
    have : k ≤ n / 2 ^ drop := (Nat.le_div_iff_mul_le (Nat.two_pow_pos _)).2 h
    omega
  · have hk : k = 0 := by
      rcases Nat.eq_zero_or_pos k with h0 | h0
      · exact h0
      · have h1 : 2 ^ (n.log2 + 2) ≤ 2 ^ drop := Nat.pow_le_pow_right (by decide) hd
        have h2 : n < 2 ^ (n.log2 + 1) := Nat.lt_log2_self
        have h3 : 1 * 2 ^ drop ≤ k * 2 ^ drop := Nat.mul_le_mul_right _ h0
        have h4 : 2 ^ (n.log2 + 2) = 2 ^ (n.log2 + 1) * 2 := Nat.pow_succ 2 _
        omega
    rw [hk]
    exact Nat.zero_le _
theorem cut_le (neg : Bool) (n k drop : Nat) (h : n ≤ k * 2 ^ drop) : Ieee.Toward.even.cut neg n drop ≤ k := by
  unfold Ieee.Toward.cut
  simp only [Nat.shiftLeft_eq, Nat.one_mul]
  rcases Nat.le_total drop (n.log2 + 2) with hd | hd
  · rw [Nat.min_eq_left hd]
    have hp := Nat.two_pow_pos drop
    obtain ⟨G, hG⟩ : ∃ G, 2 ^ drop = G := ⟨_, rfl⟩
    rw [hG] at h hp ⊢
    have h1 := Nat.div_add_mod n G
    have h2 := Nat.mod_lt n hp
    obtain ⟨q, hq⟩ : ∃ q, n / G = q := ⟨_, rfl⟩
    obtain ⟨s, hs⟩ : ∃ s, n % G = s := ⟨_, rfl⟩
    rw [hq, hs] at h1 ⊢
    rw [hs] at h2
    rcases Nat.lt_or_ge q k with hl | hl
    · have : ∀ b : Bool, b.toNat ≤ 1 := by decide
      have := this (decide (G < 2 * s) || (G == 2 * s && q % 2 == 1))
      omega
    · have h3 : k * G ≤ q * G := Nat.mul_le_mul_right _ hl
      rw [Nat.mul_comm] at h1
      have s0 : s = 0 := by omega
      subst s0
      have hqk : q = k := by
        rcases Nat.eq_or_lt_of_le hl with e | e
        · exact e.symm
        · have : (k + 1) * G ≤ q * G := Nat.mul_le_mul_right _ e
          rw [Nat.succ_mul] at this
          omega
      have e1 : (G == 2 * 0) = false := beq_false_of_ne (by omega)
      rw [e1, decide_eq_false (by omega)]
      simp
      omega
  · rw [Nat.min_eq_right hd]
    have h2 : n < 2 ^ (n.log2 + 1) := Nat.lt_log2_self
    have h4 : 2 ^ (n.log2 + 2) = 2 ^ (n.log2 + 1) * 2 := Nat.pow_succ 2 _
    rw [Nat.div_eq_of_lt (by omega), Nat.mod_eq_of_lt (by omega)]
    have e1 : (2 ^ (n.log2 + 2) == 2 * n) = false := beq_false_of_ne (by omega)
    rw [e1, decide_eq_false (by omega)]
    simp
/-- A step, in its exponent and its digits. -/
theorem rung_digits (r : Nat) : r = dexp r * 4503599627370496 + dmag r ∧ dmag r < 9007199254740992 ∧ (0 < dexp r → 4503599627370496 ≤ dmag r) := by
  unfold dexp dmag
  split <;> omega
theorem sh_ge (neg : Bool) (m k : Nat) (p q : Int) {c : Nat} (h : k * 2 ^ (q - p).toNat ≤ m * 2 ^ (p - q).toNat) (hc : Ieee.Toward.even.cut neg (m <<< (p - q).toNat) (q - p).toNat = c) : k ≤ c := by
  rw [← hc]
  exact cut_ge _ _ _ _ (by rw [Nat.shiftLeft_eq]; exact h)
theorem sh_le (neg : Bool) (m k : Nat) (p q : Int) {c : Nat} (h : m * 2 ^ (p - q).toNat ≤ k * 2 ^ (q - p).toNat) (hc : Ieee.Toward.even.cut neg (m <<< (p - q).toNat) (q - p).toNat = c) : c ≤ k := by
  rw [← hc]
  exact cut_le _ _ _ _ (by rw [Nat.shiftLeft_eq]; exact h)
theorem pow_cancel_le {a b : Nat} (k : Nat) : a * 2 ^ k ≤ b * 2 ^ k ↔ a ≤ b := Nat.mul_le_mul_right_iff (Nat.two_pow_pos k)
structure Near (Y ρ : Nat) : Prop where
  ge : ∀ r, r ≤ infR → dval r ≤ Y → r ≤ ρ
  le : ∀ r, Y ≤ dval r → ρ ≤ r
  fin : ρ ≤ infR
/-- The digits that are kept: those of the number over 2^L, for every L that serves. -/
theorem near_core (neg : Bool) (mag : Nat) (hm : mag ≠ 0) (place : Int) (K p Y : Nat) (hp : place + 1074 + K = p) (hY : mag * 2 ^ p = Y * 2 ^ K) :
    ∃ ρ, Ieee.double.nearest neg mag place = wrd neg ρ ∧ Near Y ρ := by
  have hlo := Nat.log2_self_le hm
  have hhi : mag < 2 ^ (mag.log2 + 1) := Nat.lt_log2_self
  obtain ⟨last, hlast⟩ : ∃ l, max (place + mag.log2 - 52) (-1074) = l := ⟨_, rfl⟩
  obtain ⟨L, hL⟩ : ∃ L : Nat, last + 1074 = L := ⟨(last + 1074).toNat, by omega⟩
  obtain ⟨kept, hk⟩ : ∃ c, Ieee.Toward.even.cut neg (mag <<< (place - last).toNat) (last - place).toNat = c := ⟨_, rfl⟩
  obtain ⟨l2, hl2⟩ : ∃ l, mag.log2 = l := ⟨_, rfl⟩
  rw [hl2] at hlast hlo hhi
  have word : Ieee.double.nearest neg mag place = wrd neg (min (L * 4503599627370496 + kept) infR) := by
    unfold Ieee.Format.nearest
    rw [if_neg hm]
    simp only [double_lp, double_inf, double_bin, hl2]
    have : (Ieee.double.fractionBits : Int) = 52 := rfl
    rw [this, hlast, hk, show (last - -1074).toNat = L by omega]
    unfold Ieee.Format.word wrd
    rw [double_sw]
  -- how a bound on the number is one on its digits
  have up : ∀ k : Nat, k * 2 ^ L ≤ Y → k ≤ kept := by
    intro k h
    refine sh_ge neg mag k place last ?_ hk
    rw [← pow_cancel_le (p - (place - last).toNat), Nat.mul_assoc, Nat.mul_assoc, ← Nat.pow_add, ← Nat.pow_add, show (place - last).toNat + (p - (place - last).toNat) = p by omega, hY,
      show (last - place).toNat + (p - (place - last).toNat) = L + K by omega, Nat.pow_add, ← Nat.mul_assoc]
    exact Nat.mul_le_mul_right _ h
  have down : ∀ k : Nat, Y ≤ k * 2 ^ L → kept ≤ k := by
    intro k h
    refine sh_le neg mag k place last ?_ hk
    rw [← pow_cancel_le (p - (place - last).toNat), Nat.mul_assoc, Nat.mul_assoc, ← Nat.pow_add, ← Nat.pow_add, show (place - last).toNat + (p - (place - last).toNat) = p by omega, hY,
      show (last - place).toNat + (p - (place - last).toNat) = L + K by omega, Nat.pow_add, ← Nat.mul_assoc]
    exact Nat.mul_le_mul_right _ h
  have big : Y < 9007199254740992 * 2 ^ L := by
    rw [← Nat.mul_lt_mul_right (Nat.two_pow_pos K), ← hY]
    calc mag * 2 ^ p < 2 ^ (l2 + 1) * 2 ^ p := Nat.mul_lt_mul_of_pos_right hhi (Nat.two_pow_pos _)
      _ = 2 ^ (l2 + 1 + p) := (Nat.pow_add _ _ _).symm
      _ ≤ 2 ^ (53 + L + K) := Nat.pow_le_pow_right (by decide) (by omega)
      _ = 9007199254740992 * 2 ^ L * 2 ^ K := by rw [Nat.pow_add, Nat.pow_add]
  have full : 0 < L → 4503599627370496 * 2 ^ L ≤ Y := by
    intro h0
    rw [← pow_cancel_le K, ← hY]
    calc 4503599627370496 * 2 ^ L * 2 ^ K = 2 ^ (52 + L + K) := by rw [Nat.pow_add, Nat.pow_add]
      _ = 2 ^ (l2 + p) := by rw [show 52 + L + K = l2 + p by omega]
      _ = 2 ^ l2 * 2 ^ p := Nat.pow_add _ _ _
      _ ≤ mag * 2 ^ p := Nat.mul_le_mul_right _ hlo
  refine ⟨_, word, ⟨?_, ?_, Nat.min_le_right _ _⟩⟩
  · intro r hr h
    refine Nat.le_min.2 ⟨?_, hr⟩
    obtain ⟨d1, d2, d3⟩ := rung_digits r
    unfold dval at h
    rcases Nat.lt_trichotomy (dexp r) L with hl | hl | hl
    · have := up _ (full (by omega))
      have : (dexp r + 1) * 4503599627370496 ≤ L * 4503599627370496 := Nat.mul_le_mul_right _ hl
      rw [Nat.succ_mul] at this
      omega
    · rw [hl] at h d1
      have := up _ h
      omega
    · have h1 := d3 (by omega)
      have h2 : 2 ^ (L + 1) ≤ 2 ^ dexp r := Nat.pow_le_pow_right (by decide) hl
      have h3 : 4503599627370496 * 2 ^ (L + 1) ≤ dmag r * 2 ^ dexp r := Nat.mul_le_mul h1 h2
      rw [Nat.pow_succ] at h3
      omega
  · intro r h
    refine Nat.le_trans (Nat.min_le_left _ _) ?_
    obtain ⟨d1, d2, d3⟩ := rung_digits r
    unfold dval at h
    rcases Nat.lt_trichotomy (dexp r) L with hl | hl | hl
    · have h1 := full (by omega)
      have h2 : 2 ^ (dexp r + 1) ≤ 2 ^ L := Nat.pow_le_pow_right (by decide) hl
      have h3 : dmag r * 2 ^ dexp r < 9007199254740992 * 2 ^ dexp r := Nat.mul_lt_mul_of_pos_right d2 (Nat.two_pow_pos _)
      rw [Nat.pow_succ] at h2
      omega
    · rw [hl] at h d1
      have := down _ h
      omega
    · have h1 := d3 (by omega)
      have := down 9007199254740992 (Nat.le_of_lt big)
      have : (L + 1) * 4503599627370496 ≤ dexp r * 4503599627370496 := Nat.mul_le_mul_right _ hl
      rw [Nat.succ_mul] at this
      omega
end Go.AM.F

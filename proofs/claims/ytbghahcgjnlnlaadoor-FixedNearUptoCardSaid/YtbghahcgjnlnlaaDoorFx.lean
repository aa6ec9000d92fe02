/- floats and fixed: the naturals of the document, rounding, words, contracts, FixedRises. No conditions. -/
import Derived.Test.YtbghahcgjnlnlaaDoorL10
import Derived.Test.YtbghahcgjnlnlaaDoorL17
import Derived.Test.YtbghahcgjnlnlaaDoorL14
import Derived.Test.YtbghahcgjnlnlaaDoorL19
import Derived.Test.YtbghahcgjnlnlaaDoorL24
import Derived.Test.YtbghahcgjnlnlaaDoorL25
import Derived.Test.YtbghahcgjnlnlaaDoorL34
import Derived.Test.YtbghahcgjnlnlaaDoorD0
/- The document's naturals: what the layers above need of them. No conditions. -/
namespace Go.AM.F
open Go Go.AM
set_option maxRecDepth 10000
set_option linter.unusedSimpArgs false
end Go.AM.F

/- The document's naturals: shifts, differences, quotients bit by bit. No conditions. -/
namespace Go.AM.F
open Go Go.AM
set_option maxRecDepth 10000
set_option linter.unusedSimpArgs false
theorem shr1_u32 (x : Nat) : binInt .shr .u32 x 1 = some (.int .u32 (x / 2 : Nat)) := shr_32 x 1 (by decide)
theorem minus_step {A P Q k x y br d br' : Nat} (hv : A + 4294967296 ^ k * br = P + Q) (h : x + 4294967296 * br' = d + y + br) : A + 4294967296 ^ k * x + 4294967296 ^ (k + 1) * br' = (P + 4294967296 ^ k * d) + (Q + 4294967296 ^ k * y) := by
  have e1 : 4294967296 ^ k * x + 4294967296 ^ k * (4294967296 * br') = 4294967296 ^ k * d + 4294967296 ^ k * y + 4294967296 ^ k * br := by rw [← Nat.mul_add, ← Nat.mul_add, ← Nat.mul_add, h]
  rw [Nat.pow_succ, Nat.mul_assoc]
  omega
end Go.AM.F

/- The document's naturals: quotients bit by bit. No conditions. -/
namespace Go.AM.F
open Go Go.AM
set_option maxRecDepth 10000
set_option linter.unusedSimpArgs false
theorem fit_mono {m n : Nat} (h : Fit (limbs n)) (hle : m ≤ n) : Fit (limbs m) := ⟨limbs_lim m, Nat.le_trans (limbs_mono hle) h.2⟩
theorem fit_small {n : Nat} (k : Nat) (h : n < 4294967296 ^ k) (hk : k ≤ 1099511627776) : Fit (limbs n) := ⟨limbs_lim n, Nat.le_trans (limbs_len_le h) hk⟩
theorem wrap_mod64 (n : Nat) : IntKind.u64.wrap (n : Int) = ((n % 18446744073709551616 : Nat) : Int) := by
  simp only [IntKind.wrap, IntKind.signed, IntKind.bits]
  simp
theorem shl1_64 {k P : Nat} (hk : k ≤ 64) (hP : 2 ^ k % 18446744073709551616 = P) : binInt .shl .u64 1 k = some (.int .u64 (P : Nat)) := by
  have h1 : ¬ (k : Int) < 0 := by omega
  rw [binInt_shl, if_neg h1, Int.toNat_natCast, show IntKind.u64.bits = 64 from rfl, Nat.min_eq_left hk, show (1 : Int) * 2 ^ k = ((2 ^ k : Nat) : Int) by simp, wrap_mod64, hP]
def dvE (B R q : Nat) (k : Int) : Env := [(0, .ro 1 (ul (limbs R))), (1, .ro 1 (ul (limbs B))), (6, .v (.int .u64 q)), (8, .v (.int .i64 k)), (29, .dead)]
end Go.AM.F

/- Rounded quotients and signed answers; FixedScales. No conditions. -/
namespace Go.AM.F
open Go Go.AM
set_option maxRecDepth 10000
set_option linter.unusedSimpArgs false
attribute [local simp] j0_fixed_amount b_fixed_amount a_fixed_amount
attribute [local simp] j0_fixed_rounded b_fixed_rounded a_fixed_rounded
attribute [local simp] j0_fixed_signed b_fixed_signed a_fixed_signed
attribute [local simp] j0_fixed_Scale j1_fixed_Scale b_fixed_Scale a_fixed_Scale
theorem c_amount (v : Int) (h1 : -9223372036854775808 ≤ v) (h2 : v < 9223372036854775808) : Cinf T n_fixed_amount [.v (.int .i64 v)] = some (.v (.int .u64 (v.natAbs : Nat)), [.dead]) := by
  rw [run_fixed_amount]
  by_cases h : v < 0
  · have w1 : IntKind.u64.wrap v = v + 18446744073709551616 := by
      simp only [IntKind.wrap, IntKind.signed, IntKind.bits]
      simp
      omega
    have w2 : IntKind.u64.wrap (-(v + 18446744073709551616)) = (v.natAbs : Int) := by
      simp only [IntKind.wrap, IntKind.signed, IntKind.bits]
      simp
      omega
    simp [Run, h, w1, w2]
  · have w1 : IntKind.u64.wrap v = (v.natAbs : Int) := by rw [wrap_u64] <;> omega
    simp [Run, h, w1]
/-- The quotient rounded to the nearest, halves to the even one. -/
def rnd (A B : Nat) : Nat := A / B + (if B < 2 * (A % B) ∨ (B = 2 * (A % B) ∧ A / B % 2 = 1) then 1 else 0)
theorem c_rounded (A B : Nat) (hA : Fit (limbs A)) (hB : Fit (limbs B)) (hB0 : B ≠ 0) (hf : Fit (limbs (2 * (A % B)))) :
    Cinf T n_fixed_rounded [.ro 1 (ul (limbs A)), .ro 1 (ul (limbs B))] = some (.own 1 (ul (limbs (rnd A B))), [.dead, .dead]) := by
  have h1 := c_DivMod (limbs A) (limbs B) hA hB
  rw [val_limbs, val_limbs, divR_pos hB0] at h1
  have hq : Fit (limbs (A / B)) := fit_mono hA (Nat.div_le_self _ _)
  have hr : Fit (limbs (A % B)) := fit_mono hA (Nat.mod_le _ _)
  have h2 := c_Add (limbs (A % B)) (limbs (A % B)) hr hr
  rw [val_limbs, ← Nat.two_mul] at h2
  have h3 := c_Cmp (limbs (2 * (A % B))) (limbs B) hf hB
  rw [val_limbs, val_limbs] at h3
  have h4 := c_Bit (limbs (A / B)) hq 0 (by decide)
  have h5 : bitV (limbs (A / B)) 0 = decide (A / B % 2 = 1) := by unfold bitV; simp [val_limbs]
  rw [h5] at h4
  have h6 := c_From 1 (by decide)
  have h7 := c_Add (limbs (A / B)) (limbs 1) hq (fit_small 1 (by decide) (by decide))
  rw [val_limbs, val_limbs] at h7
  unfold rnd
  obtain ⟨q, hq⟩ : ∃ q, A / B = q := ⟨_, rfl⟩
  obtain ⟨r, hr⟩ : ∃ r, A % B = r := ⟨_, rfl⟩
  obtain ⟨d, hd⟩ : ∃ d, 2 * r = d := ⟨_, rfl⟩
  simp only [hq, hr, hd] at *
  simp only [Int.natCast_one] at h6
  rw [run_fixed_rounded]
  rcases Nat.lt_trichotomy d B with hl | hl | hl
  · rw [cmp_lt hl] at h3
    rw [if_neg (by omega)]
    simp [Run, h1, h2, h3]
  · rw [hl] at h3 h2
    have e : cmpN B B = 0 := by simp [cmpN]
    rw [e] at h3
    by_cases ho : q % 2 = 1
    · rw [if_pos (by omega)]
      simp [Run, h1, h2, h3, h4, h6, h7, ho]
    · rw [if_neg (by omega)]
      simp [Run, h1, h2, h3, h4, h6, h7, ho]
  · rw [cmp_gt hl] at h3
    rw [if_pos (by omega)]
    simp [Run, h1, h2, h3, h4, h6, h7]
/-- A sign and an amount as a number of 64 bits, or no answer. -/
def sgnR (neg : Bool) (m : Nat) : PV := if 9223372036854775808 < m ∨ (m = 9223372036854775808 ∧ neg = false) then .tup [.v (.int .i64 0), .v (.bool false)] else .tup [.v (.int .i64 (if neg then -(m : Int) else m)), .v (.bool true)]
theorem c_signed (neg : Bool) (m : Nat) (h : Fit (limbs m)) : Cinf T n_fixed_signed [.v (.bool neg), .ro 1 (ul (limbs m))] = some (sgnR neg m, [.dead, .dead]) := by
  have h1 := c_Small (limbs m) h
  rw [val_limbs] at h1
  rw [run_fixed_signed]
  unfold sgnR
  by_cases hs : (limbs m).length ≤ 2
  · rw [smallR, if_pos hs] at h1
    have hm : m < 18446744073709551616 := by rcases limbs_two hs with ⟨_, hv⟩ | ⟨x, _, hv, hx⟩ | ⟨x, y, _, hv, hx, hy⟩ <;> omega
    rcases Nat.lt_trichotomy m 9223372036854775808 with hl | hl | hl
    · have w1 : IntKind.i64.wrap (m : Int) = m := by rw [wrap_i64] <;> omega
      have w2 : IntKind.i64.wrap (-(m : Int)) = -m := by rw [wrap_i64] <;> omega
      have e1 : ¬ 9223372036854775808 < m := by omega
      have e2 : ¬ m = 9223372036854775808 := by omega
      have e3 : ¬ (m : Int) = 9223372036854775808 := by omega
      rw [if_neg (by omega)]
      cases neg <;> simp [Run, h1, w1, w2, e1, e2, e3]
    · subst hl
      cases neg
      · rw [if_pos (by decide)]
        simp [Run, h1]
      · rw [if_neg (by decide)]
        have w1 : IntKind.i64.wrap 9223372036854775808 = -9223372036854775808 := by decide
        simp [Run, h1, w1]
    · rw [if_pos (.inl hl)]
      simp [Run, h1, hl]
  · rw [smallR, if_neg hs] at h1
    have hm : ¬ m < 18446744073709551616 := fun hm => hs (limbs_len_le (k := 2) hm)
    rw [if_pos (by omega)]
    simp [Run, h1]
theorem rnd_ge (A B : Nat) : A / B ≤ rnd A B := Nat.le_add_right _ _
theorem rnd_le (A B : Nat) : rnd A B ≤ A / B + 1 := by unfold rnd; split <;> omega
theorem quot_big {A B : Nat} (hA0 : A ≠ 0) (hB : B ≤ 9223372036854775808) (hB0 : 0 < B) (h : nbits B + 64 ≤ nbits A) : 9223372036854775808 < A / B := by
  have h1 := nbits_low hA0
  have h2 := lt_nbits B
  have h3 : 2 ^ (nbits B + 63) ≤ A := Nat.le_trans (Nat.pow_le_pow_right (by decide) (by omega)) h1
  rw [Nat.pow_add] at h3
  obtain ⟨P, hP⟩ : ∃ P, 2 ^ nbits B = P := ⟨_, rfl⟩
  rw [hP] at h2 h3
  have h4 : (9223372036854775808 + 1) * B ≤ A := by
    have : (2 : Nat) ^ 63 = 9223372036854775808 := by decide
    omega
  have := (Nat.le_div_iff_mul_le hB0).2 h4
  omega
theorem quot_small {A B : Nat} (h : nbits A < nbits B + 64) (hB0 : 0 < B) : A / B < 18446744073709551616 := by
  have h1 := lt_nbits A
  have h2 := nbits_low (v := B) (by omega)
  have hBn : 0 < nbits B := by rw [nbits_pos (by omega)]; omega
  have h3 : A < 2 ^ ((nbits B - 1) + 64) := Nat.lt_of_lt_of_le h1 (Nat.pow_le_pow_right (by decide) (by omega))
  rw [Nat.pow_add] at h3
  have h4 : A < B * 2 ^ 64 := Nat.lt_of_lt_of_le h3 (Nat.mul_le_mul_right _ h2)
  exact Nat.div_lt_of_lt_mul h4
end Go.AM.F

/- The binary64 nearest to a quotient: its exponent and its mantissa, in plain numbers. No conditions. -/
namespace Go.AM.F
open Go Go.AM
set_option linter.unusedSimpArgs false

/-! ### Quotients rounded -/
theorem rnd_near (A B : Nat) (hB : 0 < B) : 2 * (rnd A B * B) ≤ 2 * A + B ∧ 2 * A ≤ 2 * (rnd A B * B) + B := by
  have h1 := Nat.div_add_mod A B
  have h2 := Nat.mod_lt A hB
  unfold rnd
  generalize A / B = q at *
  generalize A % B = r at *
  have h3 : B * q = q * B := Nat.mul_comm _ _
  split
  · rename_i h
    rw [Nat.add_mul]
    omega
  · rename_i h
    rw [Nat.add_zero]
    omega
theorem rnd_even (A B : Nat) (hB : 0 < B) (h : 2 * (rnd A B * B) = 2 * A + B ∨ 2 * A = 2 * (rnd A B * B) + B) : rnd A B % 2 = 0 := by
  have h1 := Nat.div_add_mod A B
  have h2 := Nat.mod_lt A hB
  unfold rnd at h ⊢
  generalize A / B = q at *
  generalize A % B = r at *
  have h3 : B * q = q * B := Nat.mul_comm _ _
  split at h
  · rename_i hc
    rw [if_pos hc]
    rw [Nat.add_mul] at h
    omega
  · rename_i hc
    rw [if_neg hc]
    rw [Nat.add_zero] at h ⊢
    omega
theorem rnd_unique {A B n : Nat} (hB : 0 < B) (h1 : 2 * (n * B) < 2 * A + B) (h2 : 2 * A < 2 * (n * B) + B) : rnd A B = n := by
  obtain ⟨g1, g2⟩ := rnd_near A B hB
  rcases Nat.lt_trichotomy (rnd A B) n with h | h | h
  · exfalso
    have h3 : rnd A B + 1 ≤ n := h
    have h4 := Nat.mul_le_mul_right B h3
    rw [Nat.add_mul] at h4
    omega
  · exact h
  · exfalso
    have h3 : n + 1 ≤ rnd A B := h
    have h4 := Nat.mul_le_mul_right B h3
    rw [Nat.add_mul] at h4
    omega
theorem rnd_mono {A A' B : Nat} (hB : 0 < B) (h : A ≤ A') : rnd A B ≤ rnd A' B := by
  have h1 := Nat.div_add_mod A B
  have h2 := Nat.mod_lt A hB
  have h3 := Nat.div_add_mod A' B
  have h4 := Nat.mod_lt A' hB
  have hq : A / B ≤ A' / B := Nat.div_le_div_right h
  rcases Nat.eq_or_lt_of_le hq with e | l
  · unfold rnd
    rw [e] at h1 ⊢
    generalize A' / B = q at *
    generalize A % B = r at *
    generalize A' % B = r' at *
    have h5 : r ≤ r' := by omega
    split
    · rename_i hc
      rw [if_pos (by omega)]
      exact Nat.le_refl _
    · omega
  · have := rnd_ge A' B
    have := rnd_le A B
    omega
theorem rnd_scale (A B g : Nat) (hg : 0 < g) : rnd (g * A) (g * B) = rnd A B := by
  unfold rnd
  rw [Nat.mul_div_mul_left _ _ hg, Nat.mul_mod_mul_left]
  have e1 : g * B < 2 * (g * (A % B)) ↔ B < 2 * (A % B) := by
    rw [Nat.mul_left_comm 2 g]
    exact Nat.mul_lt_mul_left hg
  have e2 : g * B = 2 * (g * (A % B)) ↔ B = 2 * (A % B) := by
    rw [Nat.mul_left_comm 2 g]
    exact Nat.mul_right_inj (by omega)
  simp only [e1, e2]
theorem rnd_one (A : Nat) : rnd A 1 = A := by
  unfold rnd
  simp [Nat.mod_one]
/-! ### Bits of numbers -/
theorem nbits_lt : ∀ {k n : Nat}, nbits n ≤ k → n < 2 ^ k
  | 0, n, h => by
    by_cases h0 : n = 0
    · rw [h0]; decide
    · rw [nbits_pos h0] at h
      omega
  | k + 1, n, h => by
    by_cases h0 : n = 0
    · rw [h0]; exact Nat.two_pow_pos _
    · rw [nbits_pos h0] at h
      have := nbits_lt (k := k) (n := n / 2) (by omega)
      rw [Nat.pow_succ]
      omega
theorem nbits_low' {n : Nat} (h : n ≠ 0) : 2 ^ (nbits n - 1) ≤ n := by
  rcases Nat.lt_or_ge n (2 ^ (nbits n - 1)) with hl | hl
  · have h1 := nbits_le hl
    rw [nbits_pos h] at h1
    rw [nbits_pos h] at hl
    exfalso
    omega
  · exact hl
theorem nbits_iff {n k : Nat} : nbits n ≤ k ↔ n < 2 ^ k := ⟨nbits_lt, nbits_le⟩

/-! ### The exponent -/
def qA (n : Nat) (e : Int) : Nat := n * 2 ^ (-e).toNat
def qB (d : Nat) (e : Int) : Nat := d * 2 ^ e.toNat
def qQ (n d : Nat) (e : Int) : Nat := qA n e / qB d e
theorem qB_pos {d : Nat} (hd : 0 < d) (e : Int) : 0 < qB d e := Nat.mul_pos hd (Nat.two_pow_pos _)
/-- One step up halves the quotient. -/
theorem qAB_succ (n d : Nat) (e : Int) : (qA n e = 2 * qA n (e + 1) ∧ qB d (e + 1) = qB d e) ∨ (qA n (e + 1) = qA n e ∧ qB d (e + 1) = 2 * qB d e) := by
  unfold qA qB
  by_cases h : e < 0
  · left
    have h1 : (-e).toNat = (-(e + 1)).toNat + 1 := by omega
    have h2 : (e + 1).toNat = e.toNat := by omega
    rw [h1, h2, Nat.pow_succ]
    exact ⟨by rw [Nat.mul_comm (2 ^ _) 2, Nat.mul_left_comm], rfl⟩
  · right
    have h1 : (-(e + 1)).toNat = (-e).toNat := by omega
    have h2 : (e + 1).toNat = e.toNat + 1 := by omega
    rw [h1, h2, Nat.pow_succ]
    exact ⟨rfl, by rw [Nat.mul_comm (2 ^ _) 2, Nat.mul_left_comm]⟩
theorem qQ_succ {n d : Nat} (hd : 0 < d) (e : Int) : qQ n d (e + 1) = qQ n d e / 2 := by
  unfold qQ
  have hp := qB_pos hd e
  rcases qAB_succ n d e with ⟨h1, h2⟩ | ⟨h1, h2⟩
  · rw [h1, h2, Nat.div_div_eq_div_mul, Nat.mul_comm _ 2, Nat.mul_div_mul_left _ _ (by decide)]
  · rw [h1, h2, Nat.div_div_eq_div_mul, Nat.mul_comm 2]
theorem qQ_anti {n d : Nat} (hd : 0 < d) (e : Int) : ∀ k : Nat, qQ n d (e + k) ≤ qQ n d e
  | 0 => by simp
  | k + 1 => by
    have h := qQ_anti (n := n) hd e k
    have e1 : e + ((k + 1 : Nat) : Int) = e + k + 1 := by omega
    rw [e1, qQ_succ hd]
    omega
theorem qQ_le {n d : Nat} (hd : 0 < d) {e f : Int} (h : e ≤ f) : qQ n d f ≤ qQ n d e := by
  have := qQ_anti (n := n) hd e (f - e).toNat
  rwa [show e + ((f - e).toNat : Int) = f by omega] at this
theorem qQ_mono {n n' d : Nat} (h : n ≤ n') (e : Int) : qQ n d e ≤ qQ n' d e := Nat.div_le_div_right (Nat.mul_le_mul_right _ h)
theorem qQ_scale {n d g : Nat} (hg : 0 < g) (e : Int) : qQ (g * n) (g * d) e = qQ n d e := by
  unfold qQ qA qB
  rw [Nat.mul_assoc, Nat.mul_assoc, Nat.mul_div_mul_left _ _ hg]
/-- Far down the quotient is great. -/
theorem qQ_ge {n d : Nat} (hn : n ≠ 0) (hd : 0 < d) {e : Int} {k : Nat} (h : e + k + 1 ≤ (nbits n : Int) - nbits d) : 2 ^ k ≤ qQ n d e := by
  unfold qQ
  rw [Nat.le_div_iff_mul_le (qB_pos hd e)]
  have h1 := nbits_low' hn
  have h2 : d ≤ 2 ^ nbits d := Nat.le_of_lt (nbits_lt (Nat.le_refl _))
  have h3 : 1 ≤ nbits n := by rw [nbits_pos hn]; omega
  unfold qA qB
  calc 2 ^ k * (d * 2 ^ e.toNat) ≤ 2 ^ k * (2 ^ nbits d * 2 ^ e.toNat) := Nat.mul_le_mul_left _ (Nat.mul_le_mul_right _ h2)
    _ = 2 ^ (k + nbits d + e.toNat) := by rw [← Nat.pow_add, ← Nat.pow_add, Nat.add_assoc]
    _ ≤ 2 ^ (nbits n - 1 + (-e).toNat) := Nat.pow_le_pow_right (by decide) (by omega)
    _ = 2 ^ (nbits n - 1) * 2 ^ (-e).toNat := Nat.pow_add _ _ _
    _ ≤ n * 2 ^ (-e).toNat := Nat.mul_le_mul_right _ h1
/-- Far up it is small. -/
theorem qQ_lt {n d : Nat} (hd : 0 < d) {e : Int} {k : Nat} (h : (nbits n : Int) - nbits d + 1 ≤ e + k) : qQ n d e < 2 ^ k := by
  unfold qQ
  rw [Nat.div_lt_iff_lt_mul (qB_pos hd e)]
  have hd0 : d ≠ 0 := by omega
  have h1 := nbits_low' hd0
  have h2 : n < 2 ^ nbits n := nbits_lt (Nat.le_refl _)
  have h3 : 1 ≤ nbits d := by rw [nbits_pos hd0]; omega
  unfold qA qB
  calc n * 2 ^ (-e).toNat < 2 ^ nbits n * 2 ^ (-e).toNat := Nat.mul_lt_mul_of_pos_right h2 (Nat.two_pow_pos _)
    _ = 2 ^ (nbits n + (-e).toNat) := (Nat.pow_add _ _ _).symm
    _ ≤ 2 ^ (k + (nbits d - 1) + e.toNat) := Nat.pow_le_pow_right (by decide) (by omega)
    _ = 2 ^ k * (2 ^ (nbits d - 1) * 2 ^ e.toNat) := by rw [← Nat.pow_add, ← Nat.pow_add, Nat.add_assoc]
    _ ≤ 2 ^ k * (d * 2 ^ e.toNat) := Nat.mul_le_mul_left _ (Nat.mul_le_mul_right _ h1)
/-- The least exponent, from -1074 on, at which the quotient has 53 bits at most. -/
structure IsE (n d : Nat) (e : Int) : Prop where
  lo : -1074 ≤ e
  fits : qQ n d e < 9007199254740992
  least : e = -1074 ∨ 9007199254740992 ≤ qQ n d (e - 1)
theorem IsE.unique {n d : Nat} (hd : 0 < d) {e f : Int} (h : IsE n d e) (k : IsE n d f) : e = f := by
  have key : ∀ {e f : Int}, IsE n d e → IsE n d f → ¬ e < f := by
    intro e f h k hlt
    rcases k.least with h1 | h1
    · have := h.lo; omega
    · have := qQ_le (n := n) hd (show e ≤ f - 1 by omega)
      have := h.fits
      omega
  rcases Int.lt_trichotomy e f with hl | hl | hl
  · exact absurd hl (key h k)
  · exact hl
  · exact absurd hl (key k h)
theorem IsE.mono {n n' d : Nat} (hd : 0 < d) (hn : n ≤ n') {e f : Int} (h : IsE n d e) (k : IsE n' d f) : e ≤ f := by
  rcases Int.lt_or_le f e with hl | hl
  · rcases h.least with h1 | h1
    · have := k.lo; omega
    · have h2 := qQ_le (n := n') hd (show f ≤ e - 1 by omega)
      have h3 := qQ_mono (d := d) hn (e - 1)
      have := k.fits
      omega
  · exact hl
theorem IsE.scale {n d g : Nat} (hg : 0 < g) {e : Int} (h : IsE n d e) : IsE (g * n) (g * d) e :=
  ⟨h.lo, by rw [qQ_scale hg]; exact h.fits, by rw [qQ_scale hg]; exact h.least⟩
theorem IsE.unscale {n d g : Nat} (hg : 0 < g) {e : Int} (h : IsE (g * n) (g * d) e) : IsE n d e :=
  ⟨h.lo, by rw [← qQ_scale hg]; exact h.fits, by rw [← qQ_scale hg]; exact h.least⟩
/-- A walk up from below. -/
def upE (n d : Nat) : Nat → Int → Int
  | 0, e => e
  | k + 1, e => if 9007199254740992 ≤ qQ n d e then upE n d k (e + 1) else e
theorem upE_is {n d : Nat} (hd : 0 < d) : ∀ (k : Nat) (e : Int), -1074 ≤ e → (e = -1074 ∨ 9007199254740992 ≤ qQ n d (e - 1)) → qQ n d e < 9007199254740992 * 2 ^ k → IsE n d (upE n d k e)
  | 0, e, h1, h2, h3 => ⟨h1, by simpa [upE] using h3, h2⟩
  | k + 1, e, h1, h2, h3 => by
    rw [upE]
    split
    · rename_i h
      refine upE_is hd k (e + 1) (by omega) (.inr (by rw [show e + 1 - 1 = e by omega]; exact h)) ?_
      rw [qQ_succ hd]
      rw [Nat.pow_succ] at h3
      omega
    · rename_i h
      exact ⟨h1, by omega, h2⟩
/-- The walk's first exponent: there are two steps at most. -/
def loE (n d : Nat) : Int := max ((nbits n : Int) - nbits d - 53) (-1074)
theorem loE_is {n d : Nat} (hn : n ≠ 0) (hd : 0 < d) : IsE n d (upE n d 1 (loE n d)) := by
  refine upE_is hd 1 _ (by unfold loE; omega) ?_ ?_
  · unfold loE
    by_cases h : (nbits n : Int) - nbits d - 53 ≤ -1074
    · left; omega
    · right
      exact qQ_ge (k := 53) hn hd (by omega)
  · have := qQ_lt (n := n) (d := d) (e := loE n d) (k := 54) hd (by unfold loE; omega)
    exact this
noncomputable def theE (n d : Nat) : Int := upE n d 1 (loE n d)
theorem theE_is {n d : Nat} (hn : n ≠ 0) (hd : 0 < d) : IsE n d (theE n d) := loE_is hn hd
/-- Above -1074 the quotient has 53 bits. -/
theorem theE_full {n d : Nat} (hd : 0 < d) {e : Int} (h : IsE n d e) (hlo : -1074 < e) : 4503599627370496 ≤ qQ n d e := by
  rcases h.least with h1 | h1
  · omega
  · have := qQ_succ (n := n) hd (e - 1)
    rw [show e - 1 + 1 = e by omega] at this
    omega
theorem theE_range {n d : Nat} (hd : 0 < d) {e : Int} (h : IsE n d e) : e ≤ max ((nbits n : Int) - nbits d - 52) (-1074) := by
  rcases Int.lt_or_le (max ((nbits n : Int) - nbits d - 52) (-1074)) e with hl | hl
  · rcases h.least with h1 | h1
    · omega
    · have := qQ_lt (n := n) (d := d) (e := e - 1) (k := 53) hd (by omega)
      have e53 : (2 : Nat) ^ 53 = 9007199254740992 := by decide
      omega
  · exact hl
/-- The mantissa, which may be 2^53. -/
def theM (n d : Nat) (e : Int) : Nat := rnd (qA n e) (qB d e)
theorem theM_le {n d : Nat} {e : Int} (h : IsE n d e) : theM n d e ≤ 9007199254740992 := by
  have h1 := rnd_le (qA n e) (qB d e)
  have h2 := h.fits
  unfold qQ at h2
  unfold theM
  omega
theorem theM_ge {n d : Nat} {e : Int} : qQ n d e ≤ theM n d e := rnd_ge _ _
/-- How many steps above nought: in units of the last bit. -/
def rung (n d : Nat) (e : Int) : Nat := (e + 1074).toNat * 4503599627370496 + theM n d e
theorem rung_mono {n n' d : Nat} (hd : 0 < d) (hn : n ≤ n') {e f : Int} (h : IsE n d e) (k : IsE n' d f) : rung n d e ≤ rung n' d f := by
  have hef := h.mono hd hn k
  have := h.lo
  unfold rung
  rcases Int.lt_or_eq_of_le hef with hl | rfl
  · have h1 := theM_le h
    have h2 := theE_full hd k (by omega)
    have h3 := theM_ge (n := n') (d := d) (e := f)
    have h4 : (f + 1074).toNat = (e + 1074).toNat + ((f - e - 1).toNat + 1) := by omega
    rw [h4, Nat.add_mul, Nat.add_mul]
    have : 0 ≤ (f - e - 1).toNat * 4503599627370496 := Nat.zero_le _
    omega
  · have h1 : theM n d e ≤ theM n' d e := rnd_mono (qB_pos hd e) (Nat.mul_le_mul_right _ hn)
    omega
theorem theM_scale {n d g : Nat} (hg : 0 < g) (e : Int) : theM (g * n) (g * d) e = theM n d e := by
  unfold theM qA qB
  rw [Nat.mul_assoc, Nat.mul_assoc, rnd_scale _ _ _ hg]
end Go.AM.F

/- The binary64 nearest to a quotient: the walk. No conditions. -/
namespace Go.AM.F
open Go Go.AM
set_option maxRecDepth 10000
set_option linter.unusedSimpArgs false
set_option exponentiation.threshold 110000
attribute [local simp] j0_floats_format_nearest j1_floats_format_nearest j2_floats_format_nearest j3_floats_format_nearest w0_floats_format_nearest j4_floats_format_nearest j5_floats_format_nearest b_floats_format_nearest a_floats_format_nearest
attribute [local simp] j0_floats_number j1_floats_number b_floats_number a_floats_number
theorem fit_bits {n k : Nat} (h : n < 2 ^ k) (hk : k ≤ 35184372088000) : Fit (limbs n) := by
  refine fit_small (k / 32 + 1) (Nat.lt_of_lt_of_le h ?_) (by omega)
  rw [show (4294967296 : Nat) = 2 ^ 32 by decide, ← Nat.pow_mul]
  exact Nat.pow_le_pow_right (by decide) (by omega)
/-- A number of bits enough. -/
structure Big (n : Nat) : Prop where
  lt : n < 2 ^ 100000
theorem Big.of {n k : Nat} (h : n < 2 ^ k) (hk : k ≤ 100000) : Big n := ⟨Nat.lt_of_lt_of_le h (Nat.pow_le_pow_right (by decide) hk)⟩
def wideB : List PV := [.v (.int .i64 53), .v (.int .i64 (-1074)), .v (.int .i64 971)]
def nrE (n d : Nat) (e : Int) : Env := [(1, .ro 1 (ul (limbs n))), (2, .ro 1 (ul (limbs d))), (3, .box wideB), (9, .v (.int .i64 e))]
def endE (n d : Nat) (e : Int) : Int := if theM n d e = 9007199254740992 then e + 1 else e
def endM (n d : Nat) (e : Int) : Nat := if theM n d e = 9007199254740992 then 4503599627370496 else theM n d e
theorem and64 {x y e : Nat} (hx : x < 18446744073709551616) (hy : y < 18446744073709551616) (h : x &&& y = e) : binInt .and .u64 x y = some (.int .u64 (e : Nat)) := by
  have n : e < 18446744073709551616 := by rw [← h]; exact Nat.lt_of_le_of_lt Nat.and_le_left hx
  rw [binInt_and, BitVec.toNat_and, bv64 x hx, bv64 y hy, h, u64_nat n]
theorem and1_64 (y : Nat) (hy : y < 18446744073709551616) : binInt .and .u64 y 1 = some (.int .u64 (y % 2 : Nat)) := and64 (y := 1) hy (by decide) (Nat.and_one_is_mod y)
theorem theM_le' {n d : Nat} {e : Int} (h : qQ n d e < 9007199254740992) : theM n d e ≤ 9007199254740992 := by
  have h1 := rnd_le (qA n e) (qB d e)
  unfold qQ at h
  unfold theM
  omega
theorem nr_fin (n d : Nat) (e : Int) (h1 : -1074 ≤ e) (h2 : e ≤ 1000) (hm : theM n d e ≤ 9007199254740992) :
    Exec T j1_floats_format_nearest [(3, .box wideB), (9, .v (.int .i64 e)), (15, .v (.int .u64 (theM n d e : Nat)))] = some (.ret, [(6, .v (.int .u64 (endM n d e : Nat))), (7, .v (.int .i64 (endE n d e))), (8, .v (.bool (decide (endE n d e ≤ 971))))]) := by
  have hw1 : IntKind.i64.wrap (e + 1) = e + 1 := by rw [wrap_i64] <;> omega
  have hsh : binInt .shl .u64 1 53 = some (.int .u64 9007199254740992) := by have := shl_64 1 53 (by decide) (by decide); simpa [-binInt_shl] using this
  have hw53 : IntKind.u64.wrap 53 = 53 := wrap_u64 (by decide) (by decide)
  unfold endM endE
  generalize theM n d e = m at *
  by_cases h : m = 9007199254740992
  · subst h
    have hs : binInt .shr .u64 9007199254740992 1 = some (.int .u64 4503599627370496) := by have := shr_64 9007199254740992 1 (by decide); simpa [-binInt_shr] using this
    simp [-binInt_shl, -binInt_shr, wideB, hsh, hs, hw1, hw53]
  · simp [-binInt_shl, -binInt_shr, wideB, hsh, h, hw53]
theorem nr_pass (n d : Nat) (hn : Big n) (hd : Big d) (hd0 : d ≠ 0) (e : Int) (h1 : -1074 ≤ e) (h2 : e ≤ 1000) (h54 : qQ n d e < 2 ^ 54) :
    Exec T w0_floats_format_nearest (nrE n d e) = if 9007199254740992 ≤ qQ n d e then some (.normal, nrE n d (e + 1)) else some (.ret, [(6, .v (.int .u64 (endM n d e : Nat))), (7, .v (.int .i64 (endE n d e))), (8, .v (.bool (decide (endE n d e ≤ 971))))]) := by
  have fn : Fit (limbs n) := fit_bits hn.lt (by decide)
  have fd : Fit (limbs d) := fit_bits hd.lt (by decide)
  have u1 := c_Up (limbs n) fn (-e)
  have u2 := c_Up (limbs d) fd e
  rw [val_limbs] at u1 u2
  unfold upR at u1 u2
  have hA : qA n e < 2 ^ 101074 := by
    unfold qA
    rw [show 101074 = 100000 + 1074 from rfl, Nat.pow_add]
    exact Nat.mul_lt_mul_of_lt_of_le hn.lt (Nat.pow_le_pow_right (by decide) (by omega)) (Nat.two_pow_pos _)
  have hB : qB d e < 2 ^ 101000 := by
    unfold qB
    rw [show 101000 = 100000 + 1000 from rfl, Nat.pow_add]
    exact Nat.mul_lt_mul_of_lt_of_le hd.lt (Nat.pow_le_pow_right (by decide) (by omega)) (Nat.two_pow_pos _)
  have fA : Fit (limbs (qA n e)) := fit_bits hA (by decide)
  have fB : Fit (limbs (qB d e)) := fit_bits hB (by decide)
  have hB0 : qB d e ≠ 0 := by have := qB_pos (Nat.pos_of_ne_zero hd0) e; omega
  have v1 := c_DivMod (limbs (qA n e)) (limbs (qB d e)) fA fB
  rw [val_limbs, val_limbs, divR_pos hB0] at v1
  have fq : Fit (limbs (qA n e / qB d e)) := fit_mono fA (Nat.div_le_self _ _)
  have fr : Fit (limbs (qA n e % qB d e)) := fit_mono fA (Nat.mod_le _ _)
  have v2 := c_Len (limbs (qA n e / qB d e)) fq
  rw [val_limbs] at v2
  have v3 := c_Small (limbs (qA n e / qB d e)) fq
  rw [val_limbs] at v3
  have v4 := c_Add (limbs (qA n e % qB d e)) (limbs (qA n e % qB d e)) fr fr
  rw [val_limbs, ← Nat.two_mul] at v4
  have f2r : Fit (limbs (2 * (qA n e % qB d e))) := fit_bits (k := 101001) (by
    have := Nat.mod_lt (qA n e) (Nat.pos_of_ne_zero hB0)
    rw [show 101001 = 101000 + 1 from rfl, Nat.pow_succ]
    omega) (by decide)
  have v5 := c_Cmp (limbs (2 * (qA n e % qB d e))) (limbs (qB d e)) f2r fB
  rw [val_limbs, val_limbs] at v5
  have hq : qQ n d e = qA n e / qB d e := rfl
  rw [← hq] at v1 v2 v3
  have hw1 : IntKind.i64.wrap (e + 1) = e + 1 := by rw [wrap_i64] <;> omega
  have hwn : IntKind.i64.wrap (-e) = -e := by rw [wrap_i64] <;> omega
  have hlen : 53 < nbits (qQ n d e) ↔ 9007199254740992 ≤ qQ n d e := by
    have := nbits_iff (n := qQ n d e) (k := 53)
    rw [show (2 : Nat) ^ 53 = 9007199254740992 by decide] at this
    omega
  have hs : ¬ 9007199254740992 ≤ qQ n d e → (limbs (qQ n d e)).length ≤ 2 := fun h => limbs_len_le (by omega)
  have hand : ¬ 9007199254740992 ≤ qQ n d e → binInt .and .u64 (qQ n d e : Nat) 1 = some (.int .u64 (qQ n d e % 2 : Nat)) := fun h => and1_64 _ (by omega)
  have hwm : ¬ 9007199254740992 ≤ qQ n d e → IntKind.u64.wrap ((qQ n d e : Int) + 1) = (qQ n d e : Int) + 1 := fun h => by rw [wrap_u64] <;> omega
  have hfin : ¬ 9007199254740992 ≤ qQ n d e → _ := fun h => nr_fin n d e h1 h2 (theM_le' (by omega))
  have hth : theM n d e = qQ n d e + (if qB d e < 2 * (qA n e % qB d e) ∨ (qB d e = 2 * (qA n e % qB d e) ∧ qQ n d e % 2 = 1) then 1 else 0) := rfl
  rw [hth] at hfin
  unfold cmpN at v5
  unfold smallR at v3
  have hneg : e < 0 ∨ ¬ e < 0 := by omega
  by_cases hbig : 9007199254740992 ≤ qQ n d e
  · have hl := hlen.2 hbig
    rw [if_pos hbig]
    rcases hneg with hneg | hneg
    · have hBd : qB d e = d := by unfold qB; rw [show e.toNat = 0 by omega, Nat.pow_zero, Nat.mul_one]
      rw [if_neg (by omega)] at u1
      change _ = some (PV.tup [.own 1 (ul (limbs (qA n e))), _], _) at u1
      rw [hBd] at v1
      simp [nrE, wideB, hneg, hwn, u1, v1, v2, hl, hw1]
    · have hAn : qA n e = n := by unfold qA; rw [show (-e).toNat = 0 by omega, Nat.pow_zero, Nat.mul_one]
      rw [if_neg (by omega)] at u2
      change _ = some (PV.tup [.own 1 (ul (limbs (qB d e))), _], _) at u2
      rw [hAn] at v1
      simp [nrE, wideB, hneg, u2, v1, v2, hl, hw1]
  · have hl : ¬ 53 < nbits (qQ n d e) := fun h => hbig (hlen.1 h)
    replace hs := hs hbig
    replace hand := hand hbig
    replace hwm := hwm hbig
    replace hfin := hfin hbig
    rw [if_neg hbig]
    rw [if_pos hs] at v3
    rcases hneg with hneg | hneg
    · have hBd : qB d e = d := by unfold qB; rw [show e.toNat = 0 by omega, Nat.pow_zero, Nat.mul_one]
      rw [if_neg (by omega)] at u1
      change _ = some (PV.tup [.own 1 (ul (limbs (qA n e))), _], _) at u1
      rw [hBd] at v1 v4 v5 hfin
      rcases Nat.lt_trichotomy (2 * (qA n e % d)) d with hc | hc | hc
      · rw [if_pos hc] at v5
        rw [if_neg (by omega), Nat.add_zero] at hfin
        simp [-binInt_and, -j1_floats_format_nearest, nrE, wideB, hneg, hwn, u1, v1, v2, hl, v3, v4, v5] at hfin ⊢
        rw [hfin]
        rfl
      · rw [if_neg (by omega), if_pos hc] at v5
        by_cases hodd : qQ n d e % 2 = 1
        · rw [if_pos (.inr ⟨hc.symm, hodd⟩)] at hfin
          simp [-binInt_and, -j1_floats_format_nearest, nrE, wideB, hneg, hwn, u1, v1, v2, hl, v3, v4, v5, hand, hodd, hwm] at hfin ⊢
          rw [hfin]
          rfl
        · have hodd' : ¬ (qQ n d e : Int) % 2 = 1 := by omega
          rw [if_neg (by omega), Nat.add_zero] at hfin
          simp [-binInt_and, -j1_floats_format_nearest, nrE, wideB, hneg, hwn, u1, v1, v2, hl, v3, v4, v5, hand, hodd, hodd'] at hfin ⊢
          rw [hfin]
          rfl
      · rw [if_neg (by omega), if_neg (by omega)] at v5
        rw [if_pos (.inl hc)] at hfin
        simp [-binInt_and, -j1_floats_format_nearest, nrE, wideB, hneg, hwn, u1, v1, v2, hl, v3, v4, v5, hwm] at hfin ⊢
        rw [hfin]
        rfl
    · have hAn : qA n e = n := by unfold qA; rw [show (-e).toNat = 0 by omega, Nat.pow_zero, Nat.mul_one]
      rw [if_neg (by omega)] at u2
      change _ = some (PV.tup [.own 1 (ul (limbs (qB d e))), _], _) at u2
      rw [hAn] at v1 v4 v5 hfin
      rcases Nat.lt_trichotomy (2 * (n % qB d e)) (qB d e) with hc | hc | hc
      · rw [if_pos hc] at v5
        rw [if_neg (by omega), Nat.add_zero] at hfin
        simp [-binInt_and, -j1_floats_format_nearest, nrE, wideB, hneg, u2, v1, v2, hl, v3, v4, v5] at hfin ⊢
        rw [hfin]
        rfl
      · rw [if_neg (by omega), if_pos hc] at v5
        by_cases hodd : qQ n d e % 2 = 1
        · rw [if_pos (.inr ⟨hc.symm, hodd⟩)] at hfin
          simp [-binInt_and, -j1_floats_format_nearest, nrE, wideB, hneg, u2, v1, v2, hl, v3, v4, v5, hand, hodd, hwm] at hfin ⊢
          rw [hfin]
          rfl
        · have hodd' : ¬ (qQ n d e : Int) % 2 = 1 := by omega
          rw [if_neg (by omega), Nat.add_zero] at hfin
          simp [-binInt_and, -j1_floats_format_nearest, nrE, wideB, hneg, u2, v1, v2, hl, v3, v4, v5, hand, hodd, hodd'] at hfin ⊢
          rw [hfin]
          rfl
      · rw [if_neg (by omega), if_neg (by omega)] at v5
        rw [if_pos (.inl hc)] at hfin
        simp [-binInt_and, -j1_floats_format_nearest, nrE, wideB, hneg, u2, v1, v2, hl, v3, v4, v5, hwm] at hfin ⊢
        rw [hfin]
        rfl
theorem nr_loop (n d : Nat) (hn : Big n) (hd : Big d) (hd0 : d ≠ 0) (h : loE n d ≤ 990) :
    Exec T l0_floats_format_nearest (nrE n d (loE n d)) = some (.ret, [(6, .v (.int .u64 (endM n d (theE n d) : Nat))), (7, .v (.int .i64 (endE n d (theE n d)))), (8, .v (.bool (decide (endE n d (theE n d) ≤ 971))))]) := by
  have hlo : -1074 ≤ loE n d := by unfold loE; omega
  have h54 : qQ n d (loE n d) < 2 ^ 54 := qQ_lt (Nat.pos_of_ne_zero hd0) (by unfold loE; omega)
  have e54 : (2 : Nat) ^ 54 = 18014398509481984 := by decide
  have h1 := nr_pass n d hn hd hd0 (loE n d) hlo (by omega) h54
  have hk : ∀ e, (nrE n d e).keep [1, 2, 3, 9] = nrE n d e := fun e => rfl
  have hE : theE n d = if 9007199254740992 ≤ qQ n d (loE n d) then loE n d + 1 else loE n d := by
    unfold theE
    rw [upE]
    rfl
  rw [ex0_floats_format_nearest, hk, h1, hE]
  by_cases hb : 9007199254740992 ≤ qQ n d (loE n d)
  · rw [if_pos hb, if_pos hb]
    have hq := qQ_succ (n := n) (Nat.pos_of_ne_zero hd0) (loE n d)
    have h2 := nr_pass n d hn hd hd0 (loE n d + 1) (by omega) (by omega) (by omega)
    rw [if_neg (by omega)] at h2
    simp only [andThen_normal]
    rw [ex0_floats_format_nearest, hk, h2]
    rfl
  · rw [if_neg hb, if_neg hb]
    rfl
theorem c_fnearest (n d : Nat) (hn : Big n) (hd : Big d) (hn0 : n ≠ 0) (hd0 : d ≠ 0) (h : loE n d ≤ 973) :
    Cinf T n_floats_format_nearest [.agg wideB, .ro 1 (ul (limbs n)), .ro 1 (ul (limbs d))] = some (.tup [.v (.int .u64 (endM n d (theE n d) : Nat)), .v (.int .i64 (endE n d (theE n d))), .v (.bool (decide (endE n d (theE n d) ≤ 971)))], [.dead, .dead, .dead]) := by
  have fn : Fit (limbs n) := fit_bits hn.lt (by decide)
  have fd : Fit (limbs d) := fit_bits hd.lt (by decide)
  have v1 := c_Len (limbs n) fn
  have v2 := c_Len (limbs d) fd
  rw [val_limbs] at v1 v2
  have b1 := nbits_le hn.lt
  have b2 := nbits_le hd.lt
  have hz : ¬ nbits n = 0 := by rw [nbits_pos hn0]; omega
  have hl := nr_loop n d hn hd hd0 (by omega)
  have w1 : IntKind.i64.wrap ((nbits n : Int) - nbits d) = (nbits n : Int) - nbits d := by rw [wrap_i64] <;> omega
  have w2 : IntKind.i64.wrap ((nbits n : Int) - nbits d - 53) = (nbits n : Int) - nbits d - 53 := by rw [wrap_i64] <;> omega
  have hmax : (if (nbits n : Int) - nbits d - 53 < -1074 then -1074 else (nbits n : Int) - nbits d - 53) = loE n d := by unfold loE; omega
  have hmx : max ((nbits n : Int) - nbits d - 53) (-1074) = loE n d := rfl
  have hng : ¬ 973 < loE n d := by omega
  rw [run_floats_format_nearest]
  simp only [nrE, wideB] at hl
  simp [Run, wideB, v1, v2, hz, w1, w2, hmx, hmax, hng, hl]
end Go.AM.F

/- How binary64s stand to each other: by their numbers in units of 2^-1074. No conditions. -/
namespace Go.AM.F
open Go Go.AM
set_option linter.unusedSimpArgs false

def sgn (w : Nat) : Bool := w / 9223372036854775808 % 2 == 1
def rg (w : Nat) : Nat := w % 9223372036854775808
def dmag (r : Nat) : Nat := if r < 4503599627370496 then r else 4503599627370496 + r % 4503599627370496
def dexp (r : Nat) : Nat := r / 4503599627370496 - 1
def dval (r : Nat) : Nat := dmag r * 2 ^ dexp r
def infR : Nat := 9218868437227405312
theorem double_sw : Ieee.double.signWeight = 9223372036854775808 := by decide
theorem double_bin : Ieee.double.binade = 4503599627370496 := by decide
theorem double_inf : Ieee.double.infRung = infR := by decide
theorem double_lp : Ieee.double.leastPlace = -1074 := by decide
theorem read_eq (w : Nat) : Ieee.double.read w = if rg w < 4503599627370496 then .number (sgn w) (rg w) (-1074) else if rg w < infR then .number (sgn w) (4503599627370496 + rg w % 4503599627370496) (-1074 + (rg w / 4503599627370496 - 1 : Nat)) else if rg w = infR then .infinity (sgn w) else .nan (sgn w) (rg w - infR) := by
  unfold Ieee.Format.read
  simp only [double_sw, double_bin, double_inf, double_lp]
  rfl
theorem read_fin {w : Nat} (h : rg w < infR) : Ieee.double.read w = .number (sgn w) (dmag (rg w)) (-1074 + (dexp (rg w) : Int)) := by
  rw [read_eq]
  unfold dmag dexp
  by_cases h1 : rg w < 4503599627370496
  · rw [if_pos h1, if_pos h1, show rg w / 4503599627370496 - 1 = 0 by omega]
    rfl
  · rw [if_neg h1, if_neg h1, if_pos h]
theorem read_inf {w : Nat} (h : rg w = infR) : Ieee.double.read w = .infinity (sgn w) := by
  rw [read_eq, h, if_neg (by decide), if_neg (by decide), if_pos rfl]
theorem read_nan {w : Nat} (h : infR < rg w) : ∃ t, Ieee.double.read w = .nan (sgn w) t := by
  have hi : infR = 9218868437227405312 := rfl
  rw [read_eq, if_neg (by omega), if_neg (by omega), if_neg (by omega)]
  exact ⟨_, rfl⟩
theorem dmag_lt (r : Nat) : dmag r < 9007199254740992 := by
  unfold dmag
  split <;> omega
theorem dval_succ (r : Nat) : dval r < dval (r + 1) := by
  unfold dval
  by_cases h1 : r + 1 < 4503599627370496
  · unfold dmag dexp
    rw [if_pos (by omega), if_pos h1, show r / 4503599627370496 - 1 = 0 by omega, show (r + 1) / 4503599627370496 - 1 = 0 by omega]
    omega
  · by_cases h2 : r < 4503599627370496
    · have : r = 4503599627370495 := by omega
      subst this
      decide
    · unfold dmag dexp
      rw [if_neg h2, if_neg (by omega)]
      by_cases h3 : r % 4503599627370496 = 4503599627370495
      · have e1 : (r + 1) % 4503599627370496 = 0 := by omega
        have e2 : (r + 1) / 4503599627370496 - 1 = (r / 4503599627370496 - 1) + 1 := by omega
        rw [h3, e1, e2, Nat.pow_succ]
        have := Nat.two_pow_pos (r / 4503599627370496 - 1)
        omega
      · have e1 : (r + 1) % 4503599627370496 = r % 4503599627370496 + 1 := by omega
        have e2 : (r + 1) / 4503599627370496 - 1 = r / 4503599627370496 - 1 := by omega
        rw [e1, e2]
        exact Nat.mul_lt_mul_of_pos_right (by omega) (Nat.two_pow_pos _)
theorem dval_lt {r s : Nat} (h : r < s) : dval r < dval s := by
  induction s with
  | zero => omega
  | succ s ih =>
    rcases Nat.lt_or_ge r s with hl | hl
    · exact Nat.lt_trans (ih hl) (dval_succ s)
    · rw [show r = s by omega]
      exact dval_succ s
theorem dval_le {r s : Nat} : r ≤ s ↔ dval r ≤ dval s := by
  constructor
  · intro h
    rcases Nat.eq_or_lt_of_le h with rfl | h
    · exact Nat.le_refl _
    · exact Nat.le_of_lt (dval_lt h)
  · intro h
    rcases Nat.lt_or_ge s r with hl | hl
    · have := dval_lt hl; omega
    · exact hl
/-- A finite number in units of 2^-1074. -/
def sv (w : Nat) : Int := if sgn w = true then -(dval (rg w) : Int) else dval (rg w)
theorem signed_val (s : Bool) (r b : Nat) (h : b ≤ dexp r) : Ieee.signed s (dmag r) (dexp r - b) * ((2 ^ b : Nat) : Int) = if s = true then -(dval r : Int) else dval r := by
  have e : dmag r <<< (dexp r - b) * 2 ^ b = dval r := by
    rw [Nat.shiftLeft_eq, Nat.mul_assoc, ← Nat.pow_add, Nat.sub_add_cancel h]
    rfl
  unfold Ieee.signed
  rw [← e, Int.natCast_mul]
  cases s with
  | true =>
    simp only [if_true]
    rw [Int.neg_mul]
  | false => rfl
theorem cmp_scale (x y : Int) (k : Nat) (h : 0 < k) : compare (x * (k : Int)) (y * (k : Int)) = compare x y := by
  have h2 : (0 : Int) < k := by omega
  simp only [compare, compareOfLessAndEq]
  have e1 : x * (k : Int) < y * (k : Int) ↔ x < y := Int.mul_lt_mul_right h2
  have e2 : x * (k : Int) = y * (k : Int) ↔ x = y := ⟨fun h => Int.eq_of_mul_eq_mul_right (by omega) h, fun h => by rw [h]⟩
  simp only [e1, e2]
theorem order_fin {w v : Nat} (h1 : rg w < infR) (h2 : rg v < infR) : FloatKind.f64.format.order w v = some (compare (sv w) (sv v)) := by
  change Ieee.double.order w v = _
  unfold Ieee.Format.order
  rw [read_fin h1, read_fin h2]
  simp only [Ieee.Datum.order]
  congr 1
  obtain ⟨b, hb⟩ : ∃ b, min (dexp (rg w)) (dexp (rg v)) = b := ⟨_, rfl⟩
  have e1 : (-1074 + (dexp (rg w) : Int) - min (-1074 + (dexp (rg w) : Int)) (-1074 + (dexp (rg v) : Int))).toNat = dexp (rg w) - b := by omega
  have e2 : (-1074 + (dexp (rg v) : Int) - min (-1074 + (dexp (rg w) : Int)) (-1074 + (dexp (rg v) : Int))).toNat = dexp (rg v) - b := by omega
  rw [e1, e2, ← cmp_scale _ _ (2 ^ b) (Nat.two_pow_pos b), signed_val _ _ _ (by omega), signed_val _ _ _ (by omega)]
  rfl
theorem flt_gt {w v : Nat} (h1 : rg w < infR) (h2 : rg v < infR) : (FloatKind.f64.format.order w v == some .gt) = decide (sv v < sv w) := by
  rw [order_fin h1 h2]
  simp only [compare, compareOfLessAndEq]
  by_cases a : sv w < sv v
  · rw [if_pos a, decide_eq_false (by omega)]; rfl
  · rw [if_neg a]
    by_cases b : sv w = sv v
    · rw [if_pos b, decide_eq_false (by omega)]; rfl
    · rw [if_neg b, decide_eq_true (by omega)]; rfl
theorem flt_lt {w v : Nat} (h1 : rg w < infR) (h2 : rg v < infR) : (FloatKind.f64.format.order w v == some .lt) = decide (sv w < sv v) := by
  rw [order_fin h1 h2]
  simp only [compare, compareOfLessAndEq]
  by_cases a : sv w < sv v
  · rw [if_pos a, decide_eq_true a]; rfl
  · rw [if_neg a, decide_eq_false a]
    by_cases b : sv w = sv v
    · rw [if_pos b]; rfl
    · rw [if_neg b]; rfl
theorem flt_eq {w v : Nat} (h1 : rg w < infR) (h2 : rg v < infR) : (FloatKind.f64.format.order w v == some .eq) = decide (sv w = sv v) := by
  rw [order_fin h1 h2]
  simp only [compare, compareOfLessAndEq]
  by_cases a : sv w < sv v
  · rw [if_pos a, decide_eq_false (by omega)]; rfl
  · rw [if_neg a]
    by_cases b : sv w = sv v
    · rw [if_pos b, decide_eq_true b]; rfl
    · rw [if_neg b, decide_eq_false b]; rfl
theorem order_nan {w v : Nat} (h : infR < rg w) : FloatKind.f64.format.order w v = none := by
  change Ieee.double.order w v = _
  unfold Ieee.Format.order
  obtain ⟨t, e⟩ := read_nan h
  rw [e]
  rfl
theorem order_self_inf {w : Nat} (h : rg w = infR) : FloatKind.f64.format.order w w = some .eq := by
  change Ieee.double.order w w = _
  unfold Ieee.Format.order
  rw [read_inf h]
  simp only [Ieee.Datum.order]
  cases sgn w <;> rfl
theorem order_inf_pos {w v : Nat} (h1 : rg w = infR) (hs : sgn w = false) (h2 : rg v < infR) : FloatKind.f64.format.order w v = some .gt := by
  change Ieee.double.order w v = _
  unfold Ieee.Format.order
  rw [read_inf h1, read_fin h2, hs]
  rfl
theorem order_inf_neg {w v : Nat} (h1 : rg w = infR) (hs : sgn w = true) (h2 : rg v < infR) : FloatKind.f64.format.order w v = some .lt := by
  change Ieee.double.order w v = _
  unfold Ieee.Format.order
  rw [read_inf h1, read_fin h2, hs]
  rfl
end Go.AM.F

/- floats.number, floats.Nearest, fixed.Ratio, fixed.Float: what they answer. No conditions. -/
namespace Go.AM.F
open Go Go.AM
set_option maxRecDepth 10000
set_option linter.unusedSimpArgs false
attribute [local simp] j0_floats_number j1_floats_number b_floats_number a_floats_number
attribute [local simp] j0_floats_Nearest j1_floats_Nearest b_floats_Nearest a_floats_Nearest
attribute [local simp] b_fixed_Ratio a_fixed_Ratio
attribute [local simp] b_fixed_Float a_fixed_Float
def wrd (neg : Bool) (r : Nat) : Nat := if neg = true then 9223372036854775808 + r else r
theorem rung_end {n d : Nat} (hd : 0 < d) (h : IsE n d (theE n d)) (hE : theE n d ≤ 900) : endE n d (theE n d) ≤ 971 ∧ rung n d (theE n d) < infR ∧
    rung n d (theE n d) = if endM n d (theE n d) < 4503599627370496 then endM n d (theE n d) else (endE n d (theE n d) + 1075).toNat * 4503599627370496 + (endM n d (theE n d) - 4503599627370496) := by
  have h1 := theM_le h
  have h2 := h.lo
  have h3 := theM_ge (n := n) (d := d) (e := theE n d)
  have h4 : -1074 < theE n d → 4503599627370496 ≤ qQ n d (theE n d) := theE_full hd h
  have hi : infR = 9218868437227405312 := rfl
  unfold rung endE endM
  generalize theE n d = e at *
  generalize theM n d e = m at *
  generalize qQ n d e = q at *
  by_cases hm : m = 9007199254740992
  · rw [if_pos hm, if_pos hm, if_neg (by omega)]
    refine ⟨by omega, by omega, ?_⟩
    have : (e + 1 + 1075).toNat = (e + 1074).toNat + 2 := by omega
    rw [this, Nat.add_mul]
    omega
  · rw [if_neg hm, if_neg hm]
    refine ⟨by omega, by omega, ?_⟩
    split
    · have : e = -1074 := by
        rcases Int.lt_or_le (-1074) e with hl | hl
        · have := h4 hl; omega
        · omega
      subst this
      omega
    · have : (e + 1075).toNat = (e + 1074).toNat + 1 := by omega
      rw [this, Nat.add_mul]
      omega
theorem shl52 {k kk : Nat} (h : k * 4503599627370496 = kk) (hk : kk < 18446744073709551616) : binInt .shl .u64 (k : Int) 52 = some (.int .u64 (kk : Nat)) := by
  have e : k * 2 ^ 52 = kk := by rw [← h]
  have := shl_64 k 52 (by decide) (by rw [e]; exact hk)
  rw [e] at this
  exact this
theorem wrap_sum {a b r : Nat} (h : a + b = r) (hr : r < 18446744073709551616) : IntKind.u64.wrap ((a : Int) + (b : Int)) = (r : Int) := by
  rw [← Int.natCast_add, h, u64_nat hr]
theorem wrap_less {a b r : Nat} (h : b + r = a) (hr : r < 18446744073709551616) : IntKind.u64.wrap ((a : Int) - (b : Int)) = (r : Int) := by
  rw [show (a : Int) - b = (r : Int) by omega, u64_nat hr]
theorem c_number (neg : Bool) (n d : Nat) (hn : Big n) (hd : Big d) (hn0 : n ≠ 0) (hd0 : d ≠ 0) (h : loE n d ≤ 800) :
    Cinf T n_floats_number [.v (.bool neg), .ro 1 (ul (limbs n)), .ro 1 (ul (limbs d))] = some (.v (.float .f64 (wrd neg (rung n d (theE n d)))), [.dead, .dead, .dead]) := by
  have hE : theE n d ≤ 900 := by
    unfold theE
    rw [upE]
    split
    · rw [upE]; omega
    · omega
  have v1 := c_fnearest n d hn hd hn0 hd0 (by omega)
  have his := theE_is hn0 (Nat.pos_of_ne_zero hd0)
  obtain ⟨e1, e2, e3⟩ := rung_end (Nat.pos_of_ne_zero hd0) his hE
  have hlo := his.lo
  have hlo2 : -1074 ≤ endE n d (theE n d) := by unfold endE; split <;> omega
  have hm : endM n d (theE n d) < 9007199254740992 := by
    have := theM_le his
    unfold endM
    split <;> omega
  rw [decide_eq_true e1] at v1
  unfold wideB at v1
  generalize endE n d (theE n d) = e at *
  generalize endM n d (theE n d) = m at *
  generalize rung n d (theE n d) = r at *
  have hi : infR = 9218868437227405312 := rfl
  obtain ⟨x, hx⟩ : ∃ x, 9223372036854775808 + r = x := ⟨_, rfl⟩
  have hor : binInt .or .u64 (r : Nat) 9223372036854775808 = some (.int .u64 (x : Nat)) :=
    or64 (x := r) (y := 9223372036854775808) (by omega) (by decide) ((or_low (c := r) (x := 1) (r := 63) (by omega)).trans (by omega))
  have g1 : glob1 = wideB := rfl
  rw [run_floats_number]
  unfold wrd
  by_cases hb : m < 4503599627370496
  · rw [if_pos hb] at e3
    subst e3
    cases neg with
    | true =>
      rw [if_pos rfl, hx]
      simp [-binInt_or, Run, g1, wideB, v1, hb, hor]
    | false => simp [-binInt_or, Run, g1, wideB, v1, hb]
  · rw [if_neg hb] at e3
    obtain ⟨k, hk⟩ : ∃ k : Nat, e + 1075 = k := ⟨(e + 1075).toNat, by omega⟩
    rw [hk, Int.toNat_natCast] at e3
    have w1 : IntKind.i64.wrap (e + 1075) = (k : Int) := by rw [hk, wrap_i64] <;> omega
    have w2 : IntKind.u64.wrap (k : Int) = (k : Int) := u64_nat (by omega)
    obtain ⟨mm, hmm⟩ : ∃ mm, m - 4503599627370496 = mm := ⟨_, rfl⟩
    obtain ⟨kk, hkk⟩ : ∃ kk, k * 4503599627370496 = kk := ⟨_, rfl⟩
    rw [hmm, hkk] at e3
    have w3 : IntKind.u64.wrap ((m : Int) - 4503599627370496) = (mm : Int) := wrap_less (b := 4503599627370496) (by omega) (by omega)
    have sh := shl52 hkk (by omega)
    have w4 : IntKind.u64.wrap ((kk : Int) + (mm : Int)) = (r : Int) := wrap_sum e3.symm (by omega)
    have hb' : ¬ (m : Int) < 4503599627370496 := by omega
    cases neg with
    | true =>
      rw [if_pos rfl, hx]
      simp [-binInt_or, -binInt_shl, Run, g1, wideB, v1, hb, hb', w1, w2, w3, sh, w4, hor]
    | false => simp [-binInt_or, -binInt_shl, Run, g1, wideB, v1, hb, hb', w1, w2, w3, sh, w4]
theorem rung_scale {n d g : Nat} (hg : 0 < g) (hn : n ≠ 0) (hd : 0 < d) : rung (g * n) (g * d) (theE (g * n) (g * d)) = rung n d (theE n d) := by
  have h1 := theE_is (n := g * n) (d := g * d) (by have := Nat.mul_pos hg (Nat.pos_of_ne_zero hn); omega) (Nat.mul_pos hg hd)
  have h2 := theE_is hn hd
  rw [(h1.unscale hg).unique hd h2]
  unfold rung
  rw [theM_scale hg]
theorem nbits_mono {a b : Nat} (h : a ≤ b) : nbits a ≤ nbits b := nbits_le (Nat.lt_of_le_of_lt h (nbits_lt (Nat.le_refl _)))
theorem nbits_one (n : Nat) (h : n ≠ 0) : 1 ≤ nbits n := by rw [nbits_pos h]; omega
/-- The word of a number of millionths. -/
noncomputable def fw (v : Int) : Nat := if v = 0 then 0 else wrd (decide (v < 0)) (rung v.natAbs 1000000 (theE v.natAbs 1000000))
theorem c_fRatio (v : Int) (h1 : -9223372036854775808 ≤ v) (h2 : v < 9223372036854775808) : Cinf T n_fixed_Ratio [.v (.int .i64 v)] = some (rightR (decide (v < 0)) v.natAbs 1000000, [.dead]) := by
  have a1 := c_amount v h1 h2
  have a2 := c_From v.natAbs (by omega)
  have a3 := c_From 1000000 (by decide)
  have a4 := c_Over (decide (v < 0)) (limbs v.natAbs) (limbs 1000000) (fit_bits (k := 64) (by omega) (by decide)) (fit_bits (k := 64) (by decide) (by decide))
  rw [val_limbs, val_limbs] at a4
  unfold overR at a4
  rw [if_neg (by decide)] at a4
  rw [run_fixed_Ratio]
  unfold rightR at a4 ⊢
  by_cases h0 : v.natAbs = 0
  · rw [if_pos h0] at a4 ⊢
    simp only [rat] at a4 ⊢
    simp at a3
    simp [Run, a1, a2, a3, a4]
  · rw [if_neg h0] at a4 ⊢
    simp only [rat] at a4 ⊢
    simp at a3
    simp [Run, a1, a2, a3, a4]
theorem c_fNearest (neg : Bool) (n d : Nat) (hn : n < 18446744073709551616) (hd : d ≤ 1000000) (hd0 : d ≠ 0) :
    Cinf T n_floats_Nearest [.agg [.v (.bool neg), .ro 1 (ul (limbs n)), .ro 1 (ul (limbs d))]] = some (.tup [.v (.float .f64 (if n = 0 then 0 else wrd neg (rung n d (theE n d)))), .v (.int .i64 0)], [.dead]) := by
  have fn : Fit (limbs n) := fit_bits (k := 64) hn (by decide)
  have fd : Fit (limbs d) := fit_bits (k := 64) (by omega) (by decide)
  have o := c_Over neg (limbs n) (limbs d) fn fd
  rw [val_limbs, val_limbs] at o
  unfold overR at o
  rw [if_neg hd0] at o
  rw [run_floats_Nearest]
  by_cases h0 : n = 0
  · subst h0
    rw [if_pos rfl]
    have l1 := c_Len (limbs 0) (fit_bits (k := 64) (by decide) (by decide))
    have l2 := c_Len (limbs 1) (fit_bits (k := 64) (by decide) (by decide))
    rw [val_limbs] at l1 l2
    rw [nbits_zero] at l1
    have n1 : nbits 1 = 1 := by rw [nbits_pos (by decide)]; simp [nbits_zero]
    rw [n1] at l2
    simp only [rightR, rat, if_true] at o
    have w1 : IntKind.i64.wrap (-1) = -1 := wrap_i64 (by decide) (by decide)
    simp at l1 l2
    simp [Run, o, l1, l2, w1]
  · rw [if_neg h0]
    obtain ⟨g, hg⟩ : ∃ g, Nat.gcd n d = g := ⟨_, rfl⟩
    have hg0 : 0 < g := by rw [← hg]; exact Nat.gcd_pos_of_pos_left _ (Nat.pos_of_ne_zero h0)
    obtain ⟨n', hn'⟩ : ∃ n', n / g = n' := ⟨_, rfl⟩
    obtain ⟨d', hd'⟩ : ∃ d', d / g = d' := ⟨_, rfl⟩
    have en : n = g * n' := by rw [← hn', Nat.mul_div_cancel' (by rw [← hg]; exact Nat.gcd_dvd_left _ _)]
    have ed : d = g * d' := by rw [← hd', Nat.mul_div_cancel' (by rw [← hg]; exact Nat.gcd_dvd_right _ _)]
    unfold rightR at o
    rw [if_neg h0, hg, hn', hd'] at o
    have z1 : n' ≠ 0 := by rintro rfl; exact h0 (by rw [en, Nat.mul_zero])
    have z2 : d' ≠ 0 := by rintro rfl; exact hd0 (by rw [ed, Nat.mul_zero])
    have hn2 : n' ≤ n := by rw [← hn']; exact Nat.div_le_self _ _
    have hd2 : d' ≤ d := by rw [← hd']; exact Nat.div_le_self _ _
    have fn' : Fit (limbs n') := fit_mono fn hn2
    have fd' : Fit (limbs d') := fit_mono fd hd2
    have l1 := c_Len (limbs n') fn'
    have l2 := c_Len (limbs d') fd'
    rw [val_limbs] at l1 l2
    have b1 : nbits n' ≤ 64 := nbits_le (by omega)
    have b2 : nbits d' ≤ 64 := nbits_le (by omega)
    have b3 := nbits_one n' z1
    have hsc := rung_scale (n := n') (d := d') hg0 z1 (Nat.pos_of_ne_zero z2)
    rw [← en, ← ed] at hsc
    have hnum := c_number neg n' d' (Big.of (k := 64) (by omega) (by decide)) (Big.of (k := 64) (by omega) (by decide)) z1 z2 (by unfold loE; omega)
    rw [← hsc] at hnum
    have w1 : IntKind.i64.wrap ((nbits n' : Int) - nbits d') = (nbits n' : Int) - nbits d' := by rw [wrap_i64] <;> omega
    have c1 : ¬ nbits n' = 0 := by omega
    have c2 : ¬ 2000 < (nbits n' : Int) - nbits d' := by omega
    have c3 : ¬ (nbits n' : Int) - nbits d' < -2000 := by omega
    simp only [rat] at o
    simp [Run, o, l1, l2, w1, c1, c2, c3, hnum]
theorem c_Float (v : Int) (h1 : -9223372036854775808 ≤ v) (h2 : v < 9223372036854775808) : Cinf T n_fixed_Float [.v (.int .i64 v)] = some (.v (.float .f64 (fw v)), [.dead]) := by
  have a1 := c_fRatio v h1 h2
  rw [run_fixed_Float]
  unfold fw
  unfold rightR at a1
  by_cases h0 : v = 0
  · subst h0
    rw [if_pos rfl]
    rw [if_pos (by decide)] at a1
    have a2 := c_fNearest false 0 1 (by decide) (by decide) (by decide)
    rw [if_pos rfl] at a2
    simp only [rat] at a1
    simp [Run, a1, a2]
  · have hv : v.natAbs ≠ 0 := by omega
    rw [if_neg h0]
    rw [if_neg hv] at a1
    obtain ⟨g, hg⟩ : ∃ g, Nat.gcd v.natAbs 1000000 = g := ⟨_, rfl⟩
    have hg0 : 0 < g := by rw [← hg]; exact Nat.gcd_pos_of_pos_left _ (Nat.pos_of_ne_zero hv)
    rw [hg] at a1
    obtain ⟨n', hn'⟩ : ∃ n', v.natAbs / g = n' := ⟨_, rfl⟩
    obtain ⟨d', hd'⟩ : ∃ d', 1000000 / g = d' := ⟨_, rfl⟩
    rw [hn', hd'] at a1
    have en : v.natAbs = g * n' := by rw [← hn', Nat.mul_div_cancel' (by rw [← hg]; exact Nat.gcd_dvd_left _ _)]
    have ed : 1000000 = g * d' := by rw [← hd', Nat.mul_div_cancel' (by rw [← hg]; exact Nat.gcd_dvd_right _ _)]
    have z1 : n' ≠ 0 := by rintro rfl; exact hv (by rw [en, Nat.mul_zero])
    have z2 : d' ≠ 0 := by rintro rfl; rw [Nat.mul_zero] at ed; cases ed
    have hn2 : n' ≤ v.natAbs := by rw [← hn']; exact Nat.div_le_self _ _
    have hd2 : d' ≤ 1000000 := by rw [← hd']; exact Nat.div_le_self _ _
    have a2 := c_fNearest (decide (v < 0)) n' d' (by omega) hd2 z2
    have hsc := rung_scale (n := n') (d := d') hg0 z1 (Nat.pos_of_ne_zero z2)
    rw [← en, ← ed] at hsc
    rw [if_neg z1, ← hsc] at a2
    simp only [rat] at a1
    simp [Run, a1, a2]
end Go.AM.F

/- floats.Parts, floats.Quotient, fixed.Nearest: what they answer. No conditions. -/
namespace Go.AM.F
open Go Go.AM
set_option maxRecDepth 10000
set_option linter.unusedSimpArgs false
set_option exponentiation.threshold 110000
attribute [local simp] j0_floats_Parts b_floats_Parts a_floats_Parts
attribute [local simp] j0_floats_Quotient j1_floats_Quotient b_floats_Quotient a_floats_Quotient
attribute [local simp] j0_fixed_Nearest j1_fixed_Nearest j2_fixed_Nearest b_fixed_Nearest a_fixed_Nearest
attribute [local simp] b_math_Abs a_math_Abs
@[local simp] theorem bin_f64 (op : BinOp) (a b : Nat) : bin op (.v (.float .f64 a)) (.v (.float .f64 b)) = (binFloat op .f64 a b).map .v := by simp [bin]
theorem andNot63 (w : Nat) (hw : w < 18446744073709551616) : binInt .andNot .u64 w 9223372036854775808 = some (.int .u64 (rg w : Nat)) := by
  have e1 : (BitVec.ofInt IntKind.u64.bits (w : Int) &&& ~~~ BitVec.ofInt IntKind.u64.bits 9223372036854775808).toNat = rg w := by
    rw [BitVec.toNat_and, bv64 w hw, BitVec.toNat_not, show (BitVec.ofInt IntKind.u64.bits 9223372036854775808).toNat = 9223372036854775808 from bv64 9223372036854775808 (by decide)]
    exact Nat.and_two_pow_sub_one_eq_mod w 63
  have hr : rg w < 18446744073709551616 := by unfold rg; omega
  simp only [binInt]
  rw [e1, u64_nat hr]
theorem c_Abs (w : Nat) (hw : w < 18446744073709551616) : Cinf T n_math_Abs [.v (.float .f64 w)] = some (.v (.float .f64 (rg w)), [.dead]) := by
  have h := andNot63 w hw
  rw [run_math_Abs]
  simp [-binInt_andNot, Run, h]
/-- The exponent's field and the fraction's. -/
def fE (w : Nat) : Nat := w / 4503599627370496 % 2048
def fM (w : Nat) : Nat := w % 4503599627370496
theorem rg_fields (w : Nat) : rg w = fE w * 4503599627370496 + fM w ∧ fE w < 2048 ∧ fM w < 4503599627370496 := by
  unfold rg fE fM
  omega
def partsR (w : Nat) : PV :=
  if fE w = 2047 then (if fM w = 0 then .tup [.v (.bool (sgn w)), .v (.int .u64 0), .v (.int .i64 0), .v (.int .u8 3)] else .tup [.v (.bool (sgn w)), .v (.int .u64 (fM w : Nat)), .v (.int .i64 0), .v (.int .u8 4)])
  else if fE w = 0 then (if fM w = 0 then .tup [.v (.bool (sgn w)), .v (.int .u64 0), .v (.int .i64 0), .v (.int .u8 0)] else .tup [.v (.bool (sgn w)), .v (.int .u64 (fM w : Nat)), .v (.int .i64 (-1074)), .v (.int .u8 1)])
  else .tup [.v (.bool (sgn w)), .v (.int .u64 (4503599627370496 + fM w : Nat)), .v (.int .i64 ((fE w : Int) - 1075)), .v (.int .u8 2)]
theorem c_Parts (w : Nat) (hw : w < 18446744073709551616) : Cinf T n_floats_Parts [.v (.float .f64 w)] = some (partsR w, [.dead]) := by
  have hs1 : binInt .shr .u64 (w : Int) 63 = some (.int .u64 (w / 9223372036854775808 : Nat)) := shr_64 w 63 (by decide)
  have hs2 : binInt .shr .u64 (w : Int) 52 = some (.int .u64 (w / 4503599627370496 : Nat)) := shr_64 w 52 (by decide)
  obtain ⟨q, hq⟩ : ∃ q, w / 9223372036854775808 = q := ⟨_, rfl⟩
  obtain ⟨p, hp⟩ : ∃ p, w / 4503599627370496 = p := ⟨_, rfl⟩
  rw [hq] at hs1
  rw [hp] at hs2
  have ha1 : binInt .and .u64 (p : Int) 2047 = some (.int .u64 (fE w : Nat)) := and64 (x := p) (y := 2047) (by omega) (by decide) (by unfold fE; rw [hp]; exact Nat.and_two_pow_sub_one_eq_mod p 11)
  have ha2 : binInt .and .u64 (w : Int) 4503599627370495 = some (.int .u64 (fM w : Nat)) := and64 (x := w) (y := 4503599627370495) hw (by decide) (by unfold fM; exact Nat.and_two_pow_sub_one_eq_mod w 52)
  have hq2 : (q = 1) = (sgn w = true) := propext (by unfold sgn; rw [hq, beq_iff_eq]; omega)
  have hsg : sgn w = decide (q = 1) := by cases h : sgn w <;> simp [hq2, h]
  obtain ⟨_, f1, f2⟩ := rg_fields w
  have hw1 : IntKind.i64.wrap (fE w : Int) = fE w := wrap_nat (by omega)
  have hw2 : IntKind.i64.wrap ((fE w : Int) - 1075) = (fE w : Int) - 1075 := by rw [wrap_i64] <;> omega
  have hor : binInt .or .u64 (fM w : Nat) 4503599627370496 = some (.int .u64 (4503599627370496 + fM w : Nat)) :=
    or64 (y := 4503599627370496) (by omega) (by decide) ((or_low (x := 1) (r := 52) (by omega)).trans (by omega))
  rw [run_floats_Parts]
  unfold partsR
  rw [hsg]
  obtain ⟨z, hz⟩ : ∃ z, 4503599627370496 + fM w = z := ⟨_, rfl⟩
  rw [hz] at hor ⊢
  generalize fE w = ee at *
  generalize fM w = mm at *
  by_cases h1 : ee = 2047
  · by_cases h2 : mm = 0
    · simp [-binInt_shr, -binInt_and, -binInt_or, Run, hs1, hs2, ha1, ha2, hw1, h1, h2]
    · simp [-binInt_shr, -binInt_and, -binInt_or, Run, hs1, hs2, ha1, ha2, hw1, h1, h2]
  · by_cases h3 : ee = 0
    · by_cases h2 : mm = 0
      · simp [-binInt_shr, -binInt_and, -binInt_or, Run, hs1, hs2, ha1, ha2, hw1, h1, h2, h3]
      · simp [-binInt_shr, -binInt_and, -binInt_or, Run, hs1, hs2, ha1, ha2, hw1, h1, h2, h3]
    · simp [-binInt_shr, -binInt_and, -binInt_or, Run, hs1, hs2, ha1, ha2, hw1, hw2, h1, h3, hor]
def mW (w : Nat) : Nat := if fE w = 0 then fM w else 4503599627370496 + fM w
def qE (w : Nat) : Int := if fE w = 0 then -1074 else (fE w : Int) - 1075
def qNum (w : Nat) : Nat := mW w * 2 ^ (qE w).toNat
def qDen (w : Nat) : Nat := 2 ^ (-qE w).toNat
theorem mW_lt (w : Nat) : mW w < 9007199254740992 := by
  have := (rg_fields w).2.2
  unfold mW
  split <;> omega
theorem qE_range (w : Nat) : -1074 ≤ qE w ∧ qE w ≤ 1000 := by
  have := (rg_fields w).2.1
  unfold qE
  split <;> omega
theorem qNum_lt (w : Nat) : qNum w < 2 ^ 1053 := by
  have h1 := mW_lt w
  have h2 := qE_range w
  unfold qNum
  rw [show 1053 = 53 + 1000 from rfl, Nat.pow_add]
  exact Nat.mul_lt_mul_of_lt_of_le (by rw [show (2 : Nat) ^ 53 = 9007199254740992 by decide]; exact h1) (Nat.pow_le_pow_right (by decide) (by omega)) (Nat.two_pow_pos _)
theorem qDen_le (w : Nat) : qDen w < 2 ^ 1075 := by
  have h2 := qE_range w
  unfold qDen
  exact Nat.pow_lt_pow_right (by decide) (by omega)
theorem qDen_pos (w : Nat) : 0 < qDen w := Nat.two_pow_pos _
theorem fin_fields {w : Nat} (h : rg w < infR) : fE w ≠ 2047 := by
  obtain ⟨h1, _, _⟩ := rg_fields w
  unfold infR at h
  omega
theorem c_Quotient (w : Nat) (hw : w < 18446744073709551616) (hf : rg w < infR) : Cinf T n_floats_Quotient [.v (.float .f64 w)] = some (.tup [rightR (sgn w) (qNum w) (qDen w), .v (.int .i64 0)], [.dead]) := by
  have p1 := c_Parts w hw
  have hne := fin_fields hf
  have hm := mW_lt w
  have hq := qE_range w
  have o := c_Over (sgn w) (limbs (qNum w)) (limbs (qDen w)) (fit_bits (qNum_lt w) (by decide)) (fit_bits (qDen_le w) (by decide))
  rw [val_limbs, val_limbs] at o
  unfold overR at o
  rw [if_neg (by have := qDen_pos w; omega)] at o
  have fr := c_From (mW w) (by omega)
  have f1 := c_From 1 (by decide)
  have fmw : Fit (limbs (mW w)) := fit_bits (k := 64) (by omega) (by decide)
  have fone : Fit (limbs 1) := fit_bits (k := 64) (by decide) (by decide)
  have u1 := c_Up (limbs (mW w)) fmw (qE w)
  have u2 := c_Up (limbs 1) fone (-qE w)
  rw [val_limbs] at u1 u2
  unfold upR at u1 u2
  simp at f1
  unfold partsR at p1
  rw [if_neg hne] at p1
  rw [run_floats_Quotient]
  have hwn : IntKind.i64.wrap (-qE w) = -qE w := by rw [wrap_i64] <;> omega
  -- a number that is not nought
  have main : ∀ (k : Int), Cinf T n_floats_Parts [.v (.float .f64 w)] = some (.tup [.v (.bool (sgn w)), .v (.int .u64 (mW w : Nat)), .v (.int .i64 (qE w)), .v (.int .u8 k)], [.dead]) → k ≠ 3 → k ≠ 4 → Run T a_floats_Quotient [.v (.float .f64 w)] = some (.tup [rightR (sgn w) (qNum w) (qDen w), .v (.int .i64 0)], [.dead]) := by
    intro k pk k3 k4
    unfold rightR at o ⊢
    by_cases h0 : qNum w = 0
    · rw [if_pos h0] at o ⊢
      by_cases hge : 0 ≤ qE w
      · rw [if_neg (by omega)] at u1
        change _ = some (PV.tup [.own 1 (ul (limbs (qNum w))), _], _) at u1
        have hd1 : qDen w = 1 := by unfold qDen; rw [show (-qE w).toNat = 0 by omega]
        rw [hd1] at o
        simp only [rat] at o ⊢
        simp [Run, pk, k3, k4, fr, f1, hge, u1, o]
      · rw [if_neg (by omega), Nat.one_mul] at u2
        change _ = some (PV.tup [.own 1 (ul (limbs (qDen w))), _], _) at u2
        have hn1 : qNum w = mW w := by unfold qNum; rw [show (qE w).toNat = 0 by omega, Nat.pow_zero, Nat.mul_one]
        rw [hn1] at o
        simp only [rat] at o ⊢
        simp [Run, pk, k3, k4, fr, f1, hge, hwn, u2, o]
    · rw [if_neg h0] at o ⊢
      by_cases hge : 0 ≤ qE w
      · rw [if_neg (by omega)] at u1
        change _ = some (PV.tup [.own 1 (ul (limbs (qNum w))), _], _) at u1
        have hd1 : qDen w = 1 := by unfold qDen; rw [show (-qE w).toNat = 0 by omega]
        rw [hd1] at o ⊢
        simp only [rat] at o ⊢
        simp only [Nat.gcd_one_right] at o ⊢
        simp [Run, pk, k3, k4, fr, f1, hge, u1, o]
      · rw [if_neg (by omega), Nat.one_mul] at u2
        change _ = some (PV.tup [.own 1 (ul (limbs (qDen w))), _], _) at u2
        have hn1 : qNum w = mW w := by unfold qNum; rw [show (qE w).toNat = 0 by omega, Nat.pow_zero, Nat.mul_one]
        rw [hn1] at o ⊢
        simp only [rat] at o ⊢
        simp [Run, pk, k3, k4, fr, f1, hge, hwn, u2, o]
  by_cases h1 : fE w = 0
  · rw [if_pos h1] at p1
    by_cases h2 : fM w = 0
    · rw [if_pos h2] at p1
      have hm0 : mW w = 0 := by unfold mW; rw [if_pos h1, h2]
      have hn0 : qNum w = 0 := by unfold qNum; rw [hm0, Nat.zero_mul]
      have u0 := c_Up (limbs 0) (fit_bits (k := 64) (by decide) (by decide)) 0
      rw [val_limbs] at u0
      unfold upR at u0
      rw [if_neg (by decide)] at u0
      have o0 := c_Over (sgn w) (limbs 0) (limbs 1) (fit_bits (k := 64) (by decide) (by decide)) fone
      rw [val_limbs, val_limbs] at o0
      unfold overR rightR at o0
      rw [if_neg (by decide), if_pos rfl] at o0
      rw [hm0] at fr
      unfold rightR
      rw [if_pos hn0]
      simp only [rat] at o0 ⊢
      simp at u0 fr
      simp [Run, p1, fr, f1, u0, o0]
    · rw [if_neg h2] at p1
      refine main 1 ?_ (by decide) (by decide)
      rw [p1]
      unfold mW qE
      rw [if_pos h1, if_pos h1]
  · rw [if_neg h1] at p1
    refine main 2 ?_ (by decide) (by decide)
    rw [p1]
    unfold mW qE
    rw [if_neg h1, if_neg h1]
/-- What fixed.Nearest answers. -/
def nearR (w : Nat) : PV :=
  if infR < rg w then .tup [.v (.int .i64 0), .v (.int .i64 60)]
  else if 4816244402031689728 < rg w then .tup [.v (.int .i64 0), .v (.int .i64 41)]
  else if 9223372036854775808 < rnd (qNum w * 1000000) (qDen w) ∨ (rnd (qNum w * 1000000) (qDen w) = 9223372036854775808 ∧ sgn w = false) then .tup [.v (.int .i64 0), .v (.int .i64 41)]
  else .tup [.v (.int .i64 (if sgn w = true then -(rnd (qNum w * 1000000) (qDen w) : Int) else rnd (qNum w * 1000000) (qDen w))), .v (.int .i64 0)]
theorem rg_rg (w : Nat) : rg (rg w) = rg w := by unfold rg; omega
theorem sgn_rg (w : Nat) : sgn (rg w) = false := by
  unfold sgn
  have h : rg w / 9223372036854775808 = 0 := by unfold rg; omega
  rw [h]
  rfl
theorem sv_rg (w : Nat) : sv (rg w) = dval (rg w) := by
  unfold sv
  rw [sgn_rg, rg_rg, if_neg (by decide)]
set_option maxRecDepth 100000 in
theorem c_fixNearest (w : Nat) (hw : w < 18446744073709551616) : Cinf T n_fixed_Nearest [.v (.float .f64 w)] = some (nearR w, [.dead]) := by
  have hrw := rg_rg w
  have a1 := c_Abs w hw
  rw [run_fixed_Nearest]
  unfold nearR
  rcases Nat.lt_trichotomy (rg w) infR with hf | hf | hf
  · rw [if_neg (by omega)]
    have q1 : (FloatKind.f64.format.order w w == some .eq) = true := by rw [flt_eq hf hf]; exact decide_eq_true rfl
    have q2 : (FloatKind.f64.format.order (rg w) 4816244402031689728 == some .gt) = decide (4816244402031689728 < rg w) := by
      rw [flt_gt (by rw [hrw]; exact hf) (by decide)]
      have e1 : sv 4816244402031689728 = dval 4816244402031689728 := sv_rg 4816244402031689728
      rw [sv_rg, e1]
      have := @dval_le (rg w) 4816244402031689728
      rw [decide_eq_decide]
      omega
    have q1' : FloatKind.f64.format.order w w = some .eq := by simpa using q1
    by_cases hbig : 4816244402031689728 < rg w
    · rw [decide_eq_true hbig] at q2
      have q2' : FloatKind.f64.format.order (rg w) 4816244402031689728 = some .gt := by simpa using q2
      rw [if_pos hbig]
      simp [Run, binFloat, q1', a1, q2']
    · rw [decide_eq_false hbig] at q2
      have q2' : ¬ FloatKind.f64.format.order (rg w) 4816244402031689728 = some .gt := by simpa using q2
      rw [if_neg hbig]
      have c1 := c_Quotient w hw hf
      have hd0 := qDen_pos w
      have f6 := c_From 1000000 (by decide)
      simp at f6
      -- the rounded product
      have key : ∀ (n d : Nat), Fit (limbs n) → Fit (limbs d) → Fit (limbs 1000000) → d ≠ 0 → rnd (n * 1000000) d = rnd (qNum w * 1000000) (qDen w) → n ≤ qNum w → d ≤ qDen w → ∀ neg, Cinf T n_fixed_signed [.v (.bool neg), .ro 1 (ul (limbs (rnd (qNum w * 1000000) (qDen w))))] = some (sgnR neg (rnd (qNum w * 1000000) (qDen w)), [.dead, .dead]) ∧
          Cinf T n_limbs_Mul [.ro 1 (ul (limbs n)), .ro 1 (ul (limbs 1000000))] = some (.own 1 (ul (limbs (n * 1000000))), [.dead, .dead]) ∧
          Cinf T n_fixed_rounded [.ro 1 (ul (limbs (n * 1000000))), .ro 1 (ul (limbs d))] = some (.own 1 (ul (limbs (rnd (qNum w * 1000000) (qDen w)))), [.dead, .dead]) := by
        intro n d fn fd f1 hd hr hn hdl neg
        have hnb : n * 1000000 < 2 ^ 1073 := by
          have := qNum_lt w
          rw [show 1073 = 1053 + 20 from rfl, Nat.pow_add]
          exact Nat.mul_lt_mul_of_lt_of_le (Nat.lt_of_le_of_lt hn this) (by decide) (by decide)
        have hrl : rnd (n * 1000000) d < 2 ^ 1074 := by
          have h1 := rnd_le (n * 1000000) d
          have h2 := Nat.div_le_self (n * 1000000) d
          have h3 : (2 : Nat) ^ 1074 = 2 ^ 1073 * 2 := Nat.pow_succ 2 1073
          generalize (2 : Nat) ^ 1073 = P at *
          omega
        have m1 := c_Mul (limbs n) (limbs 1000000) fn f1
        rw [val_limbs, val_limbs] at m1
        have r1 := c_rounded (n * 1000000) d (fit_bits hnb (by decide)) fd hd (fit_bits (k := 1076) (by
          have h1 := Nat.mod_lt (n * 1000000) (Nat.pos_of_ne_zero hd)
          have h2 := qDen_le w
          have h3 : (2 : Nat) ^ 1076 = 2 ^ 1075 * 2 := Nat.pow_succ 2 1075
          generalize (2 : Nat) ^ 1075 = P at *
          omega) (by decide))
        have s1 := c_signed neg (rnd (n * 1000000) d) (fit_bits hrl (by decide))
        rw [hr] at r1 s1
        exact ⟨s1, m1, r1⟩
      have f1m : Fit (limbs 1000000) := fit_bits (k := 64) (by decide) (by decide)
      have fin : ∀ (neg : Bool) (n d : Nat), Cinf T n_floats_Quotient [.v (.float .f64 w)] = some (.tup [rat neg n d, .v (.int .i64 0)], [.dead]) → Fit (limbs n) → Fit (limbs d) → d ≠ 0 → rnd (n * 1000000) d = rnd (qNum w * 1000000) (qDen w) → n ≤ qNum w → d ≤ qDen w →
          (if 9223372036854775808 < rnd (qNum w * 1000000) (qDen w) ∨ (rnd (qNum w * 1000000) (qDen w) = 9223372036854775808 ∧ neg = false) then PV.tup [.v (.int .i64 0), .v (.int .i64 41)] else .tup [.v (.int .i64 (if neg = true then -(rnd (qNum w * 1000000) (qDen w) : Int) else rnd (qNum w * 1000000) (qDen w))), .v (.int .i64 0)]) =
            (if 9223372036854775808 < rnd (qNum w * 1000000) (qDen w) ∨ (rnd (qNum w * 1000000) (qDen w) = 9223372036854775808 ∧ sgn w = false) then PV.tup [.v (.int .i64 0), .v (.int .i64 41)] else .tup [.v (.int .i64 (if sgn w = true then -(rnd (qNum w * 1000000) (qDen w) : Int) else rnd (qNum w * 1000000) (qDen w))), .v (.int .i64 0)]) →
          Run T a_fixed_Nearest [.v (.float .f64 w)] = some (if 9223372036854775808 < rnd (qNum w * 1000000) (qDen w) ∨ (rnd (qNum w * 1000000) (qDen w) = 9223372036854775808 ∧ sgn w = false) then PV.tup [.v (.int .i64 0), .v (.int .i64 41)] else .tup [.v (.int .i64 (if sgn w = true then -(rnd (qNum w * 1000000) (qDen w) : Int) else rnd (qNum w * 1000000) (qDen w))), .v (.int .i64 0)], [.dead]) := by
        intro neg n d cq fn fd hd hr hn hdl heq
        obtain ⟨s1, m1, r1⟩ := key n d fn fd f1m hd hr hn hdl neg
        rw [← heq]
        simp only [rat] at cq
        unfold sgnR at s1
        by_cases hc : 9223372036854775808 < rnd (qNum w * 1000000) (qDen w) ∨ (rnd (qNum w * 1000000) (qDen w) = 9223372036854775808 ∧ neg = false)
        · rw [if_pos hc] at s1 ⊢
          obtain ⟨r, hrr⟩ : ∃ r, rnd (qNum w * 1000000) (qDen w) = r := ⟨_, rfl⟩
          rw [hrr] at s1 r1
          simp [Run, binFloat, q1', a1, q2', cq, f6, m1, r1, s1]
        · rw [if_neg hc] at s1 ⊢
          obtain ⟨r, hrr⟩ : ∃ r, rnd (qNum w * 1000000) (qDen w) = r := ⟨_, rfl⟩
          rw [hrr] at s1 r1 ⊢
          simp [Run, binFloat, q1', a1, q2', cq, f6, m1, r1, s1]
      unfold rightR at c1
      by_cases h0 : qNum w = 0
      · rw [if_pos h0] at c1
        have hr0 : rnd (0 * 1000000) 1 = rnd (qNum w * 1000000) (qDen w) := by
          rw [h0, Nat.zero_mul]
          unfold rnd
          have : ¬ qDen w < 0 := by omega
          simp
        have hz : rnd (qNum w * 1000000) (qDen w) = 0 := by rw [← hr0]; decide
        refine fin false 0 1 c1 (fit_bits (k := 64) (by decide) (by decide)) (fit_bits (k := 64) (by decide) (by decide)) (by decide) hr0 (by omega) (by omega) ?_
        rw [hz, if_neg (by decide), if_neg (by simp)]
        cases sgn w <;> simp
      · rw [if_neg h0] at c1
        obtain ⟨g, hg⟩ : ∃ g, Nat.gcd (qNum w) (qDen w) = g := ⟨_, rfl⟩
        have hg0 : 0 < g := by rw [← hg]; exact Nat.gcd_pos_of_pos_left _ (Nat.pos_of_ne_zero h0)
        rw [hg] at c1
        have en : qNum w = g * (qNum w / g) := by rw [Nat.mul_div_cancel' (by rw [← hg]; exact Nat.gcd_dvd_left _ _)]
        have ed : qDen w = g * (qDen w / g) := by rw [Nat.mul_div_cancel' (by rw [← hg]; exact Nat.gcd_dvd_right _ _)]
        refine fin (sgn w) (qNum w / g) (qDen w / g) c1 (fit_mono (fit_bits (qNum_lt w) (by decide)) (Nat.div_le_self _ _)) (fit_mono (fit_bits (qDen_le w) (by decide)) (Nat.div_le_self _ _)) ?_ ?_ (Nat.div_le_self _ _) (Nat.div_le_self _ _) rfl
        · intro h
          rw [h, Nat.mul_zero] at ed
          omega
        · have := rnd_scale (qNum w / g * 1000000) (qDen w / g) g hg0
          rw [← Nat.mul_assoc, ← en, ← ed] at this
          exact this.symm
  · have q1 := order_self_inf hf
    have q2 : FloatKind.f64.format.order (rg w) 4816244402031689728 = some .gt := order_inf_pos (by rw [hrw]; exact hf) (sgn_rg w) (by decide)
    rw [if_neg (by omega), if_pos (by rw [hf]; decide)]
    simp [Run, binFloat, q1, a1, q2]
  · have q1 : FloatKind.f64.format.order w w = none := order_nan hf
    rw [if_pos hf]
    simp [Run, binFloat, q1]
end Go.AM.F

/- FixedRises: what the law answers. No conditions. -/
namespace Go.AM.F
open Go Go.AM
set_option maxRecDepth 10000
set_option linter.unusedSimpArgs false

theorem theE_small {n : Nat} (hn0 : n ≠ 0) (hn : n < 18446744073709551616) : -1074 < theE n 1000000 ∧ theE n 1000000 ≤ 20 := by
  have h := theE_is hn0 (show 0 < 1000000 by decide)
  have h1 := theE_range (by decide) h
  have b1 : nbits n ≤ 64 := nbits_le (by omega)
  have b2 := h.lo
  refine ⟨?_, by omega⟩
  rcases Int.lt_or_eq_of_le b2 with hl | hl
  · exact hl
  · have h3 := h.fits
    rw [← hl] at h3
    have : 2 ^ 53 ≤ qQ n 1000000 (-1074) := by
      refine qQ_ge hn0 (by decide) ?_
      have b3 := nbits_one n hn0
      have b4 : nbits 1000000 ≤ 20 := nbits_le (by decide)
      omega
    omega
/-- The word's step above nought. -/
noncomputable def fr (n : Nat) : Nat := if n = 0 then 0 else rung n 1000000 (theE n 1000000)
theorem fr_lt {n : Nat} (hn : n < 18446744073709551616) : fr n < infR := by
  unfold fr
  split
  · decide
  · rename_i h
    obtain ⟨h1, h2⟩ := theE_small h hn
    exact (rung_end (by decide) (theE_is h (by decide)) (by omega)).2.1
theorem fr_mono {n n' : Nat} (h : n ≤ n') : fr n ≤ fr n' := by
  unfold fr
  by_cases h0 : n = 0
  · rw [if_pos h0]; exact Nat.zero_le _
  · rw [if_neg h0, if_neg (by omega)]
    exact rung_mono (by decide) h (theE_is h0 (by decide)) (theE_is (by omega) (by decide))
theorem infR_lt : infR < 9223372036854775808 := by decide
theorem fw_eq (v : Int) : fw v = if v < 0 then 9223372036854775808 + fr v.natAbs else fr v.natAbs := by
  unfold fw fr wrd
  by_cases h0 : v = 0
  · subst h0; rfl
  · have hz : v.natAbs ≠ 0 := by omega
    rw [if_neg h0, if_neg hz]
    by_cases h1 : v < 0
    · rw [decide_eq_true h1, if_pos rfl, if_pos h1]
    · rw [decide_eq_false h1, if_neg (by decide), if_neg h1]
theorem fw_word (v : Int) (hv : v.natAbs < 18446744073709551616) : fw v < 18446744073709551616 ∧ rg (fw v) = fr v.natAbs ∧ sgn (fw v) = decide (v < 0) := by
  have h := fr_lt hv
  have hi := infR_lt
  rw [fw_eq]
  generalize fr v.natAbs = r at *
  unfold rg sgn
  by_cases h1 : v < 0
  · rw [if_pos h1, decide_eq_true h1, show (9223372036854775808 + r) / 9223372036854775808 = 1 by omega]
    exact ⟨by omega, by omega, rfl⟩
  · rw [if_neg h1, decide_eq_false h1, show r / 9223372036854775808 = 0 by omega]
    exact ⟨by omega, by omega, rfl⟩
theorem sv_fw (v : Int) (hv : v.natAbs < 18446744073709551616) : sv (fw v) = if v < 0 then -(dval (fr v.natAbs) : Int) else dval (fr v.natAbs) := by
  obtain ⟨_, h2, h3⟩ := fw_word v hv
  unfold sv
  rw [h2, h3]
  by_cases h1 : v < 0
  · rw [decide_eq_true h1, if_pos rfl, if_pos h1]
  · rw [decide_eq_false h1, if_neg (by decide), if_neg h1]
theorem sv_mono {v u : Int} (h : v ≤ u) (hv : v.natAbs < 18446744073709551616) (hu : u.natAbs < 18446744073709551616) : sv (fw v) ≤ sv (fw u) := by
  rw [sv_fw v hv, sv_fw u hu]
  by_cases h1 : v < 0
  · rw [if_pos h1]
    by_cases h2 : u < 0
    · rw [if_pos h2]
      have := dval_le.1 (fr_mono (show u.natAbs ≤ v.natAbs by omega))
      omega
    · rw [if_neg h2]
      omega
  · rw [if_neg h1, if_neg (by omega)]
    have := dval_le.1 (fr_mono (show v.natAbs ≤ u.natAbs by omega))
    omega
theorem word_back {e : Int} {m w : Nat} (he : -1074 < e) (he2 : e ≤ -20) (h1 : 4503599627370496 ≤ m) (h2 : m ≤ 9007199254740992) (hw : rg w = (e + 1074).toNat * 4503599627370496 + m) (A : Nat) :
    rnd (qNum w * A) (qDen w) = rnd (m * A) (2 ^ (-e).toNat) := by
  obtain ⟨p1, p2, p3⟩ := rg_fields w
  obtain ⟨k, hk⟩ : ∃ k, (e + 1074).toNat = k := ⟨_, rfl⟩
  rw [hk] at hw
  unfold qNum qDen
  by_cases hm : m = 9007199254740992
  · have f1 : fE w = k + 2 := by omega
    have f2 : fM w = 0 := by omega
    have g1 : mW w = 4503599627370496 := by unfold mW; rw [if_neg (by omega), f2]
    have g2 : qE w = e + 1 := by unfold qE; rw [if_neg (by omega), f1]; omega
    rw [g1, g2, show (e + 1).toNat = 0 by omega, Nat.pow_zero, Nat.mul_one, hm, show (-e).toNat = (-(e + 1)).toNat + 1 by omega, Nat.pow_succ, Nat.mul_comm _ 2,
      show 9007199254740992 * A = 2 * (4503599627370496 * A) by omega, rnd_scale _ _ _ (by decide)]
  · have f1 : fE w = k + 1 := by omega
    have f2 : fM w = m - 4503599627370496 := by omega
    have g1 : mW w = m := by unfold mW; rw [if_neg (by omega), f2]; omega
    have g2 : qE w = e := by unfold qE; rw [if_neg (by omega), f1]; omega
    rw [g1, g2, show e.toNat = 0 by omega, Nat.pow_zero, Nat.mul_one]
theorem nearR_fw (v : Int) (hv : v.natAbs ≤ 4503599627370496) : nearR (fw v) = .tup [.v (.int .i64 v), .v (.int .i64 0)] := by
  obtain ⟨h1, h2, h3⟩ := fw_word v (by omega)
  have hlt := fr_lt (n := v.natAbs) (by omega)
  unfold nearR
  rw [h2, h3, if_neg (by omega)]
  by_cases h0 : v = 0
  · subst h0
    have e0 : fw 0 = 0 := by unfold fw; rw [if_pos rfl]
    have e1 : fr (Int.natAbs 0) = 0 := rfl
    have e2 : rnd (qNum 0 * 1000000) (qDen 0) = 0 := by
      have : qNum 0 = 0 := by unfold qNum mW fE fM; rfl
      rw [this]
      unfold rnd
      rw [Nat.zero_mul]
      simp
    rw [e0, e1, e2]
    rfl
  · have hn0 : v.natAbs ≠ 0 := by omega
    obtain ⟨e1, e2⟩ := theE_small hn0 (by omega)
    have hE := theE_is hn0 (show 0 < 1000000 by decide)
    have hfr : fr v.natAbs = rung v.natAbs 1000000 (theE v.natAbs 1000000) := by unfold fr; rw [if_neg hn0]
    obtain ⟨n, hn⟩ : ∃ n, v.natAbs = n := ⟨_, rfl⟩
    obtain ⟨e, he⟩ : ∃ e, theE n 1000000 = e := ⟨_, rfl⟩
    rw [hn] at hfr hE hn0 e1 e2 h2 hlt ⊢
    rw [he] at hfr hE e1 e2
    have e20 : e ≤ -20 := by
      rcases Int.lt_or_le (-20) e with hl | hl
      · rcases hE.least with k | k
        · omega
        · have k2 := qQ_le (n := n) (show 0 < 1000000 by decide) (show -20 ≤ e - 1 by omega)
          have k3 : qQ n 1000000 (-20) = n * 1048576 / 1000000 := by unfold qQ qA qB; rfl
          omega
      · exact hl
    have m1 := theE_full (by decide) hE e1
    have m2 := theM_ge (n := n) (d := 1000000) (e := e)
    have m3 := theM_le hE
    obtain ⟨m, hm⟩ : ∃ m, theM n 1000000 e = m := ⟨_, rfl⟩
    have hr : rung n 1000000 e = (e + 1074).toNat * 4503599627370496 + m := by unfold rung; rw [hm]
    rw [hm] at m2 m3
    have wb := word_back (w := fw v) (A := 1000000) e1 e20 (by omega) m3 (by rw [h2, hfr, hr])
    have back : rnd (m * 1000000) (2 ^ (-e).toNat) = n := by
      have hp : 2 ^ 20 ≤ 2 ^ (-e).toNat := Nat.pow_le_pow_right (by decide) (by omega)
      obtain ⟨P, hP⟩ : ∃ P, 2 ^ (-e).toNat = P := ⟨_, rfl⟩
      have hmm : m = rnd (n * P) 1000000 := by
        rw [← hm]
        unfold theM qA qB
        rw [hP, show e.toNat = 0 by omega]
      rw [hP] at hp ⊢
      obtain ⟨c1, c2⟩ := rnd_near (n * P) 1000000 (by decide)
      rw [← hmm] at c1 c2
      obtain ⟨x, hx⟩ : ∃ x, n * P = x := ⟨_, rfl⟩
      rw [hx] at c1 c2
      have hp2 : 1048576 ≤ P := hp
      refine rnd_unique (by omega) ?_ ?_
      · rw [hx]; omega
      · rw [hx]; omega
    rw [back] at wb
    rw [wb, hfr, hr, if_neg (by omega), if_neg (by omega)]
    have hv2 : (if decide (v < 0) = true then -(n : Int) else n) = v := by
      by_cases hs : v < 0
      · rw [decide_eq_true hs, if_pos rfl]; omega
      · rw [decide_eq_false hs, if_neg (by decide)]; omega
    rw [hv2]
attribute [local simp] j0_thicketlaw04_FixedRises j1_thicketlaw04_FixedRises j2_thicketlaw04_FixedRises j3_thicketlaw04_FixedRises b_thicketlaw04_FixedRises a_thicketlaw04_FixedRises
@[local simp] theorem bin_f64' (op : BinOp) (a b : Nat) : bin op (.v (.float .f64 a)) (.v (.float .f64 b)) = (binFloat op .f64 a b).map .v := by simp [bin]
theorem flt_not_gt {a b : Int} (h : a ≤ b) (h1 : -9223372036854775808 ≤ a) (h2 : b < 9223372036854775808) : (FloatKind.f64.format.order (fw a) (fw b) = some .gt) = False := by
  have ha : a.natAbs < 18446744073709551616 := by omega
  have hb : b.natAbs < 18446744073709551616 := by omega
  have ra := (fw_word a ha).2.1
  have rb := (fw_word b hb).2.1
  have g := flt_gt (w := fw a) (v := fw b) (by rw [ra]; exact fr_lt ha) (by rw [rb]; exact fr_lt hb)
  have m := sv_mono h ha hb
  rw [decide_eq_false (by omega)] at g
  exact eq_false (by simpa using g)
theorem c_FixedRises (a b : Int) (ha : -9223372036854775808 ≤ a ∧ a < 9223372036854775808) (hb : -9223372036854775808 ≤ b ∧ b < 9223372036854775808) :
    ∃ l, Cinf T n_thicketlaw04_FixedRises [.v (.int .i64 a), .v (.int .i64 b)] = some (.v (.bool true), l) := by
  rw [run_thicketlaw04_FixedRises]
  have fa := c_Float a ha.1 ha.2
  have fb := c_Float b hb.1 hb.2
  by_cases hs : b < a
  · have g := flt_not_gt (Int.le_of_lt hs) hb.1 ha.2
    by_cases hbig : 4503599627370496 < b
    · exact ⟨_, by simp [Run, c_begins, binFloat, hs, fa, fb, g, hbig]; rfl⟩
    · by_cases hlow : b < -4503599627370496
      · exact ⟨_, by simp [Run, c_begins, binFloat, hs, fa, fb, g, hbig, hlow]; rfl⟩
      · have n1 := c_fixNearest (fw b) (fw_word b (by omega)).1
        rw [nearR_fw b (by omega)] at n1
        exact ⟨_, by simp [Run, c_begins, binFloat, hs, fa, fb, g, hbig, hlow, n1]; rfl⟩
  · have g := flt_not_gt (show a ≤ b by omega) ha.1 hb.2
    by_cases hbig : 4503599627370496 < a
    · exact ⟨_, by simp [Run, c_begins, binFloat, hs, fa, fb, g, hbig]; rfl⟩
    · by_cases hlow : a < -4503599627370496
      · exact ⟨_, by simp [Run, c_begins, binFloat, hs, fa, fb, g, hbig, hlow]; rfl⟩
      · have n1 := c_fixNearest (fw a) (fw_word a (by omega)).1
        rw [nearR_fw a (by omega)] at n1
        exact ⟨_, by simp [Run, c_begins, binFloat, hs, fa, fb, g, hbig, hlow, n1]; rfl⟩
end Go.AM.F

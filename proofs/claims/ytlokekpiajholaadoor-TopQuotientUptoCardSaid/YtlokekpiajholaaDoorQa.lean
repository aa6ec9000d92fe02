/- Naturals, decimals, nearest binary64s: what TopQuotient needs of other laws' texts. No conditions. -/
import Derived.Test.YtlokekpiajholaaDoorL10
import Derived.Test.YtlokekpiajholaaDoorL17
import Derived.Test.YtlokekpiajholaaDoorL14
import Derived.Test.YtlokekpiajholaaDoorL19
import Derived.Test.YtlokekpiajholaaDoorL24
import Derived.Test.YtlokekpiajholaaDoorL25
import Derived.Test.YtlokekpiajholaaDoorL34
import Derived.Test.YtlokekpiajholaaDoorL33
/- The document's naturals: what the layers above need of them. No conditions. -/
namespace Go.AM.F
open Go Go.AM
set_option maxRecDepth 10000
set_option linter.unusedSimpArgs false
end Go.AM.F

/- The document's naturals: shifts, differences, quotients bit by bit. No conditions. -/
namespace Go.AM.F
open Go Go.AM
set_option maxRecDepth 10000
set_option linter.unusedSimpArgs false
theorem shr1_u32 (x : Nat) : binInt .shr .u32 x 1 = some (.int .u32 (x / 2 : Nat)) := shr_32 x 1 (by decide)
theorem minus_step {A P Q k x y br d br' : Nat} (hv : A + 4294967296 ^ k * br = P + Q) (h : x + 4294967296 * br' = d + y + br) : A + 4294967296 ^ k * x + 4294967296 ^ (k + 1) * br' = (P + 4294967296 ^ k * d) + (Q + 4294967296 ^ k * y) := by
  have e1 : 4294967296 ^ k * x + 4294967296 ^ k * (4294967296 * br') = 4294967296 ^ k * d + 4294967296 ^ k * y + 4294967296 ^ k * br := by rw [← Nat.mul_add, ← Nat.mul_add, ← Nat.mul_add, h]
  rw [Nat.pow_succ, Nat.mul_assoc]
  omega
end Go.AM.F

/- The document's naturals: quotients bit by bit. No conditions. -/
namespace Go.AM.F
open Go Go.AM
set_option maxRecDepth 10000
set_option linter.unusedSimpArgs false
theorem fit_mono {m n : Nat} (h : Fit (limbs n)) (hle : m ≤ n) : Fit (limbs m) := ⟨limbs_lim m, Nat.le_trans (limbs_mono hle) h.2⟩
theorem fit_small {n : Nat} (k : Nat) (h : n < 4294967296 ^ k) (hk : k ≤ 1099511627776) : Fit (limbs n) := ⟨limbs_lim n, Nat.le_trans (limbs_len_le h) hk⟩
theorem wrap_mod64 (n : Nat) : IntKind.u64.wrap (n : Int) = ((n % 18446744073709551616 : Nat) : Int) := by
  simp only [IntKind.wrap, IntKind.signed, IntKind.bits]
  simp
theorem shl1_64 {k P : Nat} (hk : k ≤ 64) (hP : 2 ^ k % 18446744073709551616 = P) : binInt .shl .u64 1 k = some (.int .u64 (P : Nat)) := by
  have h1 : ¬ (k : Int) < 0 := by omega
  rw [binInt_shl, if_neg h1, Int.toNat_natCast, show IntKind.u64.bits = 64 from rfl, Nat.min_eq_left hk, show (1 : Int) * 2 ^ k = ((2 ^ k : Nat) : Int) by simp, wrap_mod64, hP]
def dvE (B R q : Nat) (k : Int) : Env := [(0, .ro 1 (ul (limbs R))), (1, .ro 1 (ul (limbs B))), (6, .v (.int .u64 q)), (8, .v (.int .i64 k)), (29, .dead)]
end Go.AM.F

/- Rounded quotients and signed answers; FixedScales. No conditions. -/
namespace Go.AM.F
open Go Go.AM
set_option maxRecDepth 10000
set_option linter.unusedSimpArgs false
/-- The quotient rounded to the nearest, halves to the even one. -/
def rnd (A B : Nat) : Nat := A / B + (if B < 2 * (A % B) ∨ (B = 2 * (A % B) ∧ A / B % 2 = 1) then 1 else 0)
/-- A sign and an amount as a number of 64 bits, or no answer. -/
def sgnR (neg : Bool) (m : Nat) : PV := if 9223372036854775808 < m ∨ (m = 9223372036854775808 ∧ neg = false) then .tup [.v (.int .i64 0), .v (.bool false)] else .tup [.v (.int .i64 (if neg then -(m : Int) else m)), .v (.bool true)]
theorem rnd_ge (A B : Nat) : A / B ≤ rnd A B := Nat.le_add_right _ _
theorem rnd_le (A B : Nat) : rnd A B ≤ A / B + 1 := by unfold rnd; split <;> omega
theorem quot_big {A B : Nat} (hA0 : A ≠ 0) (hB : B ≤ 9223372036854775808) (hB0 : 0 < B) (h : nbits B + 64 ≤ nbits A) : 9223372036854775808 < A / B := by
  have h1 := nbits_low hA0
  have h2 := lt_nbits B
  have h3 : 2 ^ (nbits B + 63) ≤ A := Nat.le_trans (Nat.pow_le_pow_right (by decide) (by omega)) h1
  rw [Nat.pow_add] at h3
  obtain ⟨P, hP⟩ : ∃ P, 2 ^ nbits B = P := ⟨_, rfl⟩
  rw [hP] at h2 h3
  have h4 : (9223372036854775808 + 1) * B ≤ A := by
    have : (2 : Nat) ^ 63 = 9223372036854775808 := by decide
    omega
  have := (Nat.le_div_iff_mul_le hB0).2 h4
  omega
theorem quot_small {A B : Nat} (h : nbits A < nbits B + 64) (hB0 : 0 < B) : A / B < 18446744073709551616 := by
  have h1 := lt_nbits A
  have h2 := nbits_low (v := B) (by omega)
  have hBn : 0 < nbits B := by rw [nbits_pos (by omega)]; omega
  have h3 : A < 2 ^ ((nbits B - 1) + 64) := Nat.lt_of_lt_of_le h1 (Nat.pow_le_pow_right (by decide) (by omega))
  rw [Nat.pow_add] at h3
  have h4 : A < B * 2 ^ 64 := Nat.lt_of_lt_of_le h3 (Nat.mul_le_mul_right _ h2)
  exact Nat.div_lt_of_lt_mul h4
end Go.AM.F

/- Scale, the program's and the document's; FixedScales. No conditions. -/
namespace Go.AM.F
open Go Go.AM
set_option maxRecDepth 10000
set_option linter.unusedSimpArgs false
/-- The sign of a product over a number. -/
def ngR (x y z : Int) : Bool := !decide ((decide (x < 0) == decide (y < 0)) = !decide (z < 0))
def scR (x y z : Int) : PV :=
  if z = 0 then .tup [.v (.int .i64 0), .v (.int .i64 2)]
  else if 9223372036854775808 < rnd (x.natAbs * y.natAbs) z.natAbs ∨ (rnd (x.natAbs * y.natAbs) z.natAbs = 9223372036854775808 ∧ ngR x y z = false) then .tup [.v (.int .i64 0), .v (.int .i64 41)]
  else .tup [.v (.int .i64 (if ngR x y z then -(rnd (x.natAbs * y.natAbs) z.natAbs : Int) else rnd (x.natAbs * y.natAbs) z.natAbs)), .v (.int .i64 0)]
end Go.AM.F

/- The binary64 nearest to a quotient: its exponent and its mantissa, in plain numbers. No conditions. -/
namespace Go.AM.F
open Go Go.AM
set_option linter.unusedSimpArgs false

/-! ### Quotients rounded -/
theorem rnd_near (A B : Nat) (hB : 0 < B) : 2 * (rnd A B * B) ≤ 2 * A + B ∧ 2 * A ≤ 2 * (rnd A B * B) + B := by
  have h1 := Nat.div_add_mod A B
  have h2 := Nat.mod_lt A hB
  unfold rnd
  generalize A / B = q at *
  generalize A % B = r at *
  have h3 : B * q = q * B := Nat.mul_comm _ _
  split
  · rename_i h
    rw [Nat.add_mul]
    omega
  · rename_i h
    rw [Nat.add_zero]
    omega
theorem rnd_even (A B : Nat) (hB : 0 < B) (h : 2 * (rnd A B * B) = 2 * A + B ∨ 2 * A = 2 * (rnd A B * B) + B) : rnd A B % 2 = 0 := by
  have h1 := Nat.div_add_mod A B
  have h2 := Nat.mod_lt A hB
  unfold rnd at h ⊢
  generalize A / B = q at *
  generalize A % B = r at *
  have h3 : B * q = q * B := Nat.mul_comm _ _
  split at h
  · rename_i hc
    rw [if_pos hc]
    rw [Nat.add_mul] at h
    omega
  · rename_i hc
    rw [if_neg hc]
    rw [Nat.add_zero] at h ⊢
    omega
theorem rnd_unique {A B n : Nat} (hB : 0 < B) (h1 : 2 * (n * B) < 2 * A + B) (h2 : 2 * A < 2 * (n * B) + B) : rnd A B = n := by
  obtain ⟨g1, g2⟩ := rnd_near A B hB
  rcases Nat.lt_trichotomy (rnd A B) n with h | h | h
  · exfalso
    have h3 : rnd A B + 1 ≤ n := h
    have h4 := Nat.mul_le_mul_right B h3
    rw [Nat.add_mul] at h4
    omega
  · exact h
  · exfalso
    have h3 : n + 1 ≤ rnd A B := h
    have h4 := Nat.mul_le_mul_right B h3
    rw [Nat.add_mul] at h4
    omega
theorem rnd_mono {A A' B : Nat} (hB : 0 < B) (h : A ≤ A') : rnd A B ≤ rnd A' B := by
  have h1 := Nat.div_add_mod A B
  have h2 := Nat.mod_lt A hB
  have h3 := Nat.div_add_mod A' B
  have h4 := Nat.mod_lt A' hB
  have hq : A / B ≤ A' / B := Nat.div_le_div_right h
  rcases Nat.eq_or_lt_of_le hq with e | l
  · unfold rnd
    rw [e] at h1 ⊢
    generalize A' / B = q at *
    generalize A % B = r at *
    generalize A' % B = r' at *
    have h5 : r ≤ r' := by omega
    split
    · rename_i hc
      rw [if_pos (by omega)]
      exact Nat.le_refl _
    · omega
  · have := rnd_ge A' B
    have := rnd_le A B
    omega
theorem rnd_scale (A B g : Nat) (hg : 0 < g) : rnd (g * A) (g * B) = rnd A B := by
  unfold rnd
  rw [Nat.mul_div_mul_left _ _ hg, Nat.mul_mod_mul_left]
  have e1 : g * B < 2 * (g * (A % B)) ↔ B < 2 * (A % B) := by
    rw [Nat.mul_left_comm 2 g]
    exact Nat.mul_lt_mul_left hg
  have e2 : g * B = 2 * (g * (A % B)) ↔ B = 2 * (A % B) := by
    rw [Nat.mul_left_comm 2 g]
    exact Nat.mul_right_inj (by omega)
  simp only [e1, e2]
theorem rnd_one (A : Nat) : rnd A 1 = A := by
  unfold rnd
  simp [Nat.mod_one]
/-! ### Bits of numbers -/
theorem nbits_lt : ∀ {k n : Nat}, nbits n ≤ k → n < 2 ^ k
  | 0, n, h => by
    by_cases h0 : n = 0
    · rw [h0]; decide
    · rw [nbits_pos h0] at h
      omega
  | k + 1, n, h => by
    by_cases h0 : n = 0
    · rw [h0]; exact Nat.two_pow_pos _
    · rw [nbits_pos h0] at h
      have := nbits_lt (k := k) (n := n / 2) (by omega)
      rw [Nat.pow_succ]
      omega
theorem nbits_low' {n : Nat} (h : n ≠ 0) : 2 ^ (nbits n - 1) ≤ n := by
  rcases Nat.lt_or_ge n (2 ^ (nbits n - 1)) with hl | hl
  · have h1 := nbits_le hl
    rw [nbits_pos h] at h1
    rw [nbits_pos h] at hl
    exfalso
    omega
  · exact hl
theorem nbits_iff {n k : Nat} : nbits n ≤ k ↔ n < 2 ^ k := ⟨nbits_lt, nbits_le⟩

/-! ### The exponent -/
def qA (n : Nat) (e : Int) : Nat := n * 2 ^ (-e).toNat
def qB (d : Nat) (e : Int) : Nat := d * 2 ^ e.toNat
def qQ (n d : Nat) (e : Int) : Nat := qA n e / qB d e
theorem qB_pos {d : Nat} (hd : 0 < d) (e : Int) : 0 < qB d e := Nat.mul_pos hd (Nat.two_pow_pos _)
/-- One step up halves the quotient. -/
theorem qAB_succ (n d : Nat) (e : Int) : (qA n e = 2 * qA n (e + 1) ∧ qB d (e + 1) = qB d e) ∨ (qA n (e + 1) = qA n e ∧ qB d (e + 1) = 2 * qB d e) := by
  unfold qA qB
  by_cases h : e < 0
  · left
    have h1 : (-e).toNat = (-(e + 1)).toNat + 1 := by omega
    have h2 : (e + 1).toNat = e.toNat := by omega
    rw [h1, h2, Nat.pow_succ]
    exact ⟨by rw [Nat.mul_comm (2 ^ _) 2, Nat.mul_left_comm], rfl⟩
  · right
    have h1 : (-(e + 1)).toNat = (-e).toNat := by omega
    have h2 : (e + 1).toNat = e.toNat + 1 := by omega
    rw [h1, h2, Nat.pow_succ]
    exact ⟨rfl, by rw [Nat.mul_comm (2 ^ _) 2, Nat.mul_left_comm]⟩
theorem qQ_succ {n d : Nat} (hd : 0 < d) (e : Int) : qQ n d (e + 1) = qQ n d e / 2 := by
  unfold qQ
  have hp := qB_pos hd e
  rcases qAB_succ n d e with ⟨h1, h2⟩ | ⟨h1, h2⟩
  · rw [h1, h2, Nat.div_div_eq_div_mul, Nat.mul_comm _ 2, Nat.mul_div_mul_left _ _ (by decide)]
  · rw [h1, h2, Nat.div_div_eq_div_mul, Nat.mul_comm 2]
theorem qQ_anti {n d : Nat} (hd : 0 < d) (e : Int) : ∀ k : Nat, qQ n d (e + k) ≤ qQ n d e
  | 0 => by simp
  | k + 1 => by
    have h := qQ_anti (n := n) hd e k
    have e1 : e + ((k + 1 : Nat) : Int) = e + k + 1 := by omega
    rw [e1, qQ_succ hd]
    omega
theorem qQ_le {n d : Nat} (hd : 0 < d) {e f : Int} (h : e ≤ f) : qQ n d f ≤ qQ n d e := by
  have := qQ_anti (n := n) hd e (f - e).toNat
  rwa [show e + ((f - e).toNat : Int) = f by omega] at this
theorem qQ_mono {n n' d : Nat} (h : n ≤ n') (e : Int) : qQ n d e ≤ qQ n' d e := Nat.div_le_div_right (Nat.mul_le_mul_right _ h)
theorem qQ_scale {n d g : Nat} (hg : 0 < g) (e : Int) : qQ (g * n) (g * d) e = qQ n d e := by
  unfold qQ qA qB
  rw [Nat.mul_assoc, Nat.mul_assoc, Nat.mul_div_mul_left _ _ hg]
/-- Far down the quotient is great. -/
theorem qQ_ge {n d : Nat} (hn : n ≠ 0) (hd : 0 < d) {e : Int} {k : Nat} (h : e + k + 1 ≤ (nbits n : Int) - nbits d) : 2 ^ k ≤ qQ n d e := by
  unfold qQ
  rw [Nat.le_div_iff_mul_le (qB_pos hd e)]
  have h1 := nbits_low' hn
  have h2 : d ≤ 2 ^ nbits d := Nat.le_of_lt (nbits_lt (Nat.le_refl _))
  have h3 : 1 ≤ nbits n := by rw [nbits_pos hn]; omega
  unfold qA qB
  calc 2 ^ k * (d * 2 ^ e.toNat) ≤ 2 ^ k * (2 ^ nbits d * 2 ^ e.toNat) := Nat.mul_le_mul_left _ (Nat.mul_le_mul_right _ h2)
    _ = 2 ^ (k + nbits d + e.toNat) := by rw [← Nat.pow_add, ← Nat.pow_add, Nat.add_assoc]
    _ ≤ 2 ^ (nbits n - 1 + (-e).toNat) := Nat.pow_le_pow_right (by decide) (by omega)
    _ = 2 ^ (nbits n - 1) * 2 ^ (-e).toNat := Nat.pow_add _ _ _
    _ ≤ n * 2 ^ (-e).toNat := Nat.mul_le_mul_right _ h1
/-- Far up it is small. -/
theorem qQ_lt {n d : Nat} (hd : 0 < d) {e : Int} {k : Nat} (h : (nbits n : Int) - nbits d + 1 ≤ e + k) : qQ n d e < 2 ^ k := by
  unfold qQ
  rw [Nat.div_lt_iff_lt_mul (qB_pos hd e)]
  have hd0 : d ≠ 0 := by omega
  have h1 := nbits_low' hd0
  have h2 : n < 2 ^ nbits n := nbits_lt (Nat.le_refl _)
  have h3 : 1 ≤ nbits d := by rw [nbits_pos hd0]; omega
  unfold qA qB
  calc n * 2 ^ (-e).toNat < 2 ^ nbits n * 2 ^ (-e).toNat := Nat.mul_lt_mul_of_pos_right h2 (Nat.two_pow_pos _)
    _ = 2 ^ (nbits n + (-e).toNat) := (Nat.pow_add _ _ _).symm
    _ ≤ 2 ^ (k + (nbits d - 1) + e.toNat) := Nat.pow_le_pow_right (by decide) (by omega)
    _ = 2 ^ k * (2 ^ (nbits d - 1) * 2 ^ e.toNat) := by rw [← Nat.pow_add, ← Nat.pow_add, Nat.add_assoc]
    _ ≤ 2 ^ k * (d * 2 ^ e.toNat) := Nat.mul_le_mul_left _ (Nat.mul_le_mul_right _ h1)
/-- The least exponent, from -1074 on, at which the quotient has 53 bits at most. -/
structure IsE (n d : Nat) (e : Int) : Prop where
  lo : -1074 ≤ e
  fits : qQ n d e < 9007199254740992
  least : e = -1074 ∨ 9007199254740992 ≤ qQ n d (e - 1)
theorem IsE.unique {n d : Nat} (hd : 0 < d) {e f : Int} (h : IsE n d e) (k : IsE n d f) : e = f := by
  have key : ∀ {e f : Int}, IsE n d e → IsE n d f → ¬ e < f := by
    intro e f h k hlt
    rcases k.least with h1 | h1
    · have := h.lo; omega
    · have := qQ_le (n := n) hd (show e ≤ f - 1 by omega)
      have := h.fits
      omega
  rcases Int.lt_trichotomy e f with hl | hl | hl
  · exact absurd hl (key h k)
  · exact hl
  · exact absurd hl (key k h)
theorem IsE.mono {n n' d : Nat} (hd : 0 < d) (hn : n ≤ n') {e f : Int} (h : IsE n d e) (k : IsE n' d f) : e ≤ f := by
  rcases Int.lt_or_le f e with hl | hl
  · rcases h.least with h1 | h1
    · have := k.lo; omega
    · have h2 := qQ_le (n := n') hd (show f ≤ e - 1 by omega)
      have h3 := qQ_mono (d := d) hn (e - 1)
      have := k.fits
      omega
  · exact hl
theorem IsE.scale {n d g : Nat} (hg : 0 < g) {e : Int} (h : IsE n d e) : IsE (g * n) (g * d) e :=
  ⟨h.lo, by rw [qQ_scale hg]; exact h.fits, by rw [qQ_scale hg]; exact h.least⟩
theorem IsE.unscale {n d g : Nat} (hg : 0 < g) {e : Int} (h : IsE (g * n) (g * d) e) : IsE n d e :=
  ⟨h.lo, by rw [← qQ_scale hg]; exact h.fits, by rw [← qQ_scale hg]; exact h.least⟩
/-- A walk up from below. -/
def upE (n d : Nat) : Nat → Int → Int
  | 0, e => e
  | k + 1, e => if 9007199254740992 ≤ qQ n d e then upE n d k (e + 1) else e
theorem upE_is {n d : Nat} (hd : 0 < d) : ∀ (k : Nat) (e : Int), -1074 ≤ e → (e = -1074 ∨ 9007199254740992 ≤ qQ n d (e - 1)) → qQ n d e < 9007199254740992 * 2 ^ k → IsE n d (upE n d k e)
  | 0, e, h1, h2, h3 => ⟨h1, by simpa [upE] using h3, h2⟩
  | k + 1, e, h1, h2, h3 => by
    rw [upE]
    split
    · rename_i h
      refine upE_is hd k (e + 1) (by omega) (.inr (by rw [show e + 1 - 1 = e by omega]; exact h)) ?_
      rw [qQ_succ hd]
      rw [Nat.pow_succ] at h3
      omega
    · rename_i h
      exact ⟨h1, by omega, h2⟩
/-- The walk's first exponent: there are two steps at most. -/
def loE (n d : Nat) : Int := max ((nbits n : Int) - nbits d - 53) (-1074)
theorem loE_is {n d : Nat} (hn : n ≠ 0) (hd : 0 < d) : IsE n d (upE n d 1 (loE n d)) := by
  refine upE_is hd 1 _ (by unfold loE; omega) ?_ ?_
  · unfold loE
    by_cases h : (nbits n : Int) - nbits d - 53 ≤ -1074
    · left; omega
    · right
      exact qQ_ge (k := 53) hn hd (by omega)
  · have := qQ_lt (n := n) (d := d) (e := loE n d) (k := 54) hd (by unfold loE; omega)
    exact this
noncomputable def theE (n d : Nat) : Int := upE n d 1 (loE n d)
theorem theE_is {n d : Nat} (hn : n ≠ 0) (hd : 0 < d) : IsE n d (theE n d) := loE_is hn hd
/-- Above -1074 the quotient has 53 bits. -/
theorem theE_full {n d : Nat} (hd : 0 < d) {e : Int} (h : IsE n d e) (hlo : -1074 < e) : 4503599627370496 ≤ qQ n d e := by
  rcases h.least with h1 | h1
  · omega
  · have := qQ_succ (n := n) hd (e - 1)
    rw [show e - 1 + 1 = e by omega] at this
    omega
theorem theE_range {n d : Nat} (hd : 0 < d) {e : Int} (h : IsE n d e) : e ≤ max ((nbits n : Int) - nbits d - 52) (-1074) := by
  rcases Int.lt_or_le (max ((nbits n : Int) - nbits d - 52) (-1074)) e with hl | hl
  · rcases h.least with h1 | h1
    · omega
    · have := qQ_lt (n := n) (d := d) (e := e - 1) (k := 53) hd (by omega)
      have e53 : (2 : Nat) ^ 53 = 9007199254740992 := by decide
      omega
  · exact hl
/-- The mantissa, which may be 2^53. -/
def theM (n d : Nat) (e : Int) : Nat := rnd (qA n e) (qB d e)
theorem theM_le {n d : Nat} {e : Int} (h : IsE n d e) : theM n d e ≤ 9007199254740992 := by
  have h1 := rnd_le (qA n e) (qB d e)
  have h2 := h.fits
  unfold qQ at h2
  unfold theM
  omega
theorem theM_ge {n d : Nat} {e : Int} : qQ n d e ≤ theM n d e := rnd_ge _ _
/-- How many steps above nought: in units of the last bit. -/
def rung (n d : Nat) (e : Int) : Nat := (e + 1074).toNat * 4503599627370496 + theM n d e
theorem rung_mono {n n' d : Nat} (hd : 0 < d) (hn : n ≤ n') {e f : Int} (h : IsE n d e) (k : IsE n' d f) : rung n d e ≤ rung n' d f := by
  have hef := h.mono hd hn k
  have := h.lo
  unfold rung
  rcases Int.lt_or_eq_of_le hef with hl | rfl
  · have h1 := theM_le h
    have h2 := theE_full hd k (by omega)
    have h3 := theM_ge (n := n') (d := d) (e := f)
    have h4 : (f + 1074).toNat = (e + 1074).toNat + ((f - e - 1).toNat + 1) := by omega
    rw [h4, Nat.add_mul, Nat.add_mul]
    have : 0 ≤ (f - e - 1).toNat * 4503599627370496 := Nat.zero_le _
    omega
  · have h1 : theM n d e ≤ theM n' d e := rnd_mono (qB_pos hd e) (Nat.mul_le_mul_right _ hn)
    omega
theorem theM_scale {n d g : Nat} (hg : 0 < g) (e : Int) : theM (g * n) (g * d) e = theM n d e := by
  unfold theM qA qB
  rw [Nat.mul_assoc, Nat.mul_assoc, rnd_scale _ _ _ hg]
end Go.AM.F

/- The binary64 nearest to a quotient: the walk. No conditions. -/
namespace Go.AM.F
open Go Go.AM
set_option maxRecDepth 10000
set_option linter.unusedSimpArgs false
set_option exponentiation.threshold 110000
attribute [local simp] j0_floats_format_nearest j1_floats_format_nearest j2_floats_format_nearest j3_floats_format_nearest w0_floats_format_nearest j4_floats_format_nearest j5_floats_format_nearest b_floats_format_nearest a_floats_format_nearest
attribute [local simp] j0_floats_number j1_floats_number b_floats_number a_floats_number
theorem fit_bits {n k : Nat} (h : n < 2 ^ k) (hk : k ≤ 35184372088000) : Fit (limbs n) := by
  refine fit_small (k / 32 + 1) (Nat.lt_of_lt_of_le h ?_) (by omega)
  rw [show (4294967296 : Nat) = 2 ^ 32 by decide, ← Nat.pow_mul]
  exact Nat.pow_le_pow_right (by decide) (by omega)
/-- A number of bits enough. -/
structure Big (n : Nat) : Prop where
  lt : n < 2 ^ 100000
theorem Big.of {n k : Nat} (h : n < 2 ^ k) (hk : k ≤ 100000) : Big n := ⟨Nat.lt_of_lt_of_le h (Nat.pow_le_pow_right (by decide) hk)⟩
def wideB : List PV := [.v (.int .i64 53), .v (.int .i64 (-1074)), .v (.int .i64 971)]
def nrE (n d : Nat) (e : Int) : Env := [(1, .ro 1 (ul (limbs n))), (2, .ro 1 (ul (limbs d))), (3, .box wideB), (9, .v (.int .i64 e))]
def endE (n d : Nat) (e : Int) : Int := if theM n d e = 9007199254740992 then e + 1 else e
def endM (n d : Nat) (e : Int) : Nat := if theM n d e = 9007199254740992 then 4503599627370496 else theM n d e
theorem and64 {x y e : Nat} (hx : x < 18446744073709551616) (hy : y < 18446744073709551616) (h : x &&& y = e) : binInt .and .u64 x y = some (.int .u64 (e : Nat)) := by
  have n : e < 18446744073709551616 := by rw [← h]; exact Nat.lt_of_le_of_lt Nat.and_le_left hx
  rw [binInt_and, BitVec.toNat_and, bv64 x hx, bv64 y hy, h, u64_nat n]
theorem and1_64 (y : Nat) (hy : y < 18446744073709551616) : binInt .and .u64 y 1 = some (.int .u64 (y % 2 : Nat)) := and64 (y := 1) hy (by decide) (Nat.and_one_is_mod y)
theorem theM_le' {n d : Nat} {e : Int} (h : qQ n d e < 9007199254740992) : theM n d e ≤ 9007199254740992 := by
  have h1 := rnd_le (qA n e) (qB d e)
  unfold qQ at h
  unfold theM
  omega
theorem nr_fin (n d : Nat) (e : Int) (h1 : -1074 ≤ e) (h2 : e ≤ 1000) (hm : theM n d e ≤ 9007199254740992) :
    Exec T j1_floats_format_nearest [(3, .box wideB), (9, .v (.int .i64 e)), (15, .v (.int .u64 (theM n d e : Nat)))] = some (.ret, [(6, .v (.int .u64 (endM n d e : Nat))), (7, .v (.int .i64 (endE n d e))), (8, .v (.bool (decide (endE n d e ≤ 971))))]) := by
  have hw1 : IntKind.i64.wrap (e + 1) = e + 1 := by rw [wrap_i64] <;> omega
  have hsh : binInt .shl .u64 1 53 = some (.int .u64 9007199254740992) := by have := shl_64 1 53 (by decide) (by decide); simpa [-binInt_shl] using this
  have hw53 : IntKind.u64.wrap 53 = 53 := wrap_u64 (by decide) (by decide)
  unfold endM endE
  generalize theM n d e = m at *
  by_cases h : m = 9007199254740992
  · subst h
    have hs : binInt .shr .u64 9007199254740992 1 = some (.int .u64 4503599627370496) := by have := shr_64 9007199254740992 1 (by decide); simpa [-binInt_shr] using this
    simp [-binInt_shl, -binInt_shr, wideB, hsh, hs, hw1, hw53]
  · simp [-binInt_shl, -binInt_shr, wideB, hsh, h, hw53]
theorem nr_pass (n d : Nat) (hn : Big n) (hd : Big d) (hd0 : d ≠ 0) (e : Int) (h1 : -1074 ≤ e) (h2 : e ≤ 1000) (h54 : qQ n d e < 2 ^ 54) :
    Exec T w0_floats_format_nearest (nrE n d e) = if 9007199254740992 ≤ qQ n d e then some (.normal, nrE n d (e + 1)) else some (.ret, [(6, .v (.int .u64 (endM n d e : Nat))), (7, .v (.int .i64 (endE n d e))), (8, .v (.bool (decide (endE n d e ≤ 971))))]) := by
  have fn : Fit (limbs n) := fit_bits hn.lt (by decide)
  have fd : Fit (limbs d) := fit_bits hd.lt (by decide)
  have u1 := c_Up (limbs n) fn (-e)
  have u2 := c_Up (limbs d) fd e
  rw [val_limbs] at u1 u2
  unfold upR at u1 u2
  have hA : qA n e < 2 ^ 101074 := by
    unfold qA
    rw [show 101074 = 100000 + 1074 from rfl, Nat.pow_add]
    exact Nat.mul_lt_mul_of_lt_of_le hn.lt (Nat.pow_le_pow_right (by decide) (by omega)) (Nat.two_pow_pos _)
  have hB : qB d e < 2 ^ 101000 := by
    unfold qB
    rw [show 101000 = 100000 + 1000 from rfl, Nat.pow_add]
    exact Nat.mul_lt_mul_of_lt_of_le hd.lt (Nat.pow_le_pow_right (by decide) (by omega)) (Nat.two_pow_pos _)
  have fA : Fit (limbs (qA n e)) := fit_bits hA (by decide)
  have fB : Fit (limbs (qB d e)) := fit_bits hB (by decide)
  have hB0 : qB d e ≠ 0 := by have := qB_pos (Nat.pos_of_ne_zero hd0) e; omega
  have v1 := c_DivMod (limbs (qA n e)) (limbs (qB d e)) fA fB
  rw [val_limbs, val_limbs, divR_pos hB0] at v1
  have fq : Fit (limbs (qA n e / qB d e)) := fit_mono fA (Nat.div_le_self _ _)
  have fr : Fit (limbs (qA n e % qB d e)) := fit_mono fA (Nat.mod_le _ _)
  have v2 := c_Len (limbs (qA n e / qB d e)) fq
  rw [val_limbs] at v2
  have v3 := c_Small (limbs (qA n e / qB d e)) fq
  rw [val_limbs] at v3
  have v4 := c_Add (limbs (qA n e % qB d e)) (limbs (qA n e % qB d e)) fr fr
  rw [val_limbs, ← Nat.two_mul] at v4
  have f2r : Fit (limbs (2 * (qA n e % qB d e))) := fit_bits (k := 101001) (by
    have := Nat.mod_lt (qA n e) (Nat.pos_of_ne_zero hB0)
    rw [show 101001 = 101000 + 1 from rfl, Nat.pow_succ]
    omega) (by decide)
  have v5 := c_Cmp (limbs (2 * (qA n e % qB d e))) (limbs (qB d e)) f2r fB
  rw [val_limbs, val_limbs] at v5
  have hq : qQ n d e = qA n e / qB d e := rfl
  rw [← hq] at v1 v2 v3
  have hw1 : IntKind.i64.wrap (e + 1) = e + 1 := by rw [wrap_i64] <;> omega
  have hwn : IntKind.i64.wrap (-e) = -e := by rw [wrap_i64] <;> omega
  have hlen : 53 < nbits (qQ n d e) ↔ 9007199254740992 ≤ qQ n d e := by
    have := nbits_iff (n := qQ n d e) (k := 53)
    rw [show (2 : Nat) ^ 53 = 9007199254740992 by decide] at this
    omega
  have hs : ¬ 9007199254740992 ≤ qQ n d e → (limbs (qQ n d e)).length ≤ 2 := fun h => limbs_len_le (by omega)
  have hand : ¬ 9007199254740992 ≤ qQ n d e → binInt .and .u64 (qQ n d e : Nat) 1 = some (.int .u64 (qQ n d e % 2 : Nat)) := fun h => and1_64 _ (by omega)
  have hwm : ¬ 9007199254740992 ≤ qQ n d e → IntKind.u64.wrap ((qQ n d e : Int) + 1) = (qQ n d e : Int) + 1 := fun h => by rw [wrap_u64] <;> omega
  have hfin : ¬ 9007199254740992 ≤ qQ n d e → _ := fun h => nr_fin n d e h1 h2 (theM_le' (by omega))
  have hth : theM n d e = qQ n d e + (if qB d e < 2 * (qA n e % qB d e) ∨ (qB d e = 2 * (qA n e % qB d e) ∧ qQ n d e % 2 = 1) then 1 else 0) := rfl
  rw [hth] at hfin
  unfold cmpN at v5
  unfold smallR at v3
  have hneg : e < 0 ∨ ¬ e < 0 := by omega
  by_cases hbig : 9007199254740992 ≤ qQ n d e
  · have hl := hlen.2 hbig
    rw [if_pos hbig]
    rcases hneg with hneg | hneg
    · have hBd : qB d e = d := by unfold qB; rw [show e.toNat = 0 by omega, Nat.pow_zero, Nat.mul_one]
      rw [if_neg (by omega)] at u1
      change _ = some (PV.tup [.own 1 (ul (limbs (qA n e))), _], _) at u1
      rw [hBd] at v1
      simp [nrE, wideB, hneg, hwn, u1, v1, v2, hl, hw1]
    · have hAn : qA n e = n := by unfold qA; rw [show (-e).toNat = 0 by omega, Nat.pow_zero, Nat.mul_one]
      rw [if_neg (by omega)] at u2
      change _ = some (PV.tup [.own 1 (ul (limbs (qB d e))), _], _) at u2
      rw [hAn] at v1
      simp [nrE, wideB, hneg, u2, v1, v2, hl, hw1]
  · have hl : ¬ 53 < nbits (qQ n d e) := fun h => hbig (hlen.1 h)
    replace hs := hs hbig
    replace hand := hand hbig
    replace hwm := hwm hbig
    replace hfin := hfin hbig
    rw [if_neg hbig]
    rw [if_pos hs] at v3
    rcases hneg with hneg | hneg
    · have hBd : qB d e = d := by unfold qB; rw [show e.toNat = 0 by omega, Nat.pow_zero, Nat.mul_one]
      rw [if_neg (by omega)] at u1
      change _ = some (PV.tup [.own 1 (ul (limbs (qA n e))), _], _) at u1
      rw [hBd] at v1 v4 v5 hfin
      rcases Nat.lt_trichotomy (2 * (qA n e % d)) d with hc | hc | hc
      · rw [if_pos hc] at v5
        rw [if_neg (by omega), Nat.add_zero] at hfin
        simp [-binInt_and, -j1_floats_format_nearest, nrE, wideB, hneg, hwn, u1, v1, v2, hl, v3, v4, v5] at hfin ⊢
        rw [hfin]
        rfl
      · rw [if_neg (by omega), if_pos hc] at v5
        by_cases hodd : qQ n d e % 2 = 1
        · rw [if_pos (.inr ⟨hc.symm, hodd⟩)] at hfin
          simp [-binInt_and, -j1_floats_format_nearest, nrE, wideB, hneg, hwn, u1, v1, v2, hl, v3, v4, v5, hand, hodd, hwm] at hfin ⊢
          rw [hfin]
          rfl
        · have hodd' : ¬ (qQ n d e : Int) % 2 = 1 := by omega
          rw [if_neg (by omega), Nat.add_zero] at hfin
          simp [-binInt_and, -j1_floats_format_nearest, nrE, wideB, hneg, hwn, u1, v1, v2, hl, v3, v4, v5, hand, hodd, hodd'] at hfin ⊢
          rw [hfin]
          rfl
      · rw [if_neg (by omega), if_neg (by omega)] at v5
        rw [if_pos (.inl hc)] at hfin
        simp [-binInt_and, -j1_floats_format_nearest, nrE, wideB, hneg, hwn, u1, v1, v2, hl, v3, v4, v5, hwm] at hfin ⊢
        rw [hfin]
        rfl
    · have hAn : qA n e = n := by unfold qA; rw [show (-e).toNat = 0 by omega, Nat.pow_zero, Nat.mul_one]
      rw [if_neg (by omega)] at u2
      change _ = some (PV.tup [.own 1 (ul (limbs (qB d e))), _], _) at u2
      rw [hAn] at v1 v4 v5 hfin
      rcases Nat.lt_trichotomy (2 * (n % qB d e)) (qB d e) with hc | hc | hc
      · rw [if_pos hc] at v5
        rw [if_neg (by omega), Nat.add_zero] at hfin
        simp [-binInt_and, -j1_floats_format_nearest, nrE, wideB, hneg, u2, v1, v2, hl, v3, v4, v5] at hfin ⊢
        rw [hfin]
        rfl
      · rw [if_neg (by omega), if_pos hc] at v5
        by_cases hodd : qQ n d e % 2 = 1
        · rw [if_pos (.inr ⟨hc.symm, hodd⟩)] at hfin
          simp [-binInt_and, -j1_floats_format_nearest, nrE, wideB, hneg, u2, v1, v2, hl, v3, v4, v5, hand, hodd, hwm] at hfin ⊢
          rw [hfin]
          rfl
        · have hodd' : ¬ (qQ n d e : Int) % 2 = 1 := by omega
          rw [if_neg (by omega), Nat.add_zero] at hfin
          simp [-binInt_and, -j1_floats_format_nearest, nrE, wideB, hneg, u2, v1, v2, hl, v3, v4, v5, hand, hodd, hodd'] at hfin ⊢
          rw [hfin]
          rfl
      · rw [if_neg (by omega), if_neg (by omega)] at v5
        rw [if_pos (.inl hc)] at hfin
        simp [-binInt_and, -j1_floats_format_nearest, nrE, wideB, hneg, u2, v1, v2, hl, v3, v4, v5, hwm] at hfin ⊢
        rw [hfin]
        rfl
theorem nr_loop (n d : Nat) (hn : Big n) (hd : Big d) (hd0 : d ≠ 0) (h : loE n d ≤ 990) :
    Exec T l0_floats_format_nearest (nrE n d (loE n d)) = some (.ret, [(6, .v (.int .u64 (endM n d (theE n d) : Nat))), (7, .v (.int .i64 (endE n d (theE n d)))), (8, .v (.bool (decide (endE n d (theE n d) ≤ 971))))]) := by
  have hlo : -1074 ≤ loE n d := by unfold loE; omega
  have h54 : qQ n d (loE n d) < 2 ^ 54 := qQ_lt (Nat.pos_of_ne_zero hd0) (by unfold loE; omega)
  have e54 : (2 : Nat) ^ 54 = 18014398509481984 := by decide
  have h1 := nr_pass n d hn hd hd0 (loE n d) hlo (by omega) h54
  have hk : ∀ e, (nrE n d e).keep [1, 2, 3, 9] = nrE n d e := fun e => rfl
  have hE : theE n d = if 9007199254740992 ≤ qQ n d (loE n d) then loE n d + 1 else loE n d := by
    unfold theE
    rw [upE]
    rfl
  rw [ex0_floats_format_nearest, hk, h1, hE]
  by_cases hb : 9007199254740992 ≤ qQ n d (loE n d)
  · rw [if_pos hb, if_pos hb]
    have hq := qQ_succ (n := n) (Nat.pos_of_ne_zero hd0) (loE n d)
    have h2 := nr_pass n d hn hd hd0 (loE n d + 1) (by omega) (by omega) (by omega)
    rw [if_neg (by omega)] at h2
    simp only [andThen_normal]
    rw [ex0_floats_format_nearest, hk, h2]
    rfl
  · rw [if_neg hb, if_neg hb]
    rfl
theorem c_fnearest (n d : Nat) (hn : Big n) (hd : Big d) (hn0 : n ≠ 0) (hd0 : d ≠ 0) (h : loE n d ≤ 973) :
    Cinf T n_floats_format_nearest [.agg wideB, .ro 1 (ul (limbs n)), .ro 1 (ul (limbs d))] = some (.tup [.v (.int .u64 (endM n d (theE n d) : Nat)), .v (.int .i64 (endE n d (theE n d))), .v (.bool (decide (endE n d (theE n d) ≤ 971)))], [.dead, .dead, .dead]) := by
  have fn : Fit (limbs n) := fit_bits hn.lt (by decide)
  have fd : Fit (limbs d) := fit_bits hd.lt (by decide)
  have v1 := c_Len (limbs n) fn
  have v2 := c_Len (limbs d) fd
  rw [val_limbs] at v1 v2
  have b1 := nbits_le hn.lt
  have b2 := nbits_le hd.lt
  have hz : ¬ nbits n = 0 := by rw [nbits_pos hn0]; omega
  have hl := nr_loop n d hn hd hd0 (by omega)
  have w1 : IntKind.i64.wrap ((nbits n : Int) - nbits d) = (nbits n : Int) - nbits d := by rw [wrap_i64] <;> omega
  have w2 : IntKind.i64.wrap ((nbits n : Int) - nbits d - 53) = (nbits n : Int) - nbits d - 53 := by rw [wrap_i64] <;> omega
  have hmax : (if (nbits n : Int) - nbits d - 53 < -1074 then -1074 else (nbits n : Int) - nbits d - 53) = loE n d := by unfold loE; omega
  have hmx : max ((nbits n : Int) - nbits d - 53) (-1074) = loE n d := rfl
  have hng : ¬ 973 < loE n d := by omega
  rw [run_floats_format_nearest]
  simp only [nrE, wideB] at hl
  simp [Run, wideB, v1, v2, hz, w1, w2, hmx, hmax, hng, hl]
end Go.AM.F

/- How binary64s stand to each other: by their numbers in units of 2^-1074. No conditions. -/
namespace Go.AM.F
open Go Go.AM
set_option linter.unusedSimpArgs false

def sgn (w : Nat) : Bool := w / 9223372036854775808 % 2 == 1
def rg (w : Nat) : Nat := w % 9223372036854775808
def dmag (r : Nat) : Nat := if r < 4503599627370496 then r else 4503599627370496 + r % 4503599627370496
def dexp (r : Nat) : Nat := r / 4503599627370496 - 1
def dval (r : Nat) : Nat := dmag r * 2 ^ dexp r
def infR : Nat := 9218868437227405312
theorem double_sw : Ieee.double.signWeight = 9223372036854775808 := by decide
theorem double_bin : Ieee.double.binade = 4503599627370496 := by decide
theorem double_inf : Ieee.double.infRung = infR := by decide
theorem double_lp : Ieee.double.leastPlace = -1074 := by decide
theorem read_eq (w : Nat) : Ieee.double.read w = if rg w < 4503599627370496 then .number (sgn w) (rg w) (-1074) else if rg w < infR then .number (sgn w) (4503599627370496 + rg w % 4503599627370496) (-1074 + (rg w / 4503599627370496 - 1 : Nat)) else if rg w = infR then .infinity (sgn w) else .nan (sgn w) (rg w - infR) := by
  unfold Ieee.Format.read
  simp only [double_sw, double_bin, double_inf, double_lp]
  rfl
theorem read_fin {w : Nat} (h : rg w < infR) : Ieee.double.read w = .number (sgn w) (dmag (rg w)) (-1074 + (dexp (rg w) : Int)) := by
  rw [read_eq]
  unfold dmag dexp
  by_cases h1 : rg w < 4503599627370496
  · rw [if_pos h1, if_pos h1, show rg w / 4503599627370496 - 1 = 0 by omega]
    rfl
  · rw [if_neg h1, if_neg h1, if_pos h]
theorem read_inf {w : Nat} (h : rg w = infR) : Ieee.double.read w = .infinity (sgn w) := by
  rw [read_eq, h, if_neg (by decide), if_neg (by decide), if_pos rfl]
theorem read_nan {w : Nat} (h : infR < rg w) : ∃ t, Ieee.double.read w = .nan (sgn w) t := by
  have hi : infR = 9218868437227405312 := rfl
  rw [read_eq, if_neg (by omega), if_neg (by omega), if_neg (by omega)]
  exact ⟨_, rfl⟩
theorem dmag_lt (r : Nat) : dmag r < 9007199254740992 := by
  unfold dmag
  split <;> omega
theorem dval_succ (r : Nat) : dval r < dval (r + 1) := by
  unfold dval
  by_cases h1 : r + 1 < 4503599627370496
  · unfold dmag dexp
    rw [if_pos (by omega), if_pos h1, show r / 4503599627370496 - 1 = 0 by omega, show (r + 1) / 4503599627370496 - 1 = 0 by omega]
    omega
  · by_cases h2 : r < 4503599627370496
    · have : r = 4503599627370495 := by omega
      subst this
      decide
    · unfold dmag dexp
      rw [if_neg h2, if_neg (by omega)]
      by_cases h3 : r % 4503599627370496 = 4503599627370495
      · have e1 : (r + 1) % 4503599627370496 = 0 := by omega
        have e2 : (r + 1) / 4503599627370496 - 1 = (r / 4503599627370496 - 1) + 1 := by omega
        rw [h3, e1, e2, Nat.pow_succ]
        have := Nat.two_pow_pos (r / 4503599627370496 - 1)
        omega
      · have e1 : (r + 1) % 4503599627370496 = r % 4503599627370496 + 1 := by omega
        have e2 : (r + 1) / 4503599627370496 - 1 = r / 4503599627370496 - 1 := by omega
        rw [e1, e2]
        exact Nat.mul_lt_mul_of_pos_right (by omega) (Nat.two_pow_pos _)
theorem dval_lt {r s : Nat} (h : r < s) : dval r < dval s := by
  induction s with
  | zero => omega
  | succ s ih =>
    rcases Nat.lt_or_ge r s with hl | hl
    · exact Nat.lt_trans (ih hl) (dval_succ s)
    · rw [show r = s by omega]
      exact dval_succ s
theorem dval_le {r s : Nat} : r ≤ s ↔ dval r ≤ dval s := by
  constructor
  · intro h
    rcases Nat.eq_or_lt_of_le h with rfl | h
    · exact Nat.le_refl _
    · exact Nat.le_of_lt (dval_lt h)
  · intro h
    rcases Nat.lt_or_ge s r with hl | hl
    · have := dval_lt hl; omega
    · exact hl
/-- A finite number in units of 2^-1074. -/
def sv (w : Nat) : Int := if sgn w = true then -(dval (rg w) : Int) else dval (rg w)
theorem signed_val (s : Bool) (r b : Nat) (h : b ≤ dexp r) : Ieee.signed s (dmag r) (dexp r - b) * ((2 ^ b : Nat) : Int) = if s = true then -(dval r : Int) else dval r := by
  have e : dmag r <<< (dexp r - b) * 2 ^ b = dval r := by
    rw [Nat.shiftLeft_eq, Nat.mul_assoc, ← Nat.pow_add, Nat.sub_add_cancel h]
    rfl
  unfold Ieee.signed
  rw [← e, Int.natCast_mul]
  cases s with
  | true =>
    simp only [if_true]
    rw [Int.neg_mul]
  | false => rfl
theorem cmp_scale (x y : Int) (k : Nat) (h : 0 < k) : compare (x * (k : Int)) (y * (k : Int)) = compare x y := by
  have h2 : (0 : Int) < k := by omega
  simp only [compare, compareOfLessAndEq]
  have e1 : x * (k : Int) < y * (k : Int) ↔ x < y := Int.mul_lt_mul_right h2
  have e2 : x * (k : Int) = y * (k : Int) ↔ x = y := ⟨fun h => Int.eq_of_mul_eq_mul_right (by omega) h, fun h => by rw [h]⟩
  simp only [e1, e2]
theorem order_fin {w v : Nat} (h1 : rg w < infR) (h2 : rg v < infR) : FloatKind.f64.format.order w v = some (compare (sv w) (sv v)) := by
  change Ieee.double.order w v = _
  unfold Ieee.Format.order
  rw [read_fin h1, read_fin h2]
  simp only [Ieee.Datum.order]
  congr 1
  obtain ⟨b, hb⟩ : ∃ b, min (dexp (rg w)) (dexp (rg v)) = b := ⟨_, rfl⟩
  have e1 : (-1074 + (dexp (rg w) : Int) - min (-1074 + (dexp (rg w) : Int)) (-1074 + (dexp (rg v) : Int))).toNat = dexp (rg w) - b := by omega
  have e2 : (-1074 + (dexp (rg v) : Int) - min (-1074 + (dexp (rg w) : Int)) (-1074 + (dexp (rg v) : Int))).toNat = dexp (rg v) - b := by omega
  rw [e1, e2, ← cmp_scale _ _ (2 ^ b) (Nat.two_pow_pos b), signed_val _ _ _ (by omega), signed_val _ _ _ (by omega)]
  rfl
theorem flt_gt {w v : Nat} (h1 : rg w < infR) (h2 : rg v < infR) : (FloatKind.f64.format.order w v == some .gt) = decide (sv v < sv w) := by
  rw [order_fin h1 h2]
  simp only [compare, compareOfLessAndEq]
  by_cases a : sv w < sv v
  · rw [if_pos a, decide_eq_false (by omega)]; rfl
  · rw [if_neg a]
    by_cases b : sv w = sv v
    · rw [if_pos b, decide_eq_false (by omega)]; rfl
    · rw [if_neg b, decide_eq_true (by omega)]; rfl
theorem flt_lt {w v : Nat} (h1 : rg w < infR) (h2 : rg v < infR) : (FloatKind.f64.format.order w v == some .lt) = decide (sv w < sv v) := by
  rw [order_fin h1 h2]
  simp only [compare, compareOfLessAndEq]
  by_cases a : sv w < sv v
  · rw [if_pos a, decide_eq_true a]; rfl
  · rw [if_neg a, decide_eq_false a]
    by_cases b : sv w = sv v
    · rw [if_pos b]; rfl
    · rw [if_neg b]; rfl
theorem flt_eq {w v : Nat} (h1 : rg w < infR) (h2 : rg v < infR) : (FloatKind.f64.format.order w v == some .eq) = decide (sv w = sv v) := by
  rw [order_fin h1 h2]
  simp only [compare, compareOfLessAndEq]
  by_cases a : sv w < sv v
  · rw [if_pos a, decide_eq_false (by omega)]; rfl
  · rw [if_neg a]
    by_cases b : sv w = sv v
    · rw [if_pos b, decide_eq_true b]; rfl
    · rw [if_neg b, decide_eq_false b]; rfl
theorem order_nan {w v : Nat} (h : infR < rg w) : FloatKind.f64.format.order w v = none := by
  change Ieee.double.order w v = _
  unfold Ieee.Format.order
  obtain ⟨t, e⟩ := read_nan h
  rw [e]
  rfl
theorem order_self_inf {w : Nat} (h : rg w = infR) : FloatKind.f64.format.order w w = some .eq := by
  change Ieee.double.order w w = _
  unfold Ieee.Format.order
  rw [read_inf h]
  simp only [Ieee.Datum.order]
  cases sgn w <;> rfl
theorem order_inf_pos {w v : Nat} (h1 : rg w = infR) (hs : sgn w = false) (h2 : rg v < infR) : FloatKind.f64.format.order w v = some .gt := by
  change Ieee.double.order w v = _
  unfold Ieee.Format.order
  rw [read_inf h1, read_fin h2, hs]
  rfl
theorem order_inf_neg {w v : Nat} (h1 : rg w = infR) (hs : sgn w = true) (h2 : rg v < infR) : FloatKind.f64.format.order w v = some .lt := by
  change Ieee.double.order w v = _
  unfold Ieee.Format.order
  rw [read_inf h1, read_fin h2, hs]
  rfl
end Go.AM.F

/- floats.number, floats.Nearest, fixed.Ratio, fixed.Float: what they answer. No conditions. -/
namespace Go.AM.F
open Go Go.AM
set_option maxRecDepth 10000
set_option linter.unusedSimpArgs false
attribute [local simp] j0_floats_number j1_floats_number b_floats_number a_floats_number
attribute [local simp] j0_floats_Nearest j1_floats_Nearest b_floats_Nearest a_floats_Nearest
def wrd (neg : Bool) (r : Nat) : Nat := if neg = true then 9223372036854775808 + r else r
theorem rung_end {n d : Nat} (hd : 0 < d) (h : IsE n d (theE n d)) (hE : theE n d ≤ 900) : endE n d (theE n d) ≤ 971 ∧ rung n d (theE n d) < infR ∧
    rung n d (theE n d) = if endM n d (theE n d) < 4503599627370496 then endM n d (theE n d) else (endE n d (theE n d) + 1075).toNat * 4503599627370496 + (endM n d (theE n d) - 4503599627370496) := by
  have h1 := theM_le h
  have h2 := h.lo
  have h3 := theM_ge (n := n) (d := d) (e := theE n d)
  have h4 : -1074 < theE n d → 4503599627370496 ≤ qQ n d (theE n d) := theE_full hd h
  have hi : infR = 9218868437227405312 := rfl
  unfold rung endE endM
  generalize theE n d = e at *
  generalize theM n d e = m at *
  generalize qQ n d e = q at *
  by_cases hm : m = 9007199254740992
  · rw [if_pos hm, if_pos hm, if_neg (by omega)]
    refine ⟨by omega, by omega, ?_⟩
    have : (e + 1 + 1075).toNat = (e + 1074).toNat + 2 := by omega
    rw [this, Nat.add_mul]
    omega
  · rw [if_neg hm, if_neg hm]
    refine ⟨by omega, by omega, ?_⟩
    split
    · have : e = -1074 := by
        rcases Int.lt_or_le (-1074) e with hl | hl
        · have := h4 hl; omega
        · omega
      subst this
      omega
    · have : (e + 1075).toNat = (e + 1074).toNat + 1 := by omega
      rw [this, Nat.add_mul]
      omega
theorem shl52 {k kk : Nat} (h : k * 4503599627370496 = kk) (hk : kk < 18446744073709551616) : binInt .shl .u64 (k : Int) 52 = some (.int .u64 (kk : Nat)) := by
  have e : k * 2 ^ 52 = kk := by rw [← h]
  have := shl_64 k 52 (by decide) (by rw [e]; exact hk)
  rw [e] at this
  exact this
theorem wrap_sum {a b r : Nat} (h : a + b = r) (hr : r < 18446744073709551616) : IntKind.u64.wrap ((a : Int) + (b : Int)) = (r : Int) := by
  rw [← Int.natCast_add, h, u64_nat hr]
theorem wrap_less {a b r : Nat} (h : b + r = a) (hr : r < 18446744073709551616) : IntKind.u64.wrap ((a : Int) - (b : Int)) = (r : Int) := by
  rw [show (a : Int) - b = (r : Int) by omega, u64_nat hr]
theorem c_number (neg : Bool) (n d : Nat) (hn : Big n) (hd : Big d) (hn0 : n ≠ 0) (hd0 : d ≠ 0) (h : loE n d ≤ 800) :
    Cinf T n_floats_number [.v (.bool neg), .ro 1 (ul (limbs n)), .ro 1 (ul (limbs d))] = some (.v (.float .f64 (wrd neg (rung n d (theE n d)))), [.dead, .dead, .dead]) := by
  have hE : theE n d ≤ 900 := by
    unfold theE
    rw [upE]
    split
    · rw [upE]; omega
    · omega
  have v1 := c_fnearest n d hn hd hn0 hd0 (by omega)
  have his := theE_is hn0 (Nat.pos_of_ne_zero hd0)
  obtain ⟨e1, e2, e3⟩ := rung_end (Nat.pos_of_ne_zero hd0) his hE
  have hlo := his.lo
  have hlo2 : -1074 ≤ endE n d (theE n d) := by unfold endE; split <;> omega
  have hm : endM n d (theE n d) < 9007199254740992 := by
    have := theM_le his
    unfold endM
    split <;> omega
  rw [decide_eq_true e1] at v1
  unfold wideB at v1
  generalize endE n d (theE n d) = e at *
  generalize endM n d (theE n d) = m at *
  generalize rung n d (theE n d) = r at *
  have hi : infR = 9218868437227405312 := rfl
  obtain ⟨x, hx⟩ : ∃ x, 9223372036854775808 + r = x := ⟨_, rfl⟩
  have hor : binInt .or .u64 (r : Nat) 9223372036854775808 = some (.int .u64 (x : Nat)) :=
    or64 (x := r) (y := 9223372036854775808) (by omega) (by decide) ((or_low (c := r) (x := 1) (r := 63) (by omega)).trans (by omega))
  have g1 : glob1 = wideB := rfl
  rw [run_floats_number]
  unfold wrd
  by_cases hb : m < 4503599627370496
  · rw [if_pos hb] at e3
    subst e3
    cases neg with
    | true =>
      rw [if_pos rfl, hx]
      simp [-binInt_or, Run, g1, wideB, v1, hb, hor]
    | false => simp [-binInt_or, Run, g1, wideB, v1, hb]
  · rw [if_neg hb] at e3
    obtain ⟨k, hk⟩ : ∃ k : Nat, e + 1075 = k := ⟨(e + 1075).toNat, by omega⟩
    rw [hk, Int.toNat_natCast] at e3
    have w1 : IntKind.i64.wrap (e + 1075) = (k : Int) := by rw [hk, wrap_i64] <;> omega
    have w2 : IntKind.u64.wrap (k : Int) = (k : Int) := u64_nat (by omega)
    obtain ⟨mm, hmm⟩ : ∃ mm, m - 4503599627370496 = mm := ⟨_, rfl⟩
    obtain ⟨kk, hkk⟩ : ∃ kk, k * 4503599627370496 = kk := ⟨_, rfl⟩
    rw [hmm, hkk] at e3
    have w3 : IntKind.u64.wrap ((m : Int) - 4503599627370496) = (mm : Int) := wrap_less (b := 4503599627370496) (by omega) (by omega)
    have sh := shl52 hkk (by omega)
    have w4 : IntKind.u64.wrap ((kk : Int) + (mm : Int)) = (r : Int) := wrap_sum e3.symm (by omega)
    have hb' : ¬ (m : Int) < 4503599627370496 := by omega
    cases neg with
    | true =>
      rw [if_pos rfl, hx]
      simp [-binInt_or, -binInt_shl, Run, g1, wideB, v1, hb, hb', w1, w2, w3, sh, w4, hor]
    | false => simp [-binInt_or, -binInt_shl, Run, g1, wideB, v1, hb, hb', w1, w2, w3, sh, w4]
theorem rung_scale {n d g : Nat} (hg : 0 < g) (hn : n ≠ 0) (hd : 0 < d) : rung (g * n) (g * d) (theE (g * n) (g * d)) = rung n d (theE n d) := by
  have h1 := theE_is (n := g * n) (d := g * d) (by have := Nat.mul_pos hg (Nat.pos_of_ne_zero hn); omega) (Nat.mul_pos hg hd)
  have h2 := theE_is hn hd
  rw [(h1.unscale hg).unique hd h2]
  unfold rung
  rw [theM_scale hg]
theorem nbits_mono {a b : Nat} (h : a ≤ b) : nbits a ≤ nbits b := nbits_le (Nat.lt_of_le_of_lt h (nbits_lt (Nat.le_refl _)))
theorem nbits_one (n : Nat) (h : n ≠ 0) : 1 ≤ nbits n := by rw [nbits_pos h]; omega
/-- The word of a number of millionths. -/
noncomputable def fw (v : Int) : Nat := if v = 0 then 0 else wrd (decide (v < 0)) (rung v.natAbs 1000000 (theE v.natAbs 1000000))
theorem c_fNearest (neg : Bool) (n d : Nat) (hn : n < 18446744073709551616) (hd : d ≤ 1000000) (hd0 : d ≠ 0) :
    Cinf T n_floats_Nearest [.agg [.v (.bool neg), .ro 1 (ul (limbs n)), .ro 1 (ul (limbs d))]] = some (.tup [.v (.float .f64 (if n = 0 then 0 else wrd neg (rung n d (theE n d)))), .v (.int .i64 0)], [.dead]) := by
  have fn : Fit (limbs n) := fit_bits (k := 64) hn (by decide)
  have fd : Fit (limbs d) := fit_bits (k := 64) (by omega) (by decide)
  have o := c_Over neg (limbs n) (limbs d) fn fd
  rw [val_limbs, val_limbs] at o
  unfold overR at o
  rw [if_neg hd0] at o
  rw [run_floats_Nearest]
  by_cases h0 : n = 0
  · subst h0
    rw [if_pos rfl]
    have l1 := c_Len (limbs 0) (fit_bits (k := 64) (by decide) (by decide))
    have l2 := c_Len (limbs 1) (fit_bits (k := 64) (by decide) (by decide))
    rw [val_limbs] at l1 l2
    rw [nbits_zero] at l1
    have n1 : nbits 1 = 1 := by rw [nbits_pos (by decide)]; simp [nbits_zero]
    rw [n1] at l2
    simp only [rightR, rat, if_true] at o
    have w1 : IntKind.i64.wrap (-1) = -1 := wrap_i64 (by decide) (by decide)
    simp at l1 l2
    simp [Run, o, l1, l2, w1]
  · rw [if_neg h0]
    obtain ⟨g, hg⟩ : ∃ g, Nat.gcd n d = g := ⟨_, rfl⟩
    have hg0 : 0 < g := by rw [← hg]; exact Nat.gcd_pos_of_pos_left _ (Nat.pos_of_ne_zero h0)
    obtain ⟨n', hn'⟩ : ∃ n', n / g = n' := ⟨_, rfl⟩
    obtain ⟨d', hd'⟩ : ∃ d', d / g = d' := ⟨_, rfl⟩
    have en : n = g * n' := by rw [← hn', Nat.mul_div_cancel' (by rw [← hg]; exact Nat.gcd_dvd_left _ _)]
    have ed : d = g * d' := by rw [← hd', Nat.mul_div_cancel' (by rw [← hg]; exact Nat.gcd_dvd_right _ _)]
    unfold rightR at o
    rw [if_neg h0, hg, hn', hd'] at o
    have z1 : n' ≠ 0 := by rintro rfl; exact h0 (by rw [en, Nat.mul_zero])
    have z2 : d' ≠ 0 := by rintro rfl; exact hd0 (by rw [ed, Nat.mul_zero])
    have hn2 : n' ≤ n := by rw [← hn']; exact Nat.div_le_self _ _
    have hd2 : d' ≤ d := by rw [← hd']; exact Nat.div_le_self _ _
    have fn' : Fit (limbs n') := fit_mono fn hn2
    have fd' : Fit (limbs d') := fit_mono fd hd2
    have l1 := c_Len (limbs n') fn'
    have l2 := c_Len (limbs d') fd'
    rw [val_limbs] at l1 l2
    have b1 : nbits n' ≤ 64 := nbits_le (by omega)
    have b2 : nbits d' ≤ 64 := nbits_le (by omega)
    have b3 := nbits_one n' z1
    have hsc := rung_scale (n := n') (d := d') hg0 z1 (Nat.pos_of_ne_zero z2)
    rw [← en, ← ed] at hsc
    have hnum := c_number neg n' d' (Big.of (k := 64) (by omega) (by decide)) (Big.of (k := 64) (by omega) (by decide)) z1 z2 (by unfold loE; omega)
    rw [← hsc] at hnum
    have w1 : IntKind.i64.wrap ((nbits n' : Int) - nbits d') = (nbits n' : Int) - nbits d' := by rw [wrap_i64] <;> omega
    have c1 : ¬ nbits n' = 0 := by omega
    have c2 : ¬ 2000 < (nbits n' : Int) - nbits d' := by omega
    have c3 : ¬ (nbits n' : Int) - nbits d' < -2000 := by omega
    simp only [rat] at o
    simp [Run, o, l1, l2, w1, c1, c2, c3, hnum]
end Go.AM.F

/- Digits in a text: where they end, what they say. No conditions. -/
namespace Go.AM.F
open Go Go.AM
set_option maxRecDepth 10000
set_option linter.unusedSimpArgs false
/-- Where the digits end that begin at a place. -/
def dgE (s : ByteArray) (k : Nat) : Nat := stop (badDig s) (s.size - k) k
theorem dgE_le (s : ByteArray) {k : Nat} (h : k ≤ s.size) : k ≤ dgE s k ∧ dgE s k ≤ s.size := by
  have := stop_le (badDig s) (s.size - k) k
  unfold dgE
  omega
theorem dgE_good (s : ByteArray) {k j : Nat} (h1 : k ≤ j) (h2 : j < dgE s k) : badDig s j = false := stop_not _ _ _ _ h1 h2
theorem dgE_bad (s : ByteArray) {k : Nat} (hk : k ≤ s.size) (h : dgE s k < s.size) : badDig s (dgE s k) = true := by
  unfold dgE at h ⊢
  exact stop_is _ _ _ (by omega)
theorem dgE_end (s : ByteArray) {k : Nat} (h : s.size ≤ k) : dgE s k = k := by
  unfold dgE
  rw [show s.size - k = 0 by omega]
  rfl
theorem dgE_here (s : ByteArray) {k : Nat} (h : k < s.size) (hb : badDig s k = true) : dgE s k = k := by
  unfold dgE
  rw [show s.size - k = (s.size - k - 1) + 1 by omega, stop, if_pos hb]
theorem dgE_next (s : ByteArray) {k : Nat} (h : k < s.size) (hb : badDig s k = false) : dgE s k = dgE s (k + 1) := by
  unfold dgE
  rw [show s.size - k = (s.size - (k + 1)) + 1 by omega, stop, hb]
  simp
/-! ### Lists of digits -/
def sub (s : ByteArray) (a b : Nat) : List UInt8 := (s.data.toList.take b).drop a
theorem data_len (s : ByteArray) : s.data.toList.length = s.size := by
  show s.data.toList.length = s.data.size
  simp only [Array.length_toList]
theorem extract_sub (s : ByteArray) (a b : Nat) : s.extract a b = tx (sub s a b) := by
  apply ByteArray.ext
  rw [ByteArray.data_extract]
  apply Array.ext'
  rw [Array.toList_extract, tx, sub]
  simp [List.drop_take]
theorem sub_len (s : ByteArray) {a b : Nat} (h : b ≤ s.size) : (sub s a b).length = b - a := by
  have := data_len s
  simp only [sub, List.length_drop, List.length_take]
  omega
def AllD (l : List UInt8) : Prop := ∀ x ∈ l, 48 ≤ x.toNat ∧ x.toNat ≤ 57
theorem AllD.append {l m : List UInt8} (h : AllD l) (k : AllD m) : AllD (l ++ m) := fun x hx => (List.mem_append.1 hx).elim (h x) (k x)
theorem AllD.zeros (n : Nat) : AllD (List.replicate n 48) := fun x hx => by
  obtain rfl := List.eq_of_mem_replicate hx
  decide
theorem AllD.sub (s : ByteArray) {a b : Nat} (h : b ≤ s.size) (k : ∀ j, a ≤ j → j < b → badDig s j = false) : AllD (sub s a b) := by
  intro x hx
  obtain ⟨i, hi, rfl⟩ := List.getElem_of_mem hx
  have hl := sub_len s (a := a) h
  have hlen := data_len s
  have h1 := good_dig (k (a + i) (by omega) (by omega))
  have h2 : ch s (a + i) = ((F.sub s a b)[i]).toNat := by
    have h3 : (F.sub s a b)[i] = s.data.toList[a + i]'(by omega) := by simp [F.sub]
    rw [h3]
    unfold ch
    rw [List.getD_eq_getElem?_getD, List.getElem?_eq_getElem (by omega)]
    rfl
  rw [h2] at h1
  exact h1
/-- What digits say. -/
def dV (l : List UInt8) : Nat := l.foldl (fun v x => 10 * v + (x.toNat - 48)) 0
theorem dV_snoc (l : List UInt8) (x : UInt8) : dV (l ++ [x]) = 10 * dV l + (x.toNat - 48) := by simp [dV]
theorem decN_take (l : List UInt8) : ∀ n, n ≤ l.length → decN (tx l) 0 n = dV (l.take n)
  | 0, _ => by simp [decN, dV]
  | n + 1, h => by
    rw [decN, decN_take l n (by omega), List.take_succ_eq_append_getElem (by omega), dV_snoc, Nat.zero_add, ch_tx, List.getElem?_eq_getElem (by omega)]
    rfl
theorem decN_dV (l : List UInt8) : decN (tx l) 0 l.length = dV l := by rw [decN_take l _ (Nat.le_refl _), List.take_of_length_le (Nat.le_refl _)]
theorem dV_from (b : List UInt8) : ∀ v, b.foldl (fun v x => 10 * v + (x.toNat - 48)) v = 10 ^ b.length * v + dV b := by
  unfold dV
  induction b with
  | nil => intro v; simp
  | cons x b ih =>
    intro v
    rw [List.foldl_cons, List.foldl_cons, ih, ih (10 * 0 + _), List.length_cons, Nat.pow_succ, Nat.mul_add, Nat.mul_zero, Nat.zero_add, Nat.mul_assoc, Nat.add_assoc]
theorem dV_append (a b : List UInt8) : dV (a ++ b) = 10 ^ b.length * dV a + dV b := by
  rw [dV, List.foldl_append, dV_from]
  rfl
theorem dV_zeros (n : Nat) : dV (List.replicate n 48) = 0 := by
  induction n with
  | zero => rfl
  | succ n ih => rw [List.replicate_succ', dV_snoc, ih]; rfl
theorem dV_cons (x : UInt8) (l : List UInt8) : dV (x :: l) = 10 ^ l.length * (x.toNat - 48) + dV l := by
  rw [dV, List.foldl_cons, dV_from]
  simp
theorem dV_lt {l : List UInt8} (h : AllD l) : dV l < 10 ^ l.length := by
  induction l with
  | nil => simp [dV]
  | cons x l ih =>
    have h1 := ih fun y hy => h y (by simp [hy])
    have h2 := h x (by simp)
    rw [dV_cons, List.length_cons, Nat.pow_succ]
    have h3 : 10 ^ l.length * (x.toNat - 48) ≤ 10 ^ l.length * 9 := Nat.mul_le_mul_left _ (by omega)
    omega
theorem fault_good {l : List UInt8} (h : AllD l) : fault (tx l) = l.length := by
  have h1 := stop_le (badDig (tx l)) (tx l).size 0
  unfold fault
  rw [tx_size] at h1 ⊢
  refine Nat.le_antisymm (by omega) (Nat.not_lt.1 fun hc => ?_)
  have h2 := stop_is (badDig (tx l)) l.length 0 (by omega)
  obtain ⟨q, hq⟩ : ∃ q, stop (badDig (tx l)) l.length 0 = q := ⟨_, rfl⟩
  rw [hq] at h2 hc
  have h3 := h _ (List.getElem_mem hc)
  unfold badDig at h2
  rw [ch_tx, List.getElem?_eq_getElem hc] at h2
  simp at h2
  omega
theorem readR_good {l : List UInt8} (h : AllD l) (h0 : l ≠ []) : readR (tx l) = .tup [.own 1 (ul (limbs (dV l))), .v (.int .i64 0), .v (.int .i64 0)] := by
  unfold readR
  rw [fault_good h, tx_size, if_neg (by omega), if_neg (by simpa using h0), decN_dV]
end Go.AM.F

/- Read, by the program and by the document. No conditions. -/
namespace Go.AM.F
open Go Go.AM
set_option maxRecDepth 10000
set_option linter.unusedSimpArgs false
theorem one_iff (t : ByteArray) (b : UInt8) (h : 1 ≤ t.size) : t.extract 0 1 = ⟨#[b]⟩ ↔ ch t 0 = b.toNat := by
  constructor
  · intro k
    have h0 := ch_extract t 0 1 0 (by omega) h
    rw [k] at h0
    exact h0.symm
  · intro k0
    apply bytes_ext
    · rw [extract_size _ _ _ (by omega) h]; rfl
    · intro i hi
      rw [extract_size _ _ _ (by omega) h] at hi
      rw [ch_extract t 0 1 i (by omega) h, Nat.zero_add]
      match i, hi with
      | 0, _ => exact k0
/-- A number's sign, its parts' ends. -/
def negT (s : ByteArray) : Bool := decide (1 ≤ s.size ∧ ch s 0 = 45)
def fr (s : ByteArray) : Nat := if negT s then 1 else 0
def wE (s : ByteArray) : Nat := dgE s (fr s)
def dotT (s : ByteArray) : Bool := decide (wE s < s.size ∧ ch s (wE s) = 46)
def pE (s : ByteArray) : Nat := dgE s (wE s + 1)
theorem fr_le (s : ByteArray) : fr s ≤ s.size ∧ fr s ≤ 1 := by
  unfold fr
  cases h : negT s
  · simp
  · unfold negT at h
    simp at h
    simp
    omega
theorem wE_le (s : ByteArray) : fr s ≤ wE s ∧ wE s ≤ s.size := dgE_le s (fr_le s).1
theorem dotT_lt {s : ByteArray} (h : dotT s = true) : wE s < s.size ∧ ch s (wE s) = 46 := by simpa [dotT] using h
theorem pE_le {s : ByteArray} (h : dotT s = true) : wE s + 1 ≤ pE s ∧ pE s ≤ s.size := dgE_le s (dotT_lt h).1
/-- A fault at a place. -/
def badF (k : Nat) : PV := .tup [.v (.int .i64 0), .v (.int .i64 40), .v (.int .i64 k)]
def valF (neg : Bool) (m : Nat) : PV := if 9223372036854775808 < m ∨ (m = 9223372036854775808 ∧ neg = false) then .tup [.v (.int .i64 0), .v (.int .i64 41), .v (.int .i64 0)] else .tup [.v (.int .i64 (if neg then -(m : Int) else m)), .v (.int .i64 0), .v (.int .i64 0)]
/-- The digits with those behind the point, six of them. -/
def wL (s : ByteArray) : List UInt8 := sub s (fr s) (wE s)
def pL (s : ByteArray) : List UInt8 := if dotT s then sub s (wE s + 1) (pE s) else []
def rdU (s : ByteArray) : List UInt8 := wL s ++ pL s ++ List.replicate (6 - (pL s).length) 48
/-- What Read answers. -/
def rd4 (s : ByteArray) : PV :=
  if 4096 < s.size then .tup [.v (.int .i64 0), .v (.int .i64 4), .v (.int .i64 0)]
  else if wE s = fr s then badF (wE s)
  else if dotT s = true then
    if pE s = wE s + 1 then badF (pE s)
    else if wE s + 7 < pE s then badF (wE s + 7)
    else if pE s < s.size then badF (pE s)
    else valF (negT s) (dV (rdU s))
  else if wE s < s.size then badF (wE s)
  else valF (negT s) (dV (rdU s))
theorem wL_all (s : ByteArray) : AllD (wL s) := AllD.sub s (wE_le s).2 fun _ h1 h2 => dgE_good s h1 h2
theorem pL_all (s : ByteArray) : AllD (pL s) := by
  unfold pL
  cases h : dotT s
  · intro x hx; simp at hx
  · exact AllD.sub s (pE_le h).2 fun _ h1 h2 => dgE_good s h1 h2
theorem rdU_all (s : ByteArray) : AllD (rdU s) := ((wL_all s).append (pL_all s)).append (AllD.zeros _)
theorem wL_len (s : ByteArray) : (wL s).length = wE s - fr s := sub_len s (wE_le s).2
theorem tx_nil : (⟨#[]⟩ : ByteArray) = tx [] := rfl
end Go.AM.F

/- Print, by the program and by the document. No conditions. -/
namespace Go.AM.F
open Go Go.AM
set_option maxRecDepth 10000
set_option linter.unusedSimpArgs false
/-- A number's digits. -/
def digs (n : Nat) : List UInt8 := if n = 0 then [48] else (revD n).reverse
theorem digs_small {n : Nat} (h : n < 10) : digs n = [db n] := by
  match n, h with
  | 0, _ => rfl
  | n + 1, h =>
    unfold digs
    rw [if_neg (by omega), revD_pos (by omega), show (n + 1) / 10 = 0 by omega, revD_zero, show (n + 1) % 10 = n + 1 by omega]
    rfl
theorem digs_big {n : Nat} (h : ¬ n < 10) : digs n = digs (n / 10) ++ [db (n % 10)] := by
  unfold digs
  rw [if_neg (by omega), if_neg (by omega), revD_pos (v := n) (by omega), List.reverse_cons]
theorem digs_all : ∀ n, AllD (digs n) := by
  intro n
  induction n using Nat.strongRecOn with
  | _ n ih =>
    by_cases h : n < 10
    · rw [digs_small h]
      intro x hx
      simp at hx
      subst hx
      rw [db_nat h]
      omega
    · rw [digs_big h]
      refine (ih (n / 10) (by omega)).append fun x hx => ?_
      simp at hx
      subst hx
      rw [db_nat (Nat.mod_lt _ (by decide))]
      omega
theorem digs_val : ∀ n, dV (digs n) = n := by
  intro n
  induction n using Nat.strongRecOn with
  | _ n ih =>
    by_cases h : n < 10
    · rw [digs_small h]
      simp [dV, db_nat h]
    · rw [digs_big h, dV_snoc, ih (n / 10) (by omega), db_nat (Nat.mod_lt _ (by decide))]
      omega
theorem digs_ne (n : Nat) : digs n ≠ [] := by
  by_cases h : n < 10
  · rw [digs_small h]; simp
  · rw [digs_big h]; simp
theorem digs_len : ∀ k n, 0 < k → n < 10 ^ k → (digs n).length ≤ k
  | 0, _, h, _ => by omega
  | k + 1, n, _, h => by
    by_cases h1 : n < 10
    · rw [digs_small h1]; simp
    · rw [digs_big h1]
      have hk : k ≠ 0 := by rintro rfl; simp at h; omega
      have := digs_len k (n / 10) (by omega) (by rw [Nat.pow_succ] at h; omega)
      simp
      omega
theorem decL_digs : ∀ f n, 0 < f → n < 10 ^ f → decL f n = digs n
  | 0, _, h, _ => by omega
  | f + 1, n, _, h => by
    rw [decL]
    by_cases h1 : n < 10
    · rw [if_pos h1, digs_small h1]
      rfl
    · have hk : f ≠ 0 := by rintro rfl; simp at h; omega
      rw [if_neg h1, digs_big h1, decL_digs f (n / 10) (by omega) (by rw [Nat.pow_succ] at h; omega)]
      rfl
/-! ### Noughts at the end -/
def rtrim (l : List UInt8) : List UInt8 := (l.reverse.dropWhile (· == 48)).reverse
theorem rtrim_zeros (m : Nat) : rtrim (List.replicate m 48) = [] := by
  unfold rtrim
  rw [List.reverse_replicate]
  induction m with
  | zero => rfl
  | succ m ih => rw [List.replicate_succ]; simp [ih]
theorem rtrim_eq (r : List UInt8) (b : UInt8) (hb : b ≠ 48) (m : Nat) : rtrim (r ++ b :: List.replicate m 48) = r ++ [b] := by
  unfold rtrim
  rw [List.reverse_append, List.reverse_cons, List.reverse_replicate]
  have : (List.replicate m (48 : UInt8) ++ [b] ++ r.reverse).dropWhile (· == 48) = b :: r.reverse := by
    induction m with
    | zero => simp [hb]
    | succ m ih => rw [List.replicate_succ]; simpa using ih
  rw [this]
  simp
theorem split_zeros : ∀ l : List UInt8, (∃ r b m, b ≠ 48 ∧ l = r ++ b :: List.replicate m 48) ∨ ∃ m, l = List.replicate m 48
  | [] => .inr ⟨0, rfl⟩
  | x :: l => by
    rcases split_zeros l with ⟨r, b, m, hb, rfl⟩ | ⟨m, rfl⟩
    · exact .inl ⟨x :: r, b, m, hb, rfl⟩
    · by_cases h : x = 48
      · subst h
        exact .inr ⟨m + 1, by rw [List.replicate_succ]⟩
      · exact .inl ⟨[], x, m, h, rfl⟩
theorem cut_last (l : List UInt8) (x : UInt8) : (tx (l ++ [x])).extract 0 l.length = tx l := by
  rw [extract_sub]
  simp [sub]
theorem last_ne (l : List UInt8) (x : UInt8) : ∃ t : ByteArray, tx (l ++ [x]) = t ∧ t.size = l.length + 1 ∧ ch t l.length = x.toNat ∧ t.extract 0 l.length = tx l := ⟨_, rfl, by simp, ch_mid l x, cut_last l x⟩
/-- Six digits behind the point. -/
def pad6 (n : Nat) : List UInt8 := List.replicate (6 - (digs n).length) 48 ++ digs n
theorem pad6_split {n : Nat} (h : n ≠ 0) : ∃ r b m, b ≠ 48 ∧ pad6 n = r ++ b :: List.replicate m 48 := by
  rcases split_zeros (pad6 n) with k | ⟨m, k⟩
  · exact k
  · have h1 := congrArg dV k
    rw [dV_zeros, pad6, dV_append, dV_zeros, digs_val] at h1
    omega
/-- What Print answers. -/
def prL (v : Int) : List UInt8 := (if v < 0 then [45] else []) ++ (digs (v.natAbs / 1000000) ++ (if v.natAbs % 1000000 = 0 then [] else 46 :: rtrim (pad6 (v.natAbs % 1000000))))
end Go.AM.F

/- Powers that are said, digits as naturals, powers of ten. No conditions. -/
namespace Go.AM.F
open Go Go.AM
set_option maxRecDepth 10000
set_option linter.unusedSimpArgs false
theorem dV_take_succ {l : List UInt8} {i : Nat} (hlt : i < l.length) : dV (l.take (i + 1)) = 10 * dV (l.take i) + ((l[i]).toNat - 48) := by
  rw [List.take_succ_eq_append_getElem hlt, dV_snoc]
/-- The number of the digits of a power, as it is taken. -/
def pwN (l : List UInt8) : Nat := min (dV l) 100000
theorem first_dig {l : List UInt8} (ha : AllD l) : ¬ (1 ≤ (tx l).size ∧ ch (tx l) 0 = 45) := by
  rintro ⟨h1, h2⟩
  cases l with
  | nil => simp at h1
  | cons x l =>
    have h3 := ha x (by simp)
    rw [ch_tx] at h2
    simp at h2
    omega
/-- The sign that may stand before a power. -/
inductive Sgn where | none | plus | minus
def Sgn.txt : Sgn → List UInt8
  | .none => []
  | .plus => [43]
  | .minus => [45]
def Sgn.neg : Sgn → Bool
  | .minus => true
  | _ => false
/-! ### A natural times a limb -/
theorem fit_dV {l : List UInt8} (ha : AllD l) (hl : l.length ≤ 1000000) : Fit (limbs (dV l)) :=
  fit_small l.length (Nat.lt_of_lt_of_le (dV_lt ha) (Nat.pow_le_pow_left (by decide) _)) (by omega)
end Go.AM.F

/- A decimal taken apart, by the program. No conditions. -/
namespace Go.AM.F
open Go Go.AM
set_option maxRecDepth 10000
set_option linter.unusedSimpArgs false
/-- Where the digits and their point end; the power's parts. -/
def e0 (s : ByteArray) : Nat := if dotT s then pE s else wE s
def eT (s : ByteArray) : Bool := decide (e0 s < s.size ∧ (ch s (e0 s) = 101 ∨ ch s (e0 s) = 69))
def sgAt (s : ByteArray) (k : Nat) : Sgn := if k < s.size ∧ ch s k = 43 then .plus else if k < s.size ∧ ch s k = 45 then .minus else .none
def p1 (s : ByteArray) : Nat := e0 s + 1 + (sgAt s (e0 s + 1)).txt.length
def qE (s : ByteArray) : Nat := dgE s (p1 s)
def sgT (s : ByteArray) : Sgn := if eT s then sgAt s (e0 s + 1) else .none
def pwL (s : ByteArray) : List UInt8 := if eT s then sub s (p1 s) (qE s) else []
/-- The fault from there on. -/
def fT (s : ByteArray) : Option Nat := if eT s then (if qE s = p1 s ∨ qE s < s.size then some (qE s) else none) else if e0 s < s.size then some (e0 s) else none
def fD (s : ByteArray) : Option Nat := if wE s = fr s then some (wE s) else if dotT s = true ∧ pE s = wE s + 1 then some (pE s) else fT s
theorem e0_le (s : ByteArray) : e0 s ≤ s.size := by
  unfold e0
  cases h : dotT s
  · exact (wE_le s).2
  · exact (pE_le h).2
theorem sub_cons (s : ByteArray) {a b : Nat} (h : a < b) (hb : b ≤ s.size) {x : UInt8} (hx : ch s a = x.toNat) : sub s a b = x :: sub s (a + 1) b := by
  have hl := data_len s
  have hlt : a < (s.data.toList.take b).length := by rw [List.length_take]; omega
  unfold sub
  rw [List.drop_eq_getElem_cons hlt]
  congr 1
  rw [List.getElem_take]
  unfold ch at hx
  rw [List.getD_eq_getElem?_getD, List.getElem?_eq_getElem (by omega)] at hx
  exact UInt8.toNat_inj.1 hx
theorem sgAt_sub (s : ByteArray) {k b : Nat} (h : k + (sgAt s k).txt.length ≤ b) (hb : b ≤ s.size) : sub s k b = (sgAt s k).txt ++ sub s (k + (sgAt s k).txt.length) b := by
  unfold sgAt at h ⊢
  by_cases h1 : k < s.size ∧ ch s k = 43
  · rw [if_pos h1] at h ⊢
    exact sub_cons s (show k < b from h) hb (x := 43) h1.2
  · rw [if_neg h1] at h ⊢
    by_cases h2 : k < s.size ∧ ch s k = 45
    · rw [if_pos h2] at h ⊢
      exact sub_cons s (show k < b from h) hb (x := 45) h2.2
    · rw [if_neg h2] at h ⊢
      rfl
/-- What is handed back. -/
def retD (f : Option Nat) (A : ByteArray) (b : Int) (p : ByteArray) : Env := match f with
  | some k => [(2, .v (.string ⟨#[]⟩)), (3, .v (.int .i64 0)), (4, .v (.string ⟨#[]⟩)), (5, .v (.int .i64 k))]
  | none => [(2, .v (.string A)), (3, .v (.int .i64 b)), (4, .v (.string p)), (5, .v (.int .i64 (-1)))]
def pwT (s : ByteArray) : ByteArray := tx ((if (sgT s).neg then [45] else []) ++ pwL s)
end Go.AM.F

/- A decimal taken apart, by the program and by the document. No conditions. -/
namespace Go.AM.F
open Go Go.AM
set_option maxRecDepth 10000
set_option linter.unusedSimpArgs false
def decR (s : ByteArray) : PV := match fD s with
  | some k => .tup [.v (.string ⟨#[]⟩), .v (.int .i64 0), .v (.string ⟨#[]⟩), .v (.int .i64 k)]
  | none => .tup [.v (.string (tx (wL s ++ pL s))), .v (.int .i64 (pL s).length), .v (.string (pwT s)), .v (.int .i64 (-1))]
/-! ### The document's -/
def txtC (n : Bool) (W P Q : ByteArray) : List PV := [.v (.bool false), .v (.bool false), .v (.bool false), .v (.int .u64 0), .v (.int .i64 0), .v (.bool false), .v (.bool n), .v (.bool false), .v (.string W), .v (.string P), .v (.string Q)]
def atI : Option Nat → Int
  | some k => k
  | none => -1
end Go.AM.F

/- The document's Split of a decimal. No conditions. -/
namespace Go.AM.F
open Go Go.AM
set_option maxRecDepth 10000
set_option linter.unusedSimpArgs false
end Go.AM.F

/- Decimals rounded: what is answered, in plain numbers. No conditions. -/
namespace Go.AM.F
open Go Go.AM
set_option maxRecDepth 10000
set_option linter.unusedSimpArgs false

def pwI (s : ByteArray) : Int := if (sgT s).neg then -(pwN (pwL s) : Int) else pwN (pwL s)
def pD (s : ByteArray) : Int := pwI s - (pL s).length + 6
def nD (s : ByteArray) : Nat := dV (wL s ++ pL s)
def rdec (n : Nat) (p : Int) : Nat := if 0 ≤ p then n * 10 ^ p.toNat else rnd n (10 ^ (-p).toNat)
/-- What Rounded answers. -/
def dcmI (s : ByteArray) : PV := match fD s with
  | some k => badF k
  | none => valF (negT s) (rdec (nD s) (pD s))
def dcm (s : ByteArray) : PV := if 4096 < s.size then .tup [.v (.int .i64 0), .v (.int .i64 4), .v (.int .i64 0)] else dcmI s
theorem rdec_zero (p : Int) : rdec 0 p = 0 := by
  unfold rdec
  split
  · rw [Nat.zero_mul]
  · have hB : 0 < 10 ^ (-p).toNat := Nat.pow_pos (by decide)
    obtain ⟨B, hBe⟩ : ∃ B, 10 ^ (-p).toNat = B := ⟨_, rfl⟩
    rw [hBe] at hB ⊢
    unfold rnd
    rw [Nat.zero_div, Nat.zero_mod, if_neg (by omega)]
theorem valF_zero (neg : Bool) : valF neg 0 = .tup [.v (.int .i64 0), .v (.int .i64 0), .v (.int .i64 0)] := by
  cases neg <;> rfl
theorem valF_big {neg : Bool} {m : Nat} (h : 9223372036854775808 < m) : valF neg m = .tup [.v (.int .i64 0), .v (.int .i64 41), .v (.int .i64 0)] := by
  unfold valF
  rw [if_pos (.inl h)]
theorem rdec_small {n k : Nat} {p : Int} (h : n < 10 ^ k) (hp : p < 0) (hk : k + 1 ≤ (-p).toNat) : rdec n p = 0 := by
  unfold rdec
  rw [if_neg (by omega)]
  have h1 : 10 ^ (k + 1) ≤ 10 ^ (-p).toNat := Nat.pow_le_pow_right (by decide) hk
  rw [Nat.pow_succ] at h1
  obtain ⟨B, hB⟩ : ∃ B, 10 ^ (-p).toNat = B := ⟨_, rfl⟩
  obtain ⟨K, hK⟩ : ∃ K, 10 ^ k = K := ⟨_, rfl⟩
  rw [hB, hK] at h1
  rw [hK] at h
  rw [hB]
  unfold rnd
  rw [Nat.div_eq_of_lt (by omega), Nat.mod_eq_of_lt (by omega), if_neg (by omega)]
theorem ten_big {k : Nat} (h : 19 ≤ k) : 9223372036854775808 < 10 ^ k := Nat.lt_of_lt_of_le (show 9223372036854775808 < 10 ^ 19 by decide) (Nat.pow_le_pow_right (by decide) h)
theorem rdec_big {n : Nat} {p : Int} (h0 : n ≠ 0) (hp : 30 < p) : 9223372036854775808 < rdec n p := by
  unfold rdec
  rw [if_pos (by omega)]
  exact Nat.lt_of_lt_of_le (ten_big (k := p.toNat) (by omega)) (Nat.le_mul_of_pos_left _ (by omega))
theorem digs_bounds : ∀ n, n ≠ 0 → 10 ^ ((digs n).length - 1) ≤ n ∧ n < 10 ^ (digs n).length ∧ 0 < (digs n).length := by
  intro n
  induction n using Nat.strongRecOn with
  | _ n ih =>
    intro h0
    by_cases h : n < 10
    · rw [digs_small h]
      simp
      omega
    · rw [digs_big h, List.length_append, List.length_singleton]
      obtain ⟨h1, h2, h3⟩ := ih (n / 10) (by omega) (by omega)
      obtain ⟨k, hk⟩ : ∃ k, (digs (n / 10)).length = k + 1 := ⟨(digs (n / 10)).length - 1, by omega⟩
      rw [hk] at h1 h2 ⊢
      rw [Nat.add_sub_cancel] at h1 ⊢
      refine ⟨?_, ?_, by omega⟩
      · rw [Nat.pow_succ]; omega
      · rw [Nat.pow_succ]; omega
theorem rdec_top {n : Nat} {p : Int} (h0 : n ≠ 0) (hp : 100 < ((digs n).length : Int) + p) : 9223372036854775808 < rdec n p := by
  obtain ⟨h1, _, h3⟩ := digs_bounds n h0
  obtain ⟨k, hk⟩ : ∃ k, (digs n).length = k + 1 := ⟨(digs n).length - 1, by omega⟩
  rw [hk] at h1 hp
  rw [Nat.add_sub_cancel] at h1
  unfold rdec
  split
  · rename_i h
    refine Nat.lt_of_lt_of_le (ten_big (k := k + p.toNat) (by omega)) ?_
    rw [Nat.pow_add]
    exact Nat.mul_le_mul_right _ h1
  · rename_i h
    refine Nat.lt_of_lt_of_le (ten_big (k := k - (-p).toNat) (by omega)) ?_
    refine Nat.le_trans ?_ (rnd_ge _ _)
    rw [Nat.le_div_iff_mul_le (Nat.pow_pos (by decide)), ← Nat.pow_add, show k - (-p).toNat + (-p).toNat = k by omega]
    exact h1
theorem rdec_low {n : Nat} {p : Int} (h0 : n ≠ 0) (hp : ((digs n).length : Int) + p < -10) : rdec n p = 0 := by
  obtain ⟨_, h2, _⟩ := digs_bounds n h0
  exact rdec_small h2 (by omega) (by omega)
theorem printT_digs (n : Nat) : printT n = tx (digs n) := by
  unfold printT digs
  split <;> rfl
theorem fit_ten {m : Nat} (h : m ≤ 1000000) : Fit (limbs (10 ^ m)) := by
  refine fit_small (m + 1) ?_ (by omega)
  refine Nat.lt_of_le_of_lt (Nat.pow_le_pow_left (show 10 ≤ 4294967296 by decide) m) ?_
  exact Nat.pow_lt_pow_right (by decide) (by omega)
theorem limbs_len0 {n : Nat} : (limbs n).length = 0 ↔ n = 0 := by
  constructor
  · intro h
    have h1 := List.eq_nil_of_length_eq_zero h
    have h2 := val_limbs n
    rw [h1] at h2
    exact h2.symm
  · rintro rfl
    rw [limbs_zero]
    rfl
theorem fD_none {s : ByteArray} (h : fD s = none) : wE s ≠ fr s := by
  intro k
  unfold fD at h
  rw [if_pos k] at h
  cases h
theorem pwL_all (s : ByteArray) : AllD (pwL s) := by
  unfold pwL
  cases heT : eT s
  · intro x hx; simp at hx
  · have hn : e0 s < s.size ∧ (ch s (e0 s) = 101 ∨ ch s (e0 s) = 69) := of_decide_eq_true heT
    have hp1 : p1 s ≤ s.size := by
      unfold p1 sgAt
      split
      · rename_i h; simp [Sgn.txt]; omega
      · split
        · rename_i h; simp [Sgn.txt]; omega
        · simp [Sgn.txt]; omega
    rw [if_pos rfl]
    exact AllD.sub s (dgE_le s hp1).2 fun _ h1 h2 => dgE_good s h1 h2
theorem pwL_len (s : ByteArray) : (pwL s).length ≤ s.size := by
  unfold pwL
  split
  · unfold sub
    rw [List.length_drop, List.length_take]
    have := data_len s
    omega
  · simp
theorem pL_len (s : ByteArray) : (pL s).length ≤ s.size := by
  unfold pL
  split
  · unfold sub
    rw [List.length_drop, List.length_take]
    have := data_len s
    omega
  · simp
theorem wL_len' (s : ByteArray) : (wL s).length ≤ s.size := by
  rw [wL_len]
  have := wE_le s
  omega
theorem pwI_range (s : ByteArray) : -100000 ≤ pwI s ∧ pwI s ≤ 100000 := by
  have : pwN (pwL s) ≤ 100000 := by unfold pwN; omega
  unfold pwI
  split <;> omega
/-- Where the document looks for other words first. -/
theorem fD_letter {s : ByteArray} (h : fr s < s.size) (hc : ch s (fr s) = 105 ∨ ch s (fr s) = 110) : fD s = some (fr s) := by
  have hb : badDig s (fr s) = true := by unfold badDig; rcases hc with hc | hc <;> simp [hc]
  have hw : wE s = fr s := dgE_here s h hb
  unfold fD
  rw [if_pos hw, hw]
theorem fD_hex {s : ByteArray} (h : fr s + 1 < s.size) (h0 : ch s (fr s) = 48) (hx : ch s (fr s + 1) = 120) : fD s = some (fr s + 1) := by
  have hb0 : badDig s (fr s) = false := by unfold badDig; simp [h0]
  have hb : badDig s (fr s + 1) = true := by unfold badDig; simp [hx]
  have hw : wE s = fr s + 1 := by
    unfold wE
    rw [dgE_next s (by omega) hb0, dgE_here s h hb]
  have hd : dotT s = false := by
    unfold dotT
    refine decide_eq_false ?_
    rw [hw, hx]
    omega
  have he : e0 s = fr s + 1 := by
    unfold e0
    rw [hd, hw]
    rfl
  have het : eT s = false := by
    unfold eT
    refine decide_eq_false ?_
    rw [he, hx]
    omega
  unfold fD fT
  rw [if_neg (by omega), hd, if_neg (by simp), het, he, if_pos h]
  rfl
end Go.AM.F

/- Rounded, by the program. No conditions. -/
namespace Go.AM.F
open Go Go.AM
set_option maxRecDepth 10000
set_option exponentiation.threshold 110000
set_option linter.unusedSimpArgs false
/-- Of no more than so many digits. -/
def Sml (n : Nat) : Prop := n < 10 ^ 5000
theorem fit_lt {n m : Nat} (h : n < 10 ^ m) (hm : m ≤ 1000000) : Fit (limbs n) := fit_mono (fit_ten hm) (Nat.le_of_lt h)
theorem Sml.fit {n : Nat} (h : Sml n) : Fit (limbs n) := fit_lt h (by decide)
theorem Sml.digs {n : Nat} (h : Sml n) : (digs n).length ≤ 5000 := digs_len 5000 n (by decide) h
theorem Sml.mul {n m : Nat} (h : Sml n) (hm : m ≤ 100) : Fit (limbs (n * 10 ^ m)) := by
  refine fit_lt (m := 5000 + m) ?_ (by omega)
  rw [Nat.pow_add]
  exact Nat.mul_lt_mul_of_pos_right h (Nat.pow_pos (by decide))
theorem Sml.rnd {n : Nat} (h : Sml n) (B : Nat) : Fit (limbs (rnd n B)) := by
  have h1 := rnd_le n B
  have hdv : n / B ≤ n := Nat.div_le_self _ _
  have h2 : F.rnd n B ≤ n + 1 := by omega
  refine fit_lt (m := 5000 + 1) ?_ (by decide)
  rw [Nat.pow_succ]
  unfold Sml at h
  generalize 10 ^ 5000 = K at h ⊢
  omega
theorem sml_of {n k : Nat} (h : n < 10 ^ k) (hk : k ≤ 5000) : Sml n := Nat.lt_of_lt_of_le h (Nat.pow_le_pow_right (by decide) hk)
theorem nbits10 : nbits 10 = 4 := by
  rw [nbits_pos (by decide), show 10 / 2 = 5 from rfl, nbits_pos (by decide), show 5 / 2 = 2 from rfl, nbits_pos (by decide), show 2 / 2 = 1 from rfl, nbits_pos (by decide), show 1 / 2 = 0 from rfl, nbits_zero]
theorem nD_sml {s : ByteArray} (hs : s.size ≤ 4096) : Sml (nD s) ∧ (wL s ++ pL s).length ≤ s.size + s.size := by
  have h1 := dV_lt ((wL_all s).append (pL_all s))
  have h2 := wL_len' s
  have h3 : (pL s).length + (wL s).length ≤ 5000 := by
    have hw := wL_len s
    have ha := wE_le s
    cases hd : dotT s with
    | true =>
      have hp := pE_le hd
      have h4 : (pL s).length = pE s - (wE s + 1) := by unfold pL; rw [hd, if_pos rfl, sub_len s hp.2]
      omega
    | false =>
      have h4 : (pL s).length = 0 := by unfold pL; rw [hd]; rfl
      omega
  have h4 := pL_len s
  refine ⟨sml_of h1 (by rw [List.length_append]; omega), by rw [List.length_append]; omega⟩
end Go.AM.F

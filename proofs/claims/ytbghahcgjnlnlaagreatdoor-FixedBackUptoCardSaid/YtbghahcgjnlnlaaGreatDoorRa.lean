/- Naturals of the document, decimals read and written. No conditions. -/
import Derived.Test.YtbghahcgjnlnlaaGreatDoorL10
import Derived.Test.YtbghahcgjnlnlaaGreatDoorL17
import Derived.Test.YtbghahcgjnlnlaaGreatDoorL14
import Derived.Test.YtbghahcgjnlnlaaGreatDoorL19
import Derived.Test.YtbghahcgjnlnlaaGreatDoorL24
import Derived.Test.YtbghahcgjnlnlaaGreatDoorL25
import Derived.Test.YtbghahcgjnlnlaaGreatDoorAmTxt
import Derived.Test.YtbghahcgjnlnlaaGreatDoorL28
/- The document's naturals: what the layers above need of them. No conditions. -/
namespace Go.AM.F
open Go Go.AM
set_option maxRecDepth 10000
set_option linter.unusedSimpArgs false
end Go.AM.F

/- The document's naturals: shifts, differences, quotients bit by bit. No conditions. -/
namespace Go.AM.F
open Go Go.AM
set_option maxRecDepth 10000
set_option linter.unusedSimpArgs false
theorem shr1_u32 (x : Nat) : binInt .shr .u32 x 1 = some (.int .u32 (x / 2 : Nat)) := shr_32 x 1 (by decide)
theorem minus_step {A P Q k x y br d br' : Nat} (hv : A + 4294967296 ^ k * br = P + Q) (h : x + 4294967296 * br' = d + y + br) : A + 4294967296 ^ k * x + 4294967296 ^ (k + 1) * br' = (P + 4294967296 ^ k * d) + (Q + 4294967296 ^ k * y) := by
  have e1 : 4294967296 ^ k * x + 4294967296 ^ k * (4294967296 * br') = 4294967296 ^ k * d + 4294967296 ^ k * y + 4294967296 ^ k * br := by rw [← Nat.mul_add, ← Nat.mul_add, ← Nat.mul_add, h]
  rw [Nat.pow_succ, Nat.mul_assoc]
  omega
end Go.AM.F

/- The document's naturals: quotients bit by bit. No conditions. -/
namespace Go.AM.F
open Go Go.AM
set_option maxRecDepth 10000
set_option linter.unusedSimpArgs false
theorem fit_mono {m n : Nat} (h : Fit (limbs n)) (hle : m ≤ n) : Fit (limbs m) := ⟨limbs_lim m, Nat.le_trans (limbs_mono hle) h.2⟩
theorem fit_small {n : Nat} (k : Nat) (h : n < 4294967296 ^ k) (hk : k ≤ 1099511627776) : Fit (limbs n) := ⟨limbs_lim n, Nat.le_trans (limbs_len_le h) hk⟩
theorem wrap_mod64 (n : Nat) : IntKind.u64.wrap (n : Int) = ((n % 18446744073709551616 : Nat) : Int) := by
  simp only [IntKind.wrap, IntKind.signed, IntKind.bits]
  simp
theorem shl1_64 {k P : Nat} (hk : k ≤ 64) (hP : 2 ^ k % 18446744073709551616 = P) : binInt .shl .u64 1 k = some (.int .u64 (P : Nat)) := by
  have h1 : ¬ (k : Int) < 0 := by omega
  rw [binInt_shl, if_neg h1, Int.toNat_natCast, show IntKind.u64.bits = 64 from rfl, Nat.min_eq_left hk, show (1 : Int) * 2 ^ k = ((2 ^ k : Nat) : Int) by simp, wrap_mod64, hP]
def dvE (B R q : Nat) (k : Int) : Env := [(0, .ro 1 (ul (limbs R))), (1, .ro 1 (ul (limbs B))), (6, .v (.int .u64 q)), (8, .v (.int .i64 k)), (29, .dead)]
end Go.AM.F

/- Rounded quotients and signed answers; FixedScales. No conditions. -/
namespace Go.AM.F
open Go Go.AM
set_option maxRecDepth 10000
set_option linter.unusedSimpArgs false
attribute [local simp] j0_fixed_amount b_fixed_amount a_fixed_amount
attribute [local simp] j0_fixed_rounded b_fixed_rounded a_fixed_rounded
attribute [local simp] j0_fixed_signed b_fixed_signed a_fixed_signed
attribute [local simp] j0_fixed_Scale j1_fixed_Scale b_fixed_Scale a_fixed_Scale
theorem c_amount (v : Int) (h1 : -9223372036854775808 ≤ v) (h2 : v < 9223372036854775808) : Cinf T n_fixed_amount [.v (.int .i64 v)] = some (.v (.int .u64 (v.natAbs : Nat)), [.dead]) := by
  rw [run_fixed_amount]
  by_cases h : v < 0
  · have w1 : IntKind.u64.wrap v = v + 18446744073709551616 := by
      simp only [IntKind.wrap, IntKind.signed, IntKind.bits]
      simp
      omega
    have w2 : IntKind.u64.wrap (-(v + 18446744073709551616)) = (v.natAbs : Int) := by
      simp only [IntKind.wrap, IntKind.signed, IntKind.bits]
      simp
      omega
    simp [Run, h, w1, w2]
  · have w1 : IntKind.u64.wrap v = (v.natAbs : Int) := by rw [wrap_u64] <;> omega
    simp [Run, h, w1]
/-- The quotient rounded to the nearest, halves to the even one. -/
def rnd (A B : Nat) : Nat := A / B + (if B < 2 * (A % B) ∨ (B = 2 * (A % B) ∧ A / B % 2 = 1) then 1 else 0)
theorem c_rounded (A B : Nat) (hA : Fit (limbs A)) (hB : Fit (limbs B)) (hB0 : B ≠ 0) (hf : Fit (limbs (2 * (A % B)))) :
    Cinf T n_fixed_rounded [.ro 1 (ul (limbs A)), .ro 1 (ul (limbs B))] = some (.own 1 (ul (limbs (rnd A B))), [.dead, .dead]) := by
  have h1 := c_DivMod (limbs A) (limbs B) hA hB
  rw [val_limbs, val_limbs, divR_pos hB0] at h1
  have hq : Fit (limbs (A / B)) := fit_mono hA (Nat.div_le_self _ _)
  have hr : Fit (limbs (A % B)) := fit_mono hA (Nat.mod_le _ _)
  have h2 := c_Add (limbs (A % B)) (limbs (A % B)) hr hr
  rw [val_limbs, ← Nat.two_mul] at h2
  have h3 := c_Cmp (limbs (2 * (A % B))) (limbs B) hf hB
  rw [val_limbs, val_limbs] at h3
  have h4 := c_Bit (limbs (A / B)) hq 0 (by decide)
  have h5 : bitV (limbs (A / B)) 0 = decide (A / B % 2 = 1) := by unfold bitV; simp [val_limbs]
  rw [h5] at h4
  have h6 := c_From 1 (by decide)
  have h7 := c_Add (limbs (A / B)) (limbs 1) hq (fit_small 1 (by decide) (by decide))
  rw [val_limbs, val_limbs] at h7
  unfold rnd
  obtain ⟨q, hq⟩ : ∃ q, A / B = q := ⟨_, rfl⟩
  obtain ⟨r, hr⟩ : ∃ r, A % B = r := ⟨_, rfl⟩
  obtain ⟨d, hd⟩ : ∃ d, 2 * r = d := ⟨_, rfl⟩
  simp only [hq, hr, hd] at *
  simp only [Int.natCast_one] at h6
  rw [run_fixed_rounded]
  rcases Nat.lt_trichotomy d B with hl | hl | hl
  · rw [cmp_lt hl] at h3
    rw [if_neg (by omega)]
    simp [Run, h1, h2, h3]
  · rw [hl] at h3 h2
    have e : cmpN B B = 0 := by simp [cmpN]
    rw [e] at h3
    by_cases ho : q % 2 = 1
    · rw [if_pos (by omega)]
      simp [Run, h1, h2, h3, h4, h6, h7, ho]
    · rw [if_neg (by omega)]
      simp [Run, h1, h2, h3, h4, h6, h7, ho]
  · rw [cmp_gt hl] at h3
    rw [if_pos (by omega)]
    simp [Run, h1, h2, h3, h4, h6, h7]
/-- A sign and an amount as a number of 64 bits, or no answer. -/
def sgnR (neg : Bool) (m : Nat) : PV := if 9223372036854775808 < m ∨ (m = 9223372036854775808 ∧ neg = false) then .tup [.v (.int .i64 0), .v (.bool false)] else .tup [.v (.int .i64 (if neg then -(m : Int) else m)), .v (.bool true)]
theorem c_signed (neg : Bool) (m : Nat) (h : Fit (limbs m)) : Cinf T n_fixed_signed [.v (.bool neg), .ro 1 (ul (limbs m))] = some (sgnR neg m, [.dead, .dead]) := by
  have h1 := c_Small (limbs m) h
  rw [val_limbs] at h1
  rw [run_fixed_signed]
  unfold sgnR
  by_cases hs : (limbs m).length ≤ 2
  · rw [smallR, if_pos hs] at h1
    have hm : m < 18446744073709551616 := by rcases limbs_two hs with ⟨_, hv⟩ | ⟨x, _, hv, hx⟩ | ⟨x, y, _, hv, hx, hy⟩ <;> omega
    rcases Nat.lt_trichotomy m 9223372036854775808 with hl | hl | hl
    · have w1 : IntKind.i64.wrap (m : Int) = m := by rw [wrap_i64] <;> omega
      have w2 : IntKind.i64.wrap (-(m : Int)) = -m := by rw [wrap_i64] <;> omega
      have e1 : ¬ 9223372036854775808 < m := by omega
      have e2 : ¬ m = 9223372036854775808 := by omega
      have e3 : ¬ (m : Int) = 9223372036854775808 := by omega
      rw [if_neg (by omega)]
      cases neg <;> simp [Run, h1, w1, w2, e1, e2, e3]
    · subst hl
      cases neg
      · rw [if_pos (by decide)]
        simp [Run, h1]
      · rw [if_neg (by decide)]
        have w1 : IntKind.i64.wrap 9223372036854775808 = -9223372036854775808 := by decide
        simp [Run, h1, w1]
    · rw [if_pos (.inl hl)]
      simp [Run, h1, hl]
  · rw [smallR, if_neg hs] at h1
    have hm : ¬ m < 18446744073709551616 := fun hm => hs (limbs_len_le (k := 2) hm)
    rw [if_pos (by omega)]
    simp [Run, h1]
theorem rnd_ge (A B : Nat) : A / B ≤ rnd A B := Nat.le_add_right _ _
theorem rnd_le (A B : Nat) : rnd A B ≤ A / B + 1 := by unfold rnd; split <;> omega
theorem quot_big {A B : Nat} (hA0 : A ≠ 0) (hB : B ≤ 9223372036854775808) (hB0 : 0 < B) (h : nbits B + 64 ≤ nbits A) : 9223372036854775808 < A / B := by
  have h1 := nbits_low hA0
  have h2 := lt_nbits B
  have h3 : 2 ^ (nbits B + 63) ≤ A := Nat.le_trans (Nat.pow_le_pow_right (by decide) (by omega)) h1
  rw [Nat.pow_add] at h3
  obtain ⟨P, hP⟩ : ∃ P, 2 ^ nbits B = P := ⟨_, rfl⟩
  rw [hP] at h2 h3
  have h4 : (9223372036854775808 + 1) * B ≤ A := by
    have : (2 : Nat) ^ 63 = 9223372036854775808 := by decide
    omega
  have := (Nat.le_div_iff_mul_le hB0).2 h4
  omega
theorem quot_small {A B : Nat} (h : nbits A < nbits B + 64) (hB0 : 0 < B) : A / B < 18446744073709551616 := by
  have h1 := lt_nbits A
  have h2 := nbits_low (v := B) (by omega)
  have hBn : 0 < nbits B := by rw [nbits_pos (by omega)]; omega
  have h3 : A < 2 ^ ((nbits B - 1) + 64) := Nat.lt_of_lt_of_le h1 (Nat.pow_le_pow_right (by decide) (by omega))
  rw [Nat.pow_add] at h3
  have h4 : A < B * 2 ^ 64 := Nat.lt_of_lt_of_le h3 (Nat.mul_le_mul_right _ h2)
  exact Nat.div_lt_of_lt_mul h4
end Go.AM.F

/- Scale, the program's and the document's; FixedScales. No conditions. -/
namespace Go.AM.F
open Go Go.AM
set_option maxRecDepth 10000
set_option linter.unusedSimpArgs false
attribute [local simp] j0_fixed_Scale j1_fixed_Scale b_fixed_Scale a_fixed_Scale
/-- The sign of a product over a number. -/
def ngR (x y z : Int) : Bool := !decide ((decide (x < 0) == decide (y < 0)) = !decide (z < 0))
def scR (x y z : Int) : PV :=
  if z = 0 then .tup [.v (.int .i64 0), .v (.int .i64 2)]
  else if 9223372036854775808 < rnd (x.natAbs * y.natAbs) z.natAbs ∨ (rnd (x.natAbs * y.natAbs) z.natAbs = 9223372036854775808 ∧ ngR x y z = false) then .tup [.v (.int .i64 0), .v (.int .i64 41)]
  else .tup [.v (.int .i64 (if ngR x y z then -(rnd (x.natAbs * y.natAbs) z.natAbs : Int) else rnd (x.natAbs * y.natAbs) z.natAbs)), .v (.int .i64 0)]
theorem c_Scale (x y z : Int) (x1 : -9223372036854775808 ≤ x) (x2 : x < 9223372036854775808) (y1 : -9223372036854775808 ≤ y) (y2 : y < 9223372036854775808) (z1 : -9223372036854775808 ≤ z) (z2 : z < 9223372036854775808) :
    Cinf T n_fixed_Scale [.v (.int .i64 x), .v (.int .i64 y), .v (.int .i64 z)] = some (scR x y z, [.dead, .dead, .dead]) := by
  rw [run_fixed_Scale]
  unfold scR
  obtain ⟨N, hN⟩ : ∃ N, ngR x y z = N := ⟨_, rfl⟩
  rw [hN]
  unfold ngR at hN
  by_cases hz : z = 0
  · subst hz
    simp [Run]
  · have a1 := c_amount x x1 x2
    have a2 := c_amount y y1 y2
    have a3 := c_amount z z1 z2
    have hX : x.natAbs ≤ 9223372036854775808 := by omega
    have hY : y.natAbs ≤ 9223372036854775808 := by omega
    have hZ : z.natAbs ≤ 9223372036854775808 := by omega
    have hZ0 : z.natAbs ≠ 0 := by omega
    obtain ⟨X, eX⟩ : ∃ X, x.natAbs = X := ⟨_, rfl⟩
    obtain ⟨Y, eY⟩ : ∃ Y, y.natAbs = Y := ⟨_, rfl⟩
    obtain ⟨Z, eZ⟩ : ∃ Z, z.natAbs = Z := ⟨_, rfl⟩
    rw [eX] at a1 hX
    rw [eY] at a2 hY
    rw [eZ] at a3 hZ hZ0
    rw [eX, eY, eZ]
    have b1 := c_From X (by omega)
    have b2 := c_From Y (by omega)
    have b3 := c_From Z (by omega)
    have fX : Fit (limbs X) := fit_small 3 (Nat.lt_of_le_of_lt hX (by decide)) (by decide)
    have fY : Fit (limbs Y) := fit_small 3 (Nat.lt_of_le_of_lt hY (by decide)) (by decide)
    have fZ : Fit (limbs Z) := fit_small 3 (Nat.lt_of_le_of_lt hZ (by decide)) (by decide)
    have hXY : X * Y ≤ 9223372036854775808 * 9223372036854775808 := Nat.mul_le_mul hX hY
    have m1 := c_Mul (limbs X) (limbs Y) fX fY
    rw [val_limbs, val_limbs] at m1
    obtain ⟨A, hA⟩ : ∃ A, X * Y = A := ⟨_, rfl⟩
    rw [hA] at m1 hXY ⊢
    have fA : Fit (limbs A) := fit_small 5 (Nat.lt_of_le_of_lt hXY (by decide)) (by decide)
    have hm : A % Z < Z := Nat.mod_lt _ (by omega)
    have r1 := c_rounded A Z fA fZ hZ0 (fit_small 3 (Nat.lt_of_le_of_lt (show 2 * (A % Z) ≤ 18446744073709551616 by omega) (by decide)) (by decide))
    have hr := rnd_le A Z
    have hd : A / Z ≤ A := Nat.div_le_self _ _
    obtain ⟨m, hm2⟩ : ∃ m, rnd A Z = m := ⟨_, rfl⟩
    rw [hm2] at r1 hr ⊢
    have s1 := c_signed N m (fit_small 5 (Nat.lt_of_le_of_lt (show m ≤ 9223372036854775808 * 9223372036854775808 + 1 by omega) (by decide)) (by decide))
    rw [if_neg hz]
    unfold sgnR at s1
    by_cases hc : 9223372036854775808 < m ∨ (m = 9223372036854775808 ∧ N = false)
    · rw [if_pos hc] at s1
      rw [if_pos hc]
      simp [Run, hz, a1, a2, a3, b1, b2, b3, m1, r1, s1, hN]
    · rw [if_neg hc] at s1
      rw [if_neg hc]
      simp [Run, hz, a1, a2, a3, b1, b2, b3, m1, r1, s1, hN]
end Go.AM.F

/- The binary64 nearest to a quotient: its exponent and its mantissa, in plain numbers. No conditions. -/
namespace Go.AM.F
open Go Go.AM
set_option linter.unusedSimpArgs false

/-! ### Quotients rounded -/
theorem rnd_near (A B : Nat) (hB : 0 < B) : 2 * (rnd A B * B) ≤ 2 * A + B ∧ 2 * A ≤ 2 * (rnd A B * B) + B := by
  have h1 := Nat.div_add_mod A B
  have h2 := Nat.mod_lt A hB
  unfold rnd
  generalize A / B = q at *
  generalize A % B = r at *
  have h3 : B * q = q * B := Nat.mul_comm _ _
  split
  · rename_i h
    rw [Nat.add_mul]
    omega
  · rename_i h
    rw [Nat.add_zero]
    omega
theorem rnd_even (A B : Nat) (hB : 0 < B) (h : 2 * (rnd A B * B) = 2 * A + B ∨ 2 * A = 2 * (rnd A B * B) + B) : rnd A B % 2 = 0 := by
  have h1 := Nat.div_add_mod A B
  have h2 := Nat.mod_lt A hB
  unfold rnd at h ⊢
  generalize A / B = q at *
  generalize A % B = r at *
  have h3 : B * q = q * B := Nat.mul_comm _ _
  split at h
  · rename_i hc
    rw [if_pos hc]
    rw [Nat.add_mul] at h
    omega
  · rename_i hc
    rw [if_neg hc]
    rw [Nat.add_zero] at h ⊢
    omega
theorem rnd_unique {A B n : Nat} (hB : 0 < B) (h1 : 2 * (n * B) < 2 * A + B) (h2 : 2 * A < 2 * (n * B) + B) : rnd A B = n := by
  obtain ⟨g1, g2⟩ := rnd_near A B hB
  rcases Nat.lt_trichotomy (rnd A B) n with h | h | h
  · exfalso
    have h3 : rnd A B + 1 ≤ n := h
    have h4 := Nat.mul_le_mul_right B h3
    rw [Nat.add_mul] at h4
    omega
  · exact h
  · exfalso
    have h3 : n + 1 ≤ rnd A B := h
    have h4 := Nat.mul_le_mul_right B h3
    rw [Nat.add_mul] at h4
    omega
theorem rnd_mono {A A' B : Nat} (hB : 0 < B) (h : A ≤ A') : rnd A B ≤ rnd A' B := by
  have h1 := Nat.div_add_mod A B
  have h2 := Nat.mod_lt A hB
  have h3 := Nat.div_add_mod A' B
  have h4 := Nat.mod_lt A' hB
  have hq : A / B ≤ A' / B := Nat.div_le_div_right h
  rcases Nat.eq_or_lt_of_le hq with e | l
  · unfold rnd
    rw [e] at h1 ⊢
    generalize A' / B = q at *
    generalize A % B = r at *
    generalize A' % B = r' at *
    have h5 : r ≤ r' := by omega
    split
    · rename_i hc
      rw [if_pos (by omega)]
      exact Nat.le_refl _
    · omega
  · have := rnd_ge A' B
    have := rnd_le A B
    omega
theorem rnd_scale (A B g : Nat) (hg : 0 < g) : rnd (g * A) (g * B) = rnd A B := by
  unfold rnd
  rw [Nat.mul_div_mul_left _ _ hg, Nat.mul_mod_mul_left]
  have e1 : g * B < 2 * (g * (A % B)) ↔ B < 2 * (A % B) := by
    rw [Nat.mul_left_comm 2 g]
    exact Nat.mul_lt_mul_left hg
  have e2 : g * B = 2 * (g * (A % B)) ↔ B = 2 * (A % B) := by
    rw [Nat.mul_left_comm 2 g]
    exact Nat.mul_right_inj (by omega)
  simp only [e1, e2]
theorem rnd_one (A : Nat) : rnd A 1 = A := by
  unfold rnd
  simp [Nat.mod_one]
/-! ### Bits of numbers -/
theorem nbits_lt : ∀ {k n : Nat}, nbits n ≤ k → n < 2 ^ k
  | 0, n, h => by
    by_cases h0 : n = 0
    · rw [h0]; decide
    · rw [nbits_pos h0] at h
      omega
  | k + 1, n, h => by
    by_cases h0 : n = 0
    · rw [h0]; exact Nat.two_pow_pos _
    · rw [nbits_pos h0] at h
      have := nbits_lt (k := k) (n := n / 2) (by omega)
      rw [Nat.pow_succ]
      omega
theorem nbits_low' {n : Nat} (h : n ≠ 0) : 2 ^ (nbits n - 1) ≤ n := by
  rcases Nat.lt_or_ge n (2 ^ (nbits n - 1)) with hl | hl
  · have h1 := nbits_le hl
    rw [nbits_pos h] at h1
    rw [nbits_pos h] at hl
    exfalso
    omega
  · exact hl
theorem nbits_iff {n k : Nat} : nbits n ≤ k ↔ n < 2 ^ k := ⟨nbits_lt, nbits_le⟩

/-! ### The exponent -/
def qA (n : Nat) (e : Int) : Nat := n * 2 ^ (-e).toNat
def qB (d : Nat) (e : Int) : Nat := d * 2 ^ e.toNat
def qQ (n d : Nat) (e : Int) : Nat := qA n e / qB d e
theorem qB_pos {d : Nat} (hd : 0 < d) (e : Int) : 0 < qB d e := Nat.mul_pos hd (Nat.two_pow_pos _)
/-- One step up halves the quotient. -/
theorem qAB_succ (n d : Nat) (e : Int) : (qA n e = 2 * qA n (e + 1) ∧ qB d (e + 1) = qB d e) ∨ (qA n (e + 1) = qA n e ∧ qB d (e + 1) = 2 * qB d e) := by
  unfold qA qB
  by_cases h : e < 0
  · left
    have h1 : (-e).toNat = (-(e + 1)).toNat + 1 := by omega
    have h2 : (e + 1).toNat = e.toNat := by omega
    rw [h1, h2, Nat.pow_succ]
    exact ⟨by rw [Nat.mul_comm (2 ^ _) 2, Nat.mul_left_comm], rfl⟩
  · right
    have h1 : (-(e + 1)).toNat = (-e).toNat := by omega
    have h2 : (e + 1).toNat = e.toNat + 1 := by omega
    rw [h1, h2, Nat.pow_succ]
    exact ⟨rfl, by rw [Nat.mul_comm (2 ^ _) 2, Nat.mul_left_comm]⟩
theorem qQ_succ {n d : Nat} (hd : 0 < d) (e : Int) : qQ n d (e + 1) = qQ n d e / 2 := by
  unfold qQ
  have hp := qB_pos hd e
  rcases qAB_succ n d e with ⟨h1, h2⟩ | ⟨h1, h2⟩
  · rw [h1, h2, Nat.div_div_eq_div_mul, Nat.mul_comm _ 2, Nat.mul_div_mul_left _ _ (by decide)]
  · rw [h1, h2, Nat.div_div_eq_div_mul, Nat.mul_comm 2]
theorem qQ_anti {n d : Nat} (hd : 0 < d) (e : Int) : ∀ k : Nat, qQ n d (e + k) ≤ qQ n d e
  | 0 => by simp
  | k + 1 => by
    have h := qQ_anti (n := n) hd e k
    have e1 : e + ((k + 1 : Nat) : Int) = e + k + 1 := by omega
    rw [e1, qQ_succ hd]
    omega
theorem qQ_le {n d : Nat} (hd : 0 < d) {e f : Int} (h : e ≤ f) : qQ n d f ≤ qQ n d e := by
  have := qQ_anti (n := n) hd e (f - e).toNat
  rwa [show e + ((f - e).toNat : Int) = f by omega] at this
theorem qQ_mono {n n' d : Nat} (h : n ≤ n') (e : Int) : qQ n d e ≤ qQ n' d e := Nat.div_le_div_right (Nat.mul_le_mul_right _ h)
theorem qQ_scale {n d g : Nat} (hg : 0 < g) (e : Int) : qQ (g * n) (g * d) e = qQ n d e := by
  unfold qQ qA qB
  rw [Nat.mul_assoc, Nat.mul_assoc, Nat.mul_div_mul_left _ _ hg]
/-- Far down the quotient is great. -/
theorem qQ_ge {n d : Nat} (hn : n ≠ 0) (hd : 0 < d) {e : Int} {k : Nat} (h : e + k + 1 ≤ (nbits n : Int) - nbits d) : 2 ^ k ≤ qQ n d e := by
  unfold qQ
  rw [Nat.le_div_iff_mul_le (qB_pos hd e)]
  have h1 := nbits_low' hn
  have h2 : d ≤ 2 ^ nbits d := Nat.le_of_lt (nbits_lt (Nat.le_refl _))
  have h3 : 1 ≤ nbits n := by rw [nbits_pos hn]; omega
  unfold qA qB
  calc 2 ^ k * (d * 2 ^ e.toNat) ≤ 2 ^ k * (2 ^ nbits d * 2 ^ e.toNat) := Nat.mul_le_mul_left _ (Nat.mul_le_mul_right _ h2)
    _ = 2 ^ (k + nbits d + e.toNat) := by rw [← Nat.pow_add, ← Nat.pow_add, Nat.add_assoc]
    _ ≤ 2 ^ (nbits n - 1 + (-e).toNat) := Nat.pow_le_pow_right (by decide) (by omega)
    _ = 2 ^ (nbits n - 1) * 2 ^ (-e).toNat := Nat.pow_add _ _ _
    _ ≤ n * 2 ^ (-e).toNat := Nat.mul_le_mul_right _ h1
/-- Far up it is small. -/
theorem qQ_lt {n d : Nat} (hd : 0 < d) {e : Int} {k : Nat} (h : (nbits n : Int) - nbits d + 1 ≤ e + k) : qQ n d e < 2 ^ k := by
  unfold qQ
  rw [Nat.div_lt_iff_lt_mul (qB_pos hd e)]
  have hd0 : d ≠ 0 := by omega
  have h1 := nbits_low' hd0
  have h2 : n < 2 ^ nbits n := nbits_lt (Nat.le_refl _)
  have h3 : 1 ≤ nbits d := by rw [nbits_pos hd0]; omega
  unfold qA qB
  calc n * 2 ^ (-e).toNat < 2 ^ nbits n * 2 ^ (-e).toNat := Nat.mul_lt_mul_of_pos_right h2 (Nat.two_pow_pos _)
    _ = 2 ^ (nbits n + (-e).toNat) := (Nat.pow_add _ _ _).symm
    _ ≤ 2 ^ (k + (nbits d - 1) + e.toNat) := Nat.pow_le_pow_right (by decide) (by omega)
    _ = 2 ^ k * (2 ^ (nbits d - 1) * 2 ^ e.toNat) := by rw [← Nat.pow_add, ← Nat.pow_add, Nat.add_assoc]
    _ ≤ 2 ^ k * (d * 2 ^ e.toNat) := Nat.mul_le_mul_left _ (Nat.mul_le_mul_right _ h1)
/-- The least exponent, from -1074 on, at which the quotient has 53 bits at most. -/
structure IsE (n d : Nat) (e : Int) : Prop where
  lo : -1074 ≤ e
  fits : qQ n d e < 9007199254740992
  least : e = -1074 ∨ 9007199254740992 ≤ qQ n d (e - 1)
theorem IsE.unique {n d : Nat} (hd : 0 < d) {e f : Int} (h : IsE n d e) (k : IsE n d f) : e = f := by
  have key : ∀ {e f : Int}, IsE n d e → IsE n d f → ¬ e < f := by
    intro e f h k hlt
    rcases k.least with h1 | h1
    · have := h.lo; omega
    · have := qQ_le (n := n) hd (show e ≤ f - 1 by omega)
      have := h.fits
      omega
  rcases Int.lt_trichotomy e f with hl | hl | hl
  · exact absurd hl (key h k)
  · exact hl
  · exact absurd hl (key k h)
theorem IsE.mono {n n' d : Nat} (hd : 0 < d) (hn : n ≤ n') {e f : Int} (h : IsE n d e) (k : IsE n' d f) : e ≤ f := by
  rcases Int.lt_or_le f e with hl | hl
  · rcases h.least with h1 | h1
    · have := k.lo; omega
    · have h2 := qQ_le (n := n') hd (show f ≤ e - 1 by omega)
      have h3 := qQ_mono (d := d) hn (e - 1)
      have := k.fits
      omega
  · exact hl
theorem IsE.scale {n d g : Nat} (hg : 0 < g) {e : Int} (h : IsE n d e) : IsE (g * n) (g * d) e :=
  ⟨h.lo, by rw [qQ_scale hg]; exact h.fits, by rw [qQ_scale hg]; exact h.least⟩
theorem IsE.unscale {n d g : Nat} (hg : 0 < g) {e : Int} (h : IsE (g * n) (g * d) e) : IsE n d e :=
  ⟨h.lo, by rw [← qQ_scale hg]; exact h.fits, by rw [← qQ_scale hg]; exact h.least⟩
/-- A walk up from below. -/
def upE (n d : Nat) : Nat → Int → Int
  | 0, e => e
  | k + 1, e => if 9007199254740992 ≤ qQ n d e then upE n d k (e + 1) else e
theorem upE_is {n d : Nat} (hd : 0 < d) : ∀ (k : Nat) (e : Int), -1074 ≤ e → (e = -1074 ∨ 9007199254740992 ≤ qQ n d (e - 1)) → qQ n d e < 9007199254740992 * 2 ^ k → IsE n d (upE n d k e)
  | 0, e, h1, h2, h3 => ⟨h1, by simpa [upE] using h3, h2⟩
  | k + 1, e, h1, h2, h3 => by
    rw [upE]
    split
    · rename_i h
      refine upE_is hd k (e + 1) (by omega) (.inr (by rw [show e + 1 - 1 = e by omega]; exact h)) ?_
      rw [qQ_succ hd]
      rw [Nat.pow_succ] at h3
      omega
    · rename_i h
      exact ⟨h1, by omega, h2⟩
/-- The walk's first exponent: there are two steps at most. -/
def loE (n d : Nat) : Int := max ((nbits n : Int) - nbits d - 53) (-1074)
theorem loE_is {n d : Nat} (hn : n ≠ 0) (hd : 0 < d) : IsE n d (upE n d 1 (loE n d)) := by
  refine upE_is hd 1 _ (by unfold loE; omega) ?_ ?_
  · unfold loE
    by_cases h : (nbits n : Int) - nbits d - 53 ≤ -1074
    · left; omega
    · right
      exact qQ_ge (k := 53) hn hd (by omega)
  · have := qQ_lt (n := n) (d := d) (e := loE n d) (k := 54) hd (by unfold loE; omega)
    exact this
noncomputable def theE (n d : Nat) : Int := upE n d 1 (loE n d)
theorem theE_is {n d : Nat} (hn : n ≠ 0) (hd : 0 < d) : IsE n d (theE n d) := loE_is hn hd
/-- Above -1074 the quotient has 53 bits. -/
theorem theE_full {n d : Nat} (hd : 0 < d) {e : Int} (h : IsE n d e) (hlo : -1074 < e) : 4503599627370496 ≤ qQ n d e := by
  rcases h.least with h1 | h1
  · omega
  · have := qQ_succ (n := n) hd (e - 1)
    rw [show e - 1 + 1 = e by omega] at this
    omega
theorem theE_range {n d : Nat} (hd : 0 < d) {e : Int} (h : IsE n d e) : e ≤ max ((nbits n : Int) - nbits d - 52) (-1074) := by
  rcases Int.lt_or_le (max ((nbits n : Int) - nbits d - 52) (-1074)) e with hl | hl
  · rcases h.least with h1 | h1
    · omega
    · have := qQ_lt (n := n) (d := d) (e := e - 1) (k := 53) hd (by omega)
      have e53 : (2 : Nat) ^ 53 = 9007199254740992 := by decide
      omega
  · exact hl
/-- The mantissa, which may be 2^53. -/
def theM (n d : Nat) (e : Int) : Nat := rnd (qA n e) (qB d e)
theorem theM_le {n d : Nat} {e : Int} (h : IsE n d e) : theM n d e ≤ 9007199254740992 := by
  have h1 := rnd_le (qA n e) (qB d e)
  have h2 := h.fits
  unfold qQ at h2
  unfold theM
  omega
theorem theM_ge {n d : Nat} {e : Int} : qQ n d e ≤ theM n d e := rnd_ge _ _
/-- How many steps above nought: in units of the last bit. -/
def rung (n d : Nat) (e : Int) : Nat := (e + 1074).toNat * 4503599627370496 + theM n d e
theorem rung_mono {n n' d : Nat} (hd : 0 < d) (hn : n ≤ n') {e f : Int} (h : IsE n d e) (k : IsE n' d f) : rung n d e ≤ rung n' d f := by
  have hef := h.mono hd hn k
  have := h.lo
  unfold rung
  rcases Int.lt_or_eq_of_le hef with hl | rfl
  · have h1 := theM_le h
    have h2 := theE_full hd k (by omega)
    have h3 := theM_ge (n := n') (d := d) (e := f)
    have h4 : (f + 1074).toNat = (e + 1074).toNat + ((f - e - 1).toNat + 1) := by omega
    rw [h4, Nat.add_mul, Nat.add_mul]
    have : 0 ≤ (f - e - 1).toNat * 4503599627370496 := Nat.zero_le _
    omega
  · have h1 : theM n d e ≤ theM n' d e := rnd_mono (qB_pos hd e) (Nat.mul_le_mul_right _ hn)
    omega
theorem theM_scale {n d g : Nat} (hg : 0 < g) (e : Int) : theM (g * n) (g * d) e = theM n d e := by
  unfold theM qA qB
  rw [Nat.mul_assoc, Nat.mul_assoc, rnd_scale _ _ _ hg]
end Go.AM.F

/- Digits read, by the program and by the document. No conditions. -/
namespace Go.AM.F
open Go Go.AM
set_option maxRecDepth 10000
set_option linter.unusedSimpArgs false
attribute [local simp] j0_limbs_grow j1_limbs_grow w0_limbs_grow j2_limbs_grow j3_limbs_grow b_limbs_grow a_limbs_grow
attribute [local simp] j0_limbs_Read j1_limbs_Read w0_limbs_Read j2_limbs_Read j3_limbs_Read w2_limbs_Read j4_limbs_Read j5_limbs_Read w1_limbs_Read j6_limbs_Read j7_limbs_Read j8_limbs_Read b_limbs_Read a_limbs_Read
/-- Each limb times a number, in place: the limbs that are left are the old ones. -/
theorem grow_loop (l : List Nat) (h : Fit l) (k d : Nat) (hk : k < 4294967296) : ∀ (n i c : Nat) (o : List Nat), l.length - i = n → i ≤ l.length → c < 4294967296 → Lim o → o.length = l.length → o.drop i = l.drop i → val (o.take i) + 4294967296 ^ i * c = val (l.take i) * k + d →
    ∃ (o' : List Nat) (c' : Nat), Exec T l0_limbs_grow [(0, .ref 100000 []), (1, .v (.int .u32 k)), (7, .v (.int .u64 c)), (12, .v (.int .i64 l.length)), (13, .v (.int .i64 i)), (40, .dead), (100000, .own 1 (ul o))] = some (.exit 0, [(0, .ref 100000 []), (1, .v (.int .u32 k)), (7, .v (.int .u64 c')), (12, .v (.int .i64 l.length)), (13, .v (.int .i64 l.length)), (40, .dead), (100000, .own 1 (ul o'))]) ∧ c' < 4294967296 ∧ Lim o' ∧ o'.length = l.length ∧ val o' + 4294967296 ^ l.length * c' = val l * k + d := by
  intro n
  induction n with
  | zero =>
    intro i c o hn hi hc hl ho hd hv
    obtain rfl : i = l.length := by omega
    refine ⟨o, c, ?_, hc, hl, ho, ?_⟩
    · rw [ex0_limbs_grow]
      simp
    · rwa [List.take_of_length_le (Nat.le_refl _), List.take_of_length_le (Nat.le_of_eq ho)] at hv
  | succ n ih =>
    intro i c o hn hi hc hl ho hd hv
    have hal := h.2
    have hlt : i < l.length := by omega
    have hlo : i < o.length := by omega
    have hw := wrap_succ hlt (by omega)
    obtain ⟨x, hx⟩ : ∃ x, o[i] = x := ⟨_, rfl⟩
    have hxl := hl.get hlo
    rw [hx] at hxl
    have hxa : l[i] = x := by
      have := congrArg List.head? hd
      rw [List.drop_eq_getElem_cons hlo, List.drop_eq_getElem_cons hlt] at this
      simp only [List.head?_cons, Option.some.injEq] at this
      rw [← this, hx]
    have hp : x * k ≤ 4294967295 * 4294967295 := Nat.mul_le_mul (by omega) (by omega)
    obtain ⟨p, hpp⟩ : ∃ p, x * k = p := ⟨_, rfl⟩
    have hpi : (x : Int) * (k : Int) = (p : Int) := by rw [← hpp]; exact (Int.natCast_mul x k).symm
    rw [hpp] at hp
    obtain ⟨s, hs⟩ : ∃ s, c + p = s := ⟨_, rfl⟩
    have w0 := u64_nat (k := x) (by omega)
    have w1 := u64_nat (k := k) (by omega)
    have w2 := u64_nat (k := p) (by omega)
    have w3 : IntKind.u64.wrap ((c : Int) + p) = (s : Int) := by rw [wrap_u64] <;> omega
    have h1 := c_low s (by omega)
    have h2 := c_high s
    have hv2 : val ((o.set i (s % 4294967296)).take (i + 1)) + 4294967296 ^ (i + 1) * (s / 4294967296) = val (l.take (i + 1)) * k + d := by
      have h3 : (o.take i).length = i := by simp; omega
      rw [take_set_succ hlo, val_snoc, h3, val_take_succ' hlt hxa, Nat.add_mul, Nat.mul_assoc _ x k, hpp]
      have e1 := carry_step (s := p) hv.symm
      rw [hs] at e1
      omega
    obtain ⟨lo, hlo2⟩ : ∃ lo, s % 4294967296 = lo := ⟨_, rfl⟩
    obtain ⟨hi2, hhi⟩ : ∃ hi, s / 4294967296 = hi := ⟨_, rfl⟩
    rw [hlo2] at h1 hv2
    rw [hhi] at h2 hv2
    obtain ⟨o', c', h0, h3⟩ := ih (i + 1) hi2 (o.set i lo) (by omega) (by omega) (by omega) (hl.set (by omega)) (by simp [ho]) (by rw [drop_set_succ, ← List.drop_drop, hd, List.drop_drop]) hv2
    refine ⟨o', c', ?_, h3⟩
    rw [succ_cast] at h0
    rw [← h0, ex0_limbs_grow]
    simp [hlt, hlo, hx, hw, w0, w1, w2, w3, hpi, h1, h2, ul_set]
theorem c_grow (l : List Nat) (h : Fit l) (k d : Nat) (hk : k < 4294967296) (hd : d < 4294967296) : ∃ l', Cinf T n_limbs_grow [.own 1 (ul l), .v (.int .u32 k), .v (.int .u32 d)] = some (.own 1 (ul l'), [.dead, .dead, .dead]) ∧ Lim l' ∧ l'.length ≤ l.length + 1 ∧ val l' = val l * k + d := by
  obtain ⟨o, c, h0, h1, h2, h3, h4⟩ := grow_loop l h k d hk l.length 0 d l rfl (Nat.zero_le _) hd h.1 rfl rfl (by simp [val])
  simp only [Int.natCast_zero] at h0
  have hal := h.2
  have w0 := u64_nat (k := d) (by omega)
  have w1 := u32_nat (k := c) h1
  have e1 : l.length ≤ 35184372088831 := by omega
  have e2 : l.length ≤ 4611686018427387903 := by omega
  have e3 : (l.length + 1) * 4 ≤ 140737488355328 := by omega
  by_cases hc : c = 0
  · subst hc
    refine ⟨o, ?_, h2, by omega, by omega⟩
    rw [run_limbs_grow]
    simp at h0
    simp [Run, home, w0, h0]
  · refine ⟨o ++ [c], ?_, h2.append (Lim.one h1), by simp; omega, by rw [val_snoc, h3, h4]⟩
    have hc2 : 0 < c := by omega
    rw [run_limbs_grow, ul_snoc]
    simp [Run, home, w0, h0, hc2, w1, h3, e1, e2, e3]
/-- The number that n digits from k on say. -/
def decN (s : ByteArray) (k : Nat) : Nat → Nat
  | 0 => 0
  | n + 1 => 10 * decN s k n + (ch s (k + n) - 48)
def badDig (s : ByteArray) (k : Nat) : Bool := decide (ch s k < 48) || decide (57 < ch s k)
def fault (s : ByteArray) : Nat := stop (badDig s) s.size 0
theorem decN_add (s : ByteArray) (k : Nat) (m : Nat) : ∀ n, decN s k (m + n) = 10 ^ n * decN s k m + decN s (k + m) n
  | 0 => by simp [decN]
  | n + 1 => by
    rw [← Nat.add_assoc, decN, decN_add s k m n, decN, Nat.pow_succ, ← Nat.add_assoc k m n, Nat.mul_add, Nat.mul_comm (10 ^ n) 10, Nat.mul_assoc]
    omega
/-- What Read answers. -/
def readR (s : ByteArray) : PV := if fault s < s.size then .tup [.own 1 [], .v (.int .i64 10), .v (.int .i64 (fault s : Nat))] else if s.size = 0 then .tup [.own 1 [], .v (.int .i64 10), .v (.int .i64 0)] else .tup [.own 1 (ul (limbs (decN s 0 s.size))), .v (.int .i64 0), .v (.int .i64 0)]
theorem bad_loop (s : ByteArray) (hs : s.size ≤ 4611686018427387903) : ∀ (n k : Nat), s.size - k = n → k ≤ s.size →
    Exec T l0_limbs_Read [(0, .v (.string s)), (12, .v (.int .i64 s.size)), (13, .v (.int .i64 k))] = if stop (badDig s) n k < s.size then some (.ret, [(2, .own 1 []), (3, .v (.int .i64 10)), (4, .v (.int .i64 (stop (badDig s) n k : Nat))), (59, .dead)]) else some (.exit 0, [(0, .v (.string s)), (12, .v (.int .i64 s.size)), (13, .v (.int .i64 s.size))]) := by
  intro n
  induction n with
  | zero =>
    intro k hn hk
    obtain rfl : k = s.size := by omega
    rw [ex0_limbs_Read]
    simp [stop]
  | succ n ih =>
    intro k hn hk
    have hlt : k < s.size := by omega
    have h0 := ih (k + 1) (by omega) (by omega)
    rw [succ_cast] at h0
    have hw := wrap_succ hlt (by omega)
    rw [ex0_limbs_Read]
    by_cases h1 : ch s k < 48
    · simp [hlt, stop, badDig, h1, ch_eq]
    · by_cases h2 : 57 < ch s k
      · simp [hlt, stop, badDig, h1, h2, ch_eq]
      · simp [hlt, stop, badDig, h1, h2, ch_eq, hw]
        exact h0
theorem decN_lt (s : ByteArray) (k : Nat) : ∀ n, (∀ r, r < n → ch s (k + r) ≤ 57) → decN s k n < 10 ^ n
  | 0, _ => by simp [decN]
  | n + 1, h => by
    have h1 := decN_lt s k n fun r hr => h r (by omega)
    have h2 := h n (by omega)
    rw [decN, Nat.pow_succ]
    omega
theorem good_dig {s : ByteArray} {k : Nat} (h : badDig s k = false) : 48 ≤ ch s k ∧ ch s k ≤ 57 := by
  unfold badDig at h
  simp at h
  omega
theorem pow9 {i : Nat} (h : i ≤ 9) : 10 ^ i ≤ 1000000000 := Nat.le_trans (Nat.pow_le_pow_right (by decide) h) (by decide)
/-- A chunk of digits. -/
theorem chunk_loop (s : ByteArray) (j n : Nat) (hn : n ≤ 9) (hjn : j + n ≤ s.size) (hd : ∀ k, k < s.size → badDig s k = false) (a : List Nat) : ∀ (m i p d : Nat), n - i = m → i ≤ n → 10 ^ i = p → decN s j i = d →
    Exec T l2_limbs_Read [(0, .v (.string (s.extract j s.size))), (6, .own 1 (ul a)), (7, .v (.int .i64 n)), (8, .v (.int .u32 p)), (9, .v (.int .u32 d)), (36, .v (.int .i64 n)), (37, .v (.int .i64 i)), (54, .dead)] =
      some (.exit 4, [(0, .v (.string (s.extract j s.size))), (6, .own 1 (ul a)), (7, .v (.int .i64 n)), (8, .v (.int .u32 (10 ^ n : Nat))), (9, .v (.int .u32 (decN s j n : Nat))), (36, .v (.int .i64 n)), (37, .v (.int .i64 n)), (54, .dead)]) := by
  intro m
  induction m with
  | zero =>
    intro i p d hm hi hp hdd
    obtain rfl : i = n := by omega
    rw [ex2_limbs_Read, ← hp, ← hdd]
    simp
  | succ m ih =>
    intro i p d hm hi hp hdd
    have hlt : i < n := by omega
    have hw := wrap_succ hlt (by omega)
    have hdg := good_dig (hd (j + i) (by omega))
    have hdl := decN_lt s j i fun r hr => (good_dig (hd (j + r) (by omega))).2
    rw [hdd, hp] at hdl
    have hp2 : 10 ^ (i + 1) = p * 10 := by rw [Nat.pow_succ, hp]
    have hd2 : decN s j (i + 1) = 10 * d + (ch s (j + i) - 48) := by rw [decN, hdd]
    have hp3 := pow9 (i := i + 1) (by omega)
    rw [hp2] at hp3
    have hce := ch_extract s j s.size i (by omega) (Nat.le_refl _)
    have hsz := extract_size s j s.size (by omega) (Nat.le_refl _)
    obtain ⟨t, ht⟩ : ∃ t, s.extract j s.size = t := ⟨_, rfl⟩
    rw [ht] at hce hsz ih ⊢
    obtain ⟨c, hc⟩ : ∃ c, ch s (j + i) = c := ⟨_, rfl⟩
    rw [hc] at hdg hce hd2
    obtain ⟨e, he⟩ : ∃ e, c - 48 = e := ⟨_, rfl⟩
    rw [he] at hd2
    obtain ⟨p2, hp4⟩ : ∃ q, p * 10 = q := ⟨_, rfl⟩
    rw [hp4] at hp2 hp3
    obtain ⟨f, hf⟩ : ∃ q, 10 * d = q := ⟨_, rfl⟩
    rw [hf] at hd2
    obtain ⟨d2, hd3⟩ : ∃ q, f + e = q := ⟨_, rfl⟩
    rw [hd3] at hd2
    have h0 := ih (i + 1) p2 d2 (by omega) (by omega) hp2 hd2
    rw [succ_cast] at h0
    have hit : i < t.size := by omega
    have w0 : IntKind.u32.wrap ((p : Int) * 10) = (p2 : Int) := by rw [wrap_u32] <;> omega
    have w1 : IntKind.u32.wrap (10 * (d : Int)) = (f : Int) := by rw [wrap_u32] <;> omega
    have w2 : IntKind.u8.wrap ((c : Int) - 48) = (e : Int) := by rw [wrap_u8] <;> omega
    have w3 := u32_nat (k := e) (by omega)
    have w4 : IntKind.u32.wrap ((f : Int) + e) = (d2 : Int) := by rw [wrap_u32] <;> omega
    rw [← h0, ex2_limbs_Read]
    simp [hlt, hit, ch_eq, hce, hw, w0, w1, w2, w3, w4]
theorem read_loop (s : ByteArray) (hs : s.size ≤ 1099511627000) (hd : ∀ k, k < s.size → badDig s k = false) : ∀ (n j : Nat) (a : List Nat), s.size - j ≤ n → j ≤ s.size → Lim a → a.length ≤ j → val a = decN s 0 j →
    ∃ a', Exec T l1_limbs_Read [(0, .v (.string (s.extract j s.size))), (6, .own 1 (ul a)), (54, .dead)] = some (.exit 2, [(0, .v (.string (s.extract s.size s.size))), (6, .own 1 (ul a')), (54, .dead)]) ∧ Lim a' ∧ a'.length ≤ s.size ∧ val a' = decN s 0 s.size := by
  intro n
  induction n with
  | zero =>
    intro j a hn hj hl ha hv
    obtain rfl : j = s.size := by omega
    refine ⟨a, ?_, hl, ha, hv⟩
    have hsz := extract_size s s.size s.size (Nat.le_refl _) (Nat.le_refl _)
    obtain ⟨t, ht⟩ : ∃ t, s.extract s.size s.size = t := ⟨_, rfl⟩
    rw [ht] at hsz ⊢
    rw [ex1_limbs_Read]
    simp [hsz]
  | succ n ih =>
    intro j a hn hj hl ha hv
    by_cases hend : j = s.size
    · subst hend
      refine ⟨a, ?_, hl, ha, hv⟩
      have hsz := extract_size s s.size s.size (Nat.le_refl _) (Nat.le_refl _)
      obtain ⟨t, ht⟩ : ∃ t, s.extract s.size s.size = t := ⟨_, rfl⟩
      rw [ht] at hsz ⊢
      rw [ex1_limbs_Read]
      simp [hsz]
    · obtain ⟨m, hm⟩ : ∃ m, min 9 (s.size - j) = m := ⟨_, rfl⟩
      have hm9 : m ≤ 9 := by omega
      have hm0 : 0 < m := by omega
      have hjm : j + m ≤ s.size := by omega
      have hc := chunk_loop s j m hm9 hjm hd a m 0 1 0 rfl (Nat.zero_le _) rfl rfl
      have hp := pow9 hm9
      have hdl := decN_lt s j m fun r hr => (good_dig (hd (j + r) (by omega))).2
      have hadd := decN_add s 0 j m
      rw [← hv, Nat.zero_add] at hadd
      obtain ⟨P, hP⟩ : ∃ P, 10 ^ m = P := ⟨_, rfl⟩
      obtain ⟨D, hD⟩ : ∃ D, decN s j m = D := ⟨_, rfl⟩
      rw [hP, hD] at hc hadd hdl
      rw [hP] at hp
      obtain ⟨a1, g0, g1, g2, g3⟩ := c_grow a ⟨hl, by omega⟩ P D (by omega) (by omega)
      have hsz := extract_size s j s.size (by omega) (Nat.le_refl _)
      have htl := extract_tail s j m hjm
      obtain ⟨a', k0, k1⟩ := ih (j + m) a1 (by omega) hjm g1 (by omega) (by rw [g3, hadd, Nat.mul_comm])
      refine ⟨a', ?_, k1⟩
      rw [← hsz] at htl
      obtain ⟨t, ht⟩ : ∃ t, s.extract j s.size = t := ⟨_, rfl⟩
      rw [ht] at hsz htl hc ⊢
      rw [← k0, ex1_limbs_Read]
      have e1 : 0 < t.size := by omega
      have e2 : m ≤ t.size := by omega
      have e3 : (if t.size < 9 then (t.size : Int) else 9) = (m : Int) := by split <;> omega
      simp only [Int.natCast_zero] at hc
      simp at hc
      simp [e1, e2, e3, hc, g0, htl]
theorem c_Read (s : ByteArray) (hs : s.size ≤ 1099511627000) : Cinf T n_limbs_Read [.v (.string s)] = some (readR s, [.dead]) := by
  have hb := bad_loop s (by omega) s.size 0 (by omega) (Nat.zero_le _)
  rw [run_limbs_Read]
  unfold readR fault
  by_cases h1 : stop (badDig s) s.size 0 < s.size
  · rw [if_pos h1] at hb ⊢
    simp only [Int.natCast_zero] at hb
    simp [Run, hb]
  · rw [if_neg h1] at hb ⊢
    simp only [Int.natCast_zero] at hb
    by_cases h2 : s.size = 0
    · rw [if_pos h2]
      have h3 : s = ⟨#[]⟩ := ByteArray.ext (Array.eq_empty_of_size_eq_zero h2)
      subst h3
      simp [Run, hb]
    · rw [if_neg h2]
      have h3 : ¬ s = ⟨#[]⟩ := by rintro rfl; exact h2 rfl
      have hd : ∀ k, k < s.size → badDig s k = false := fun k hk => stop_not (badDig s) s.size 0 k (Nat.zero_le _) (by omega)
      obtain ⟨a', k0, k1, k2, k3⟩ := read_loop s hs hd s.size 0 [] (by omega) (Nat.zero_le _) Lim.nil (by simp) rfl
      rw [extract_all, ul_nil] at k0
      have t := c_trimO a' (by omega)
      rw [← limbs_val k1, k3] at t
      simp [Run, hb, h3, k0, t]
theorem decN_fit {s : ByteArray} (hd : ∀ k, k < s.size → badDig s k = false) {j : Nat} (hj : j ≤ s.size) : (limbs (decN s 0 j)).length ≤ j := by
  refine limbs_len_le (Nat.lt_of_lt_of_le (decN_lt s 0 j fun r hr => (good_dig (hd (0 + r) (by omega))).2) ?_)
  exact Nat.pow_le_pow_left (by decide) j
end Go.AM.F

/- Digits written, by the program and by the document. No conditions. -/
namespace Go.AM.F
open Go Go.AM
set_option maxRecDepth 10000
set_option linter.unusedSimpArgs false
attribute [local simp] j0_limbs_Print j1_limbs_Print w1_limbs_Print j2_limbs_Print j3_limbs_Print w2_limbs_Print j4_limbs_Print j5_limbs_Print j6_limbs_Print w0_limbs_Print j7_limbs_Print j8_limbs_Print w3_limbs_Print j9_limbs_Print j10_limbs_Print j11_limbs_Print b_limbs_Print a_limbs_Print
attribute [local simp] j0_strings_trimLeftByte w0_strings_trimLeftByte j1_strings_trimLeftByte b_strings_trimLeftByte a_strings_trimLeftByte j2_strings_TrimLeft b_strings_TrimLeft a_strings_TrimLeft
/-- A digit's byte. -/
def db (d : Nat) : UInt8 := UInt8.ofNat (48 + d)
theorem db_nat {d : Nat} (h : d < 10) : (db d).toNat = 48 + d := by
  unfold db
  rw [UInt8.toNat_ofNat']
  omega
/-- So many digits, the last first. -/
def dpad : Nat → Nat → List UInt8
  | 0, _ => []
  | n + 1, r => db (r % 10) :: dpad n (r / 10)
theorem dpad_length (n : Nat) : ∀ r, (dpad n r).length = n := by
  induction n with
  | zero => intro r; rfl
  | succ n ih => intro r; simp [dpad, ih]
/-- The digits that are needed, the last first. -/
def revD (v : Nat) : List UInt8 := if h : v = 0 then [] else db (v % 10) :: revD (v / 10)
theorem revD_zero : revD 0 = [] := by rw [revD]; simp
theorem revD_pos {v : Nat} (h : v ≠ 0) : revD v = db (v % 10) :: revD (v / 10) := by rw [revD]; simp [h]
def padT (r : Nat) : ByteArray := tx (dpad 9 r).reverse
def chunks (v : Nat) : List Nat := if h : v = 0 then [] else v % 1000000000 :: chunks (v / 1000000000)
theorem chunks_zero : chunks 0 = [] := by rw [chunks]; simp
theorem chunks_pos {v : Nat} (h : v ≠ 0) : chunks v = v % 1000000000 :: chunks (v / 1000000000) := by rw [chunks]; simp [h]
def strs (l : List Nat) : List PV := l.map fun r => .v (.string (padT r))
/-- One limb, divided in place. -/
theorem tdiv_loop (a0 : List Nat) (ha : Fit a0) (parts : PV) (_ : ∀ s t, PV.ment s t parts = false) : ∀ (k : Nat) (q : List Nat) (r : Nat), k ≤ a0.length → q.length = a0.length → Lim q → r < 1000000000 → q.take k = a0.take k → val (a0.drop k) = 1000000000 * val (q.drop k) + r →
    ∃ (q' : List Nat) (r' : Nat), Exec T l1_limbs_Print [(0, .own 1 (ul q)), (3, parts), (4, .v (.int .u64 r)), (5, .v (.int .i64 ((k : Int) - 1))), (10, .dead), (41, .dead), (57, .dead)] = some (.exit 2, [(0, .own 1 (ul q')), (3, parts), (4, .v (.int .u64 r')), (5, .v (.int .i64 (-1))), (10, .dead), (41, .dead), (57, .dead)]) ∧ Lim q' ∧ q'.length = a0.length ∧ r' < 1000000000 ∧ val a0 = 1000000000 * val q' + r' := by
  intro k
  induction k with
  | zero =>
    intro q r hk hq hl hr ht hv
    refine ⟨q, r, ?_, hl, hq, hr, by simpa using hv⟩
    rw [ex1_limbs_Print]
    simp
  | succ k ih =>
    intro q r hk hq hl hr ht hv
    have hal := ha.2
    have hka : k < a0.length := by omega
    have hkq : k < q.length := by omega
    obtain ⟨x, hx⟩ : ∃ x, q[k] = x := ⟨_, rfl⟩
    have hxl := hl.get hkq
    rw [hx] at hxl
    have hxa : a0[k] = x := by
      have h1 := congrArg (fun l => l[k]?) ht
      simp only [List.getElem?_take, Nat.lt_succ_self, if_true] at h1
      rw [List.getElem?_eq_getElem hkq, List.getElem?_eq_getElem hka, hx] at h1
      simpa using h1.symm
    have ht2 : q.take k = a0.take k := by
      have h1 := congrArg (List.take k) ht
      rwa [List.take_take, List.take_take, Nat.min_eq_left (by omega)] at h1
    obtain ⟨s, hs⟩ : ∃ s, x + r * 4294967296 = s := ⟨_, rfl⟩
    have hsh := shl32_64 r (by omega)
    have hor := or64 (x := r * 4294967296) (y := x) (e := s) (by omega) (by omega) (by rw [Nat.or_comm, or_high hxl, hs])
    obtain ⟨f, hf⟩ : ∃ f, r * 4294967296 = f := ⟨_, rfl⟩
    rw [hf] at hsh hor
    have hdm : 1000000000 * (s / 1000000000) + s % 1000000000 = s := Nat.div_add_mod _ _
    have q1 : (s : Int).tdiv 1000000000 = ((s / 1000000000 : Nat) : Int) := rfl
    have q2 : (s : Int).tmod 1000000000 = ((s % 1000000000 : Nat) : Int) := rfl
    have hr2 : s % 1000000000 < 1000000000 := Nat.mod_lt _ (by decide)
    have hdl : s / 1000000000 < 4294967296 := by omega
    obtain ⟨d, hd⟩ : ∃ d, s / 1000000000 = d := ⟨_, rfl⟩
    obtain ⟨r2, hr2e⟩ : ∃ d, s % 1000000000 = d := ⟨_, rfl⟩
    rw [hd] at hdm q1 hdl
    rw [hr2e] at hr2 hdm q2
    have w1 := u64_nat (k := x) (by omega)
    have w3 := u64_nat (k := d) (by omega)
    have w4 := u32_nat (k := d) hdl
    have w5 : IntKind.i64.wrap ((k : Int) - 1) = (k : Int) - 1 := by rw [wrap_i64] <;> omega
    have hv2 : val (a0.drop k) = 1000000000 * val ((q.set k d).drop k) + r2 := by
      rw [set_drop hkq, val_drop_cons hka, hxa, hv, val]
      omega
    obtain ⟨q', r', h0, h1⟩ := ih (q.set k d) r2 (by omega) (by simpa using hq) (hl.set hdl) hr2 (by rw [List.take_set_of_le (Nat.le_refl k)]; exact ht2) hv2
    refine ⟨q', r', ?_, h1⟩
    have q3 : binInt .quo .u64 s 1000000000 = some (.int .u64 (d : Nat)) := by rw [binInt_quo, if_neg (by decide), q1, w3]
    have q4 : binInt .rem .u64 s 1000000000 = some (.int .u64 (r2 : Nat)) := by rw [binInt_rem, if_neg (by decide), q2]
    rw [show ((k + 1 : Nat) : Int) - 1 = (k : Int) by omega, ← h0, ex1_limbs_Print]
    simp [-binInt_shl, -binInt_or, -binInt_quo, -binInt_rem, hka, hkq, hx, hsh, hor, q3, q4, w1, w4, w5, ul_set]
theorem encode_digit {d : Nat} (h : d < 10) : Utf8.encode ((48 : Int) + (d : Nat)) = tx [db d] := by
  match d, h with
  | 0, _ => rfl
  | 1, _ => rfl
  | 2, _ => rfl
  | 3, _ => rfl
  | 4, _ => rfl
  | 5, _ => rfl
  | 6, _ => rfl
  | 7, _ => rfl
  | 8, _ => rfl
  | 9, _ => rfl
/-- Nine digits are written. -/
theorem pad_loop9 (a : List Nat) (parts : PV) (_ : ∀ s t, PV.ment s t parts = false) : ∀ (n i r : Nat) (l : List UInt8), i + n = 9 → l.length = i → r < 18446744073709551616 →
    ∃ r' : Nat, Exec T l2_limbs_Print [(0, .own 1 (ul a)), (3, parts), (4, .v (.int .u64 r)), (6, .v (.string (tx l))), (10, .dead), (41, .dead), (42, .v (.int .i64 i)), (57, .dead)] = some (.exit 4, [(0, .own 1 (ul a)), (3, parts), (4, .v (.int .u64 r')), (6, .v (.string (tx ((dpad n r).reverse ++ l)))), (10, .dead), (41, .dead), (42, .v (.int .i64 9)), (57, .dead)]) := by
  intro n
  induction n with
  | zero =>
    intro i r l hi hl hr
    obtain rfl : i = 9 := by omega
    refine ⟨r, ?_⟩
    rw [ex2_limbs_Print]
    simp [dpad]
  | succ n ih =>
    intro i r l hi hl hr
    have hlt : i < 9 := by omega
    have hw : IntKind.i64.wrap ((i : Int) + 1) = (i : Int) + 1 := by rw [wrap_i64] <;> omega
    obtain ⟨r', h0⟩ := ih (i + 1) (r / 10) (db (r % 10) :: l) (by omega) (by simp [hl]) (by omega)
    refine ⟨r', ?_⟩
    have hd : r % 10 < 10 := Nat.mod_lt _ (by decide)
    have he := encode_digit hd
    have q1 : (r : Int).tmod 10 = ((r % 10 : Nat) : Int) := rfl
    have q2 : (r : Int).tdiv 10 = ((r / 10 : Nat) : Int) := rfl
    have hr2 : r / 10 < 18446744073709551616 := by omega
    rw [dpad, List.reverse_cons, List.append_assoc, List.singleton_append]
    obtain ⟨d, hde⟩ : ∃ d, r % 10 = d := ⟨_, rfl⟩
    obtain ⟨r2, hr2e⟩ : ∃ d, r / 10 = d := ⟨_, rfl⟩
    rw [hde] at hd he q1 h0 ⊢
    rw [hr2e] at q2 h0 hr2 ⊢
    have w1 : IntKind.u64.wrap ((48 : Int) + d) = ((48 + d : Nat) : Int) := by rw [wrap_u64] <;> omega
    have w2 : IntKind.i32.wrap ((48 + d : Nat) : Int) = (48 : Int) + d := by
      simp only [IntKind.wrap, IntKind.signed, IntKind.bits]
      simp
      omega
    have w3 := u64_nat (k := r2) hr2
    have q3 : binInt .quo .u64 r 10 = some (.int .u64 (r2 : Nat)) := by rw [binInt_quo, if_neg (by decide), q2, w3]
    have q4 : binInt .rem .u64 r 10 = some (.int .u64 (d : Nat)) := by rw [binInt_rem, if_neg (by decide), q1]
    have e1 : tx [db d] ++ tx l = tx (db d :: l) := tx_append _ _
    obtain ⟨z, hz⟩ : ∃ z, 48 + d = z := ⟨_, rfl⟩
    rw [hz] at w1 w2
    have e2 : 1 + l.length ≤ 9223372036854775807 := by omega
    rw [succ_cast] at h0
    rw [← h0, ex2_limbs_Print]
    simp [-binInt_quo, -binInt_rem, hlt, hw, q3, q4, w1, w2, he, e1, e2]
end Go.AM.F

/- Digits written: the texts. No conditions. -/
namespace Go.AM.F
open Go Go.AM
set_option maxRecDepth 10000
set_option linter.unusedSimpArgs false
attribute [local simp] j0_limbs_Print j1_limbs_Print w1_limbs_Print j2_limbs_Print j3_limbs_Print w2_limbs_Print j4_limbs_Print j5_limbs_Print j6_limbs_Print w0_limbs_Print j7_limbs_Print j8_limbs_Print w3_limbs_Print j9_limbs_Print j10_limbs_Print j11_limbs_Print b_limbs_Print a_limbs_Print
attribute [local simp] j0_strings_trimLeftByte w0_strings_trimLeftByte j1_strings_trimLeftByte b_strings_trimLeftByte a_strings_trimLeftByte j2_strings_TrimLeft b_strings_TrimLeft a_strings_TrimLeft
theorem dpad_zero (n : Nat) : dpad n 0 = List.replicate n 48 := by
  induction n with
  | zero => rfl
  | succ n ih => rw [dpad, Nat.zero_div, ih]; rfl
theorem dpad_revD (n : Nat) : ∀ v, v < 10 ^ n → ∃ m, dpad n v = revD v ++ List.replicate m 48 := by
  induction n with
  | zero => intro v hv; exact ⟨0, by rw [show v = 0 by simpa using hv, revD_zero]; rfl⟩
  | succ n ih =>
    intro v hv
    by_cases h0 : v = 0
    · exact ⟨n + 1, by rw [h0, dpad_zero, revD_zero]; rfl⟩
    · obtain ⟨m, hm⟩ := ih (v / 10) (by rw [Nat.pow_succ] at hv; exact Nat.div_lt_of_lt_mul (by rw [Nat.mul_comm]; exact hv))
      exact ⟨m, by rw [dpad, hm, revD_pos h0]; rfl⟩
theorem revD_cut (n : Nat) : ∀ v, v / 10 ^ n ≠ 0 → revD v = dpad n (v % 10 ^ n) ++ revD (v / 10 ^ n) := by
  induction n with
  | zero => intro v _; simp [dpad]
  | succ n ih =>
    intro v hv
    have h0 : v ≠ 0 := by rintro rfl; simp at hv
    have h1 : v / 10 / 10 ^ n = v / 10 ^ (n + 1) := by rw [Nat.div_div_eq_div_mul, Nat.pow_succ, Nat.mul_comm]
    have h2 := ih (v / 10) (by rw [h1]; exact hv)
    have h3 : v % 10 ^ (n + 1) % 10 = v % 10 := by rw [Nat.pow_succ, Nat.mul_comm]; exact Nat.mod_mul_right_mod v 10 (10 ^ n)
    have h4 : v % 10 ^ (n + 1) / 10 = v / 10 % 10 ^ n := by rw [Nat.pow_succ, Nat.mul_comm]; exact Nat.mod_mul_right_div_self v 10 (10 ^ n)
    rw [revD_pos h0, h2, h1, dpad, h3, h4]
    rfl
theorem chunks_revD : ∀ v, ∃ m, (chunks v).flatMap (dpad 9) = revD v ++ List.replicate m 48 := by
  intro v
  induction v using Nat.strongRecOn with
  | _ v ih =>
    by_cases h0 : v = 0
    · exact ⟨0, by rw [h0, chunks_zero, revD_zero]; rfl⟩
    · rw [chunks_pos h0, List.flatMap_cons]
      by_cases h1 : v / 1000000000 = 0
      · rw [h1, chunks_zero, Nat.mod_eq_of_lt (by omega)]
        obtain ⟨m, hm⟩ := dpad_revD 9 v (by omega)
        exact ⟨m, by rw [hm]; simp⟩
      · obtain ⟨m, hm⟩ := ih (v / 1000000000) (by omega)
        have h2 := revD_cut 9 v h1
        exact ⟨m, by rw [hm, h2, List.append_assoc]⟩
/-- The first digit is none that could be left out. -/
theorem revD_top : ∀ v, v ≠ 0 → ∃ d l, (revD v).reverse = db d :: l ∧ 1 ≤ d ∧ d < 10 := by
  intro v
  induction v using Nat.strongRecOn with
  | _ v ih =>
    intro h0
    rw [revD_pos h0]
    by_cases h1 : v / 10 = 0
    · exact ⟨v % 10, [], by rw [h1, revD_zero]; rfl, by omega, by omega⟩
    · obtain ⟨d, l, h2, h3⟩ := ih (v / 10) (by omega) h1
      exact ⟨d, l ++ [db (v % 10)], by rw [List.reverse_cons, h2]; rfl, h3⟩
theorem chunks_len : ∀ k v, v < 1000000000 ^ k → (chunks v).length ≤ k
  | 0, v, h => by rw [show v = 0 by simpa using h, chunks_zero]; simp
  | k + 1, v, h => by
    by_cases h0 : v = 0
    · rw [h0, chunks_zero]; simp
    · rw [chunks_pos h0, List.length_cons]
      have := chunks_len k (v / 1000000000) (by rw [Nat.pow_succ] at h; exact Nat.div_lt_of_lt_mul (by rw [Nat.mul_comm]; exact h))
      omega
theorem chunks_limbs (v : Nat) : (chunks v).length ≤ 2 * (limbs v).length := by
  refine chunks_len _ _ ?_
  have h := val_lt (limbs_lim v)
  rw [val_limbs] at h
  refine Nat.lt_of_lt_of_le h ?_
  rw [Nat.pow_mul]
  exact Nat.pow_le_pow_left (by decide) _
theorem strs_append (a b : List Nat) : strs (a ++ b) = strs a ++ strs b := by simp [strs]
@[simp] theorem strs_length (a : List Nat) : (strs a).length = a.length := by simp [strs]
theorem immL_strs (a : List Nat) : PV.immL (strs a) = true ∧ PV.noRoL (strs a) = true ∧ PV.freezeL (strs a) = strs a := by
  induction a with
  | nil => exact ⟨rfl, rfl, rfl⟩
  | cons x r ih =>
    obtain ⟨h1, h2, h3⟩ := ih
    simp only [strs, List.map_cons] at h1 h2 h3 ⊢
    exact ⟨by simp only [PV.immL, h1]; rfl, by simp only [PV.noRoL, h2]; rfl, by simp only [PV.freezeL, h3]; rfl⟩
theorem parts_loop : ∀ (v : Nat) (cs : List Nat), Fit (limbs v) → cs.length + (chunks v).length ≤ 4398046511104 →
    Exec T l0_limbs_Print [(0, .own 1 (ul (limbs v))), (3, .own 1 (strs cs)), (10, .dead), (41, .dead), (57, .dead)] = some (.exit 0, [(0, .own 1 []), (3, .own 1 (strs (cs ++ chunks v))), (10, .dead), (41, .dead), (57, .dead)]) := by
  intro v
  induction v using Nat.strongRecOn with
  | _ v ih =>
    intro cs hv hcs
    by_cases h0 : v = 0
    · subst h0
      rw [limbs_zero, chunks_zero, List.append_nil, ex0_limbs_Print]
      simp
    · have hne : ¬ limbs v = [] := by rw [limbs_pos h0]; simp
      have hpos : 0 < (limbs v).length := List.length_pos_iff.2 hne
      obtain ⟨q', r', k0, k1, k2, k3, k4⟩ := tdiv_loop (limbs v) hv (.own 1 (strs cs)) (fun _ _ => rfl) (limbs v).length (limbs v) 0 (Nat.le_refl _) rfl hv.1 (by decide) rfl (by simp [val])
      rw [val_limbs] at k4
      have hq : val q' = v / 1000000000 := by omega
      have hr : r' = v % 1000000000 := by omega
      have hvl := hv.2
      have t := c_trimO q' (by omega)
      rw [← limbs_val k1, hq] at t
      obtain ⟨r2, k5⟩ := pad_loop9 (limbs (v / 1000000000)) (.own 1 (strs cs)) (fun _ _ => rfl) 9 0 r' [] rfl rfl (by omega)
      have hmono := limbs_mono (m := v / 1000000000) (n := v) (by omega)
      rw [chunks_pos h0, List.length_cons] at hcs
      have h1 := ih (v / 1000000000) (by omega) (cs ++ [v % 1000000000]) ⟨limbs_lim _, by omega⟩ (by simp; omega)
      rw [List.append_assoc, List.singleton_append, ← chunks_pos h0, strs_append] at h1
      rw [hr] at k0 k5
      simp only [Int.natCast_zero, List.append_nil] at k0 k5
      have w : IntKind.i64.wrap (((limbs v).length : Int) - 1) = ((limbs v).length : Int) - 1 := by rw [wrap_i64] <;> omega
      have e1 : (cs.length + 1) * 16 ≤ 140737488355328 := by omega
      have e2 : cs.length ≤ 8796093022207 := by omega
      have e3 : cs.length ≤ 4611686018427387903 := by omega
      have e4 : tx [] = ⟨#[]⟩ := rfl
      rw [e4] at k5
      have hst : strs [v % 1000000000] = [.v (.string (tx (dpad 9 (v % 1000000000)).reverse))] := rfl
      rw [hst] at h1
      obtain ⟨R, hR⟩ : ∃ R, v % 1000000000 = R := ⟨_, rfl⟩
      rw [hR] at k0 k5 h1
      rw [← h1, ex0_limbs_Print]
      simp [hpos, hne, w, k0, t, k5, e1, e2, e3]
/-- The parts are joined, the last first. -/
theorem join_loop (cs : List Nat) (hcs : cs.length ≤ 4398046511104) : ∀ (k : Nat) (l : List UInt8), k ≤ cs.length → l.length + 9 * k ≤ 140737488355328 →
    Exec T l3_limbs_Print [(3, .own 1 (strs cs)), (7, .bld 78 5 l), (8, .v (.int .i64 ((k : Int) - 1))), (57, .dead)] = some (.exit 6, [(3, .own 1 (strs cs)), (7, .bld 78 5 (l ++ ((cs.take k).flatMap (dpad 9)).reverse)), (8, .v (.int .i64 (-1))), (57, .dead)]) := by
  intro k
  induction k with
  | zero =>
    intro l hk hl
    rw [ex3_limbs_Print]
    simp
  | succ k ih =>
    intro l hk hl
    have hlt : k < cs.length := by omega
    obtain ⟨x, hx⟩ : ∃ x, cs[k] = x := ⟨_, rfl⟩
    have hg : (strs cs)[k]? = some (.v (.string (padT x))) := by simp [strs, hlt, hx]
    have hp : (padT x).size = 9 := by simp [padT, dpad_length]
    have hw := x_strings_Builder_WriteString [.bld 78 5 l, .v (.string (padT x))] (r := (.tup [.v (.int .i64 9), .v .nilIface], [.bld 78 5 (l ++ (padT x).data.toList), .dead])) (by
      simp only [xWriteString]
      rw [if_pos ⟨trivial, trivial, by omega⟩, hp]
      rfl)
    have h0 := ih (l ++ (dpad 9 x).reverse) (by omega) (by simp [dpad_length]; omega)
    have ht : (cs.take (k + 1)).flatMap (dpad 9) = (cs.take k).flatMap (dpad 9) ++ dpad 9 x := by rw [List.take_succ_eq_append_getElem hlt, List.flatMap_append, hx]; simp
    rw [ht, List.reverse_append, ← List.append_assoc, ← h0, show ((k + 1 : Nat) : Int) - 1 = (k : Int) by omega, ex3_limbs_Print]
    have w5 : IntKind.i64.wrap ((k : Int) - 1) = (k : Int) - 1 := by rw [wrap_i64] <;> omega
    have hg2 : (strs cs)[k]'(by simpa using hlt) = .v (.string (padT x)) := by
      have := List.getElem?_eq_some_iff.1 hg
      exact this.2
    have e5 : (padT x).data.toList = (dpad 9 x).reverse := by simp [padT]
    rw [e5] at hw
    simp [hlt, hg2, hw, w5]
theorem trim_loop0 (b : UInt8) (hb : b ≠ 48) (r : List UInt8) : ∀ m : Nat, Exec T l0_strings_trimLeftByte [(0, .v (.string (tx (List.replicate m 48 ++ b :: r)))), (1, .v (.int .u8 48))] = some (.exit 0, [(0, .v (.string (tx (b :: r)))), (1, .v (.int .u8 48))]) := by
  intro m
  induction m with
  | zero =>
    have hc : ch (tx (b :: r)) 0 = b.toNat := by rw [ch_tx]; rfl
    have hb2 : ¬ b.toNat = 48 := fun h => hb (UInt8.toNat_inj.1 h)
    rw [List.replicate_zero, List.nil_append, ex0_strings_trimLeftByte]
    simp [ch_eq, hc, hb2]
  | succ m ih =>
    have hc : ch (tx (List.replicate (m + 1) 48 ++ b :: r)) 0 = 48 := by rw [ch_tx]; rfl
    have hd := tx_drop (List.replicate (m + 1) 48 ++ b :: r) 1
    rw [show (List.replicate (m + 1) (48 : UInt8) ++ b :: r).drop 1 = List.replicate m 48 ++ b :: r from rfl] at hd
    have hl : (List.replicate (m + 1) (48 : UInt8) ++ b :: r).length = m + 2 + r.length := by simp; omega
    rw [hl] at hd
    have hs := tx_size (List.replicate (m + 1) (48 : UInt8) ++ b :: r)
    rw [hl] at hs
    rw [← ih, ex0_strings_trimLeftByte]
    obtain ⟨t, ht⟩ : ∃ t, tx (List.replicate (m + 1) 48 ++ b :: r) = t := ⟨_, rfl⟩
    rw [ht] at hc hd hs ⊢
    have e1 : 0 < t.size := by omega
    have e2 : 1 ≤ t.size := by omega
    rw [← hs] at hd
    simp [ch_eq, hc, hd, e1, e2]
theorem c_TrimLeft0 (b : UInt8) (hb : b ≠ 48) (r : List UInt8) (m : Nat) : Cinf T n_strings_TrimLeft [.v (.string (tx (List.replicate m 48 ++ b :: r))), .v (.string ⟨#[48]⟩)] = some (.v (.string (tx (b :: r))), [.dead, .dead]) := by
  have h0 := trim_loop0 b hb r m
  have h1 : Cinf T n_strings_trimLeftByte [.v (.string (tx (List.replicate m 48 ++ b :: r))), .v (.int .u8 48)] = some (.v (.string (tx (b :: r))), [.dead, .dead]) := by
    rw [run_strings_trimLeftByte]
    simp [Run, h0]
  obtain ⟨t, ht⟩ : ∃ t, tx (List.replicate m 48 ++ b :: r) = t := ⟨_, rfl⟩
  rw [ht] at h1 ⊢
  have hne : ¬ t = ⟨#[]⟩ := by
    rw [← ht]
    intro h
    have := congrArg ByteArray.size h
    rw [tx_size, List.length_append, List.length_cons] at this
    have e : (ByteArray.mk #[]).size = 0 := rfl
    omega
  have h48 : ¬ (ByteArray.mk #[48]) = ⟨#[]⟩ := by intro h; have := congrArg ByteArray.size h; exact absurd this (by decide)
  have hsz : (ByteArray.mk #[48]).size = 1 := rfl
  rw [run_strings_TrimLeft]
  simp [Run, hne, h48, hsz, h1]
/-- A natural's text. -/
def printT (v : Nat) : ByteArray := if v = 0 then ⟨#[48]⟩ else tx (revD v).reverse
theorem c_Print (l : List Nat) (h : Fit l) : Cinf T n_limbs_Print [.ro 1 (ul l)] = some (.v (.string (printT (val l))), [.dead]) := by
  have h0 := c_Norm l h
  have hf := h.limbs
  rw [run_limbs_Print]
  unfold printT
  by_cases hv : val l = 0
  · rw [if_pos hv]
    rw [hv, limbs_zero, ul_nil] at h0
    simp [Run, h0]
  · rw [if_neg hv]
    have hne : ¬ limbs (val l) = [] := by rw [limbs_pos hv]; simp
    have hcl := chunks_limbs (val l)
    have hfl := hf.2
    have h1 := parts_loop (val l) [] hf (by simp; omega)
    rw [List.nil_append] at h1
    have h2 := join_loop (chunks (val l)) (by omega) (chunks (val l)).length [] (Nat.le_refl _) (by simp; omega)
    rw [List.take_of_length_le (Nat.le_refl _), List.nil_append] at h2
    obtain ⟨m, hm⟩ := chunks_revD (val l)
    obtain ⟨d, r, hr, hd1, hd2⟩ := revD_top (val l) hv
    rw [hm, List.reverse_append, List.reverse_replicate, hr] at h2
    have hb : db d ≠ 48 := by
      intro h
      have := congrArg UInt8.toNat h
      rw [db_nat hd2] at this
      have h48 : (48 : UInt8).toNat = 48 := rfl
      omega
    have h3 := c_TrimLeft0 (db d) hb r m
    have hnil : List.replicate m 48 ++ db d :: r ≠ [] := by simp
    obtain ⟨B, hB⟩ : ∃ B, List.replicate m 48 ++ db d :: r = B := ⟨_, rfl⟩
    rw [hB] at h2 h3 hnil
    have h4 := x_strings_Builder_String [.bld 78 5 B] (r := (.v (.string (tx B)), [.dead])) (by
      simp only [xString]
      rw [if_pos ⟨trivial, trivial, hnil⟩]
      rfl)
    have w : IntKind.i64.wrap (((chunks (val l)).length : Int) - 1) = ((chunks (val l)).length : Int) - 1 := by rw [wrap_i64] <;> omega
    rw [hr]
    have e1 : strs [] = [] := rfl
    rw [e1] at h1
    simp [Run, h0, hne, h1, w, h2, h3, h4]
end Go.AM.F

/- Digits written by the document; every Read and Print. No conditions. -/
namespace Go.AM.F
open Go Go.AM
set_option maxRecDepth 10000
set_option linter.unusedSimpArgs false
/-- A row of bytes. -/
def bl (l : List UInt8) : List PV := l.map fun b => .v (.int .u8 b.toNat)
@[simp] theorem bl_length (l : List UInt8) : (bl l).length = l.length := by simp [bl]
@[simp] theorem bl_nil : bl [] = [] := rfl
theorem bl_append (a b : List UInt8) : bl (a ++ b) = bl a ++ bl b := by simp [bl]
theorem bl_snoc (a : List UInt8) (x : UInt8) : bl (a ++ [x]) = bl a ++ [.v (.int .u8 x.toNat)] := by simp [bl]
theorem bl_get {l : List UInt8} {k : Nat} (h : k < l.length) : (bl l)[k]? = some (.v (.int .u8 l[k].toNat)) := by simp [bl, h]
theorem bytesOf_bl : ∀ l : List UInt8, bytesOfPV (bl l) = some l
  | [] => rfl
  | x :: r => by
    have h := bytesOf_bl r
    simp only [bl, List.map_cons] at h ⊢
    simp only [bytesOfPV, byteOfPV, h]
    show some (UInt8.ofNat ((x.toNat : Int).toNat) :: r) = _
    rw [Int.toNat_natCast, UInt8.ofNat_toNat]
theorem db_conv {d : Nat} (h : d < 10) : IntKind.u8.wrap ((48 + d : Nat) : Int) = ((db d).toNat : Int) := by
  rw [db_nat h]
  exact u8_nat (by omega)
def rpE (x : List Nat) (back : List UInt8) (n i : Nat) (x21 x24 x25 x33 : PV) : Env := [(3, .own 1 (ul x)), (4, .own 1 (bl back)), (5, .dead), (8, .v (.int .u64 n)), (10, .v (.int .i64 i)), (14, .dead), (21, x21), (24, x24), (25, x25), (33, x33), (53, .dead)]
def roE (x : List Nat) (back : List UInt8) (x21 x24 x25 x33 : PV) : Env := [(3, .own 1 (ul x)), (4, .own 1 (bl back)), (5, .dead), (14, .dead), (21, x21), (24, x24), (25, x25), (33, x33), (53, .dead)]
theorem revD_len (v : Nat) : (revD v).length ≤ 9 * (chunks v).length := by
  obtain ⟨m, hm⟩ := chunks_revD v
  have h := congrArg List.length hm
  have h2 : ∀ cs : List Nat, (cs.flatMap (dpad 9)).length = 9 * cs.length := by
    intro cs
    induction cs with
    | nil => rfl
    | cons c r ih => rw [List.flatMap_cons, List.length_append, dpad_length, ih, List.length_cons]; omega
  rw [h2, List.length_append] at h
  omega
/-- What Read answers is alike on both sides, and has no needless limbs. -/
theorem readR_cases (s : ByteArray) : (∃ z : Int, readR s = .tup [.own 1 [], .v (.int .i64 10), .v (.int .i64 z)]) ∨ readR s = .tup [.own 1 (ul (limbs (decN s 0 s.size))), .v (.int .i64 0), .v (.int .i64 0)] ∧ (limbs (decN s 0 s.size)).length ≤ s.size := by
  unfold readR
  split
  · exact .inl ⟨_, rfl⟩
  · rename_i h1
    split
    · exact .inl ⟨_, rfl⟩
    · exact .inr ⟨rfl, decN_fit (fun k hk => stop_not (badDig s) s.size 0 k (Nat.zero_le _) (by unfold fault at h1; omega)) (Nat.le_refl _)⟩
end Go.AM.F

/- The laws of naturals, without the document. No conditions. -/
namespace Go.AM.F
open Go Go.AM
set_option maxRecDepth 10000
set_option linter.unusedSimpArgs false
theorem decN_congr {s t : ByteArray} {k : Nat} : ∀ n, (∀ r, r < n → ch s (k + r) = ch t (k + r)) → decN s k n = decN t k n
  | 0, _ => rfl
  | n + 1, h => by rw [decN, decN, decN_congr n fun r hr => h r (by omega), h n (by omega)]
theorem ch_left (l m : List UInt8) {k : Nat} (h : k < l.length) : ch (tx (l ++ m)) k = ch (tx l) k := by
  rw [ch_tx, ch_tx, List.getElem?_append_left h]
theorem ch_mid (l : List UInt8) (x : UInt8) : ch (tx (l ++ [x])) l.length = x.toNat := by
  rw [ch_tx]
  simp
theorem revD_digits : ∀ v, ∀ x ∈ revD v, ∃ d, d < 10 ∧ x = db d := by
  intro v
  induction v using Nat.strongRecOn with
  | _ v ih =>
    by_cases h0 : v = 0
    · rw [h0, revD_zero]; intro x hx; cases hx
    · rw [revD_pos h0]
      intro x hx
      rcases List.mem_cons.1 hx with rfl | hx
      · exact ⟨v % 10, Nat.mod_lt _ (by decide), rfl⟩
      · exact ih (v / 10) (by omega) x hx
theorem dec_revD : ∀ v, decN (tx (revD v).reverse) 0 (revD v).length = v := by
  intro v
  induction v using Nat.strongRecOn with
  | _ v ih =>
    by_cases h0 : v = 0
    · rw [h0, revD_zero]; rfl
    · have h1 := ih (v / 10) (by omega)
      have hl : (revD (v / 10)).reverse.length = (revD (v / 10)).length := List.length_reverse
      rw [revD_pos h0, List.reverse_cons, List.length_cons, decN, Nat.zero_add, ← hl, ch_mid, hl, db_nat (Nat.mod_lt _ (by decide))]
      rw [decN_congr (t := tx (revD (v / 10)).reverse) (revD (v / 10)).length fun r hr => ch_left _ _ (by rw [hl]; omega), h1]
      omega
theorem good_all {l : List UInt8} (h : ∀ x ∈ l, ∃ d, d < 10 ∧ x = db d) (k : Nat) (hk : k < l.length) : badDig (tx l) k = false := by
  obtain ⟨d, hd, hx⟩ := h l[k] (List.getElem_mem hk)
  have hc : ch (tx l) k = 48 + d := by
    rw [ch_tx, List.getElem?_eq_getElem hk, Option.getD_some, hx, db_nat hd]
  unfold badDig
  rw [hc]
  simp
  omega
theorem read_print (v : Nat) : readR (printT v) = .tup [.own 1 (ul (limbs v)), .v (.int .i64 0), .v (.int .i64 0)] := by
  have key : ∀ (l : List UInt8) (w : Nat), l ≠ [] → (∀ x ∈ l, ∃ d, d < 10 ∧ x = db d) → decN (tx l) 0 l.length = w → readR (tx l) = .tup [.own 1 (ul (limbs w)), .v (.int .i64 0), .v (.int .i64 0)] := by
    intro l w hl hd hw
    have hf : ¬ fault (tx l) < (tx l).size := by
      intro h
      unfold fault at h
      have h1 := stop_is (badDig (tx l)) (tx l).size 0 (by omega)
      rw [good_all hd _ (by rw [tx_size] at h; exact h)] at h1
      cases h1
    have hne : ¬ (tx l).size = 0 := by rw [tx_size]; intro h; exact hl (List.eq_nil_of_length_eq_zero h)
    unfold readR
    rw [if_neg hf, if_neg hne, tx_size, hw]
  unfold printT
  by_cases h0 : v = 0
  · rw [if_pos h0, h0]
    exact key [48] 0 (by simp) (fun x hx => ⟨0, by decide, by rw [List.mem_singleton.1 hx]; rfl⟩) rfl
  · rw [if_neg h0]
    refine key _ v ?_ (fun x hx => revD_digits v x (List.mem_reverse.1 hx)) ?_
    · rw [revD_pos h0]; simp
    · rw [List.length_reverse, dec_revD]
theorem printT_size (v : Nat) : (printT v).size ≤ 18 * (limbs v).length + 1 := by
  unfold printT
  split
  · show 1 ≤ _
    omega
  · rw [tx_size, List.length_reverse]
    have := revD_len v
    have := chunks_limbs v
    omega
theorem cmpN_self (v : Nat) : cmpN v v = 0 := by unfold cmpN; rw [if_neg (by omega), if_pos rfl]
end Go.AM.F

/- Digits in a text: where they end, what they say. No conditions. -/
namespace Go.AM.F
open Go Go.AM
set_option maxRecDepth 10000
set_option linter.unusedSimpArgs false
attribute [local simp] b_fixed_digit a_fixed_digit j0_fixed_digits w0_fixed_digits j1_fixed_digits b_fixed_digits a_fixed_digits
/-- Where the digits end that begin at a place. -/
def dgE (s : ByteArray) (k : Nat) : Nat := stop (badDig s) (s.size - k) k
theorem dgE_le (s : ByteArray) {k : Nat} (h : k ≤ s.size) : k ≤ dgE s k ∧ dgE s k ≤ s.size := by
  have := stop_le (badDig s) (s.size - k) k
  unfold dgE
  omega
theorem dgE_good (s : ByteArray) {k j : Nat} (h1 : k ≤ j) (h2 : j < dgE s k) : badDig s j = false := stop_not _ _ _ _ h1 h2
theorem dgE_bad (s : ByteArray) {k : Nat} (hk : k ≤ s.size) (h : dgE s k < s.size) : badDig s (dgE s k) = true := by
  unfold dgE at h ⊢
  exact stop_is _ _ _ (by omega)
theorem dgE_end (s : ByteArray) {k : Nat} (h : s.size ≤ k) : dgE s k = k := by
  unfold dgE
  rw [show s.size - k = 0 by omega]
  rfl
theorem dgE_here (s : ByteArray) {k : Nat} (h : k < s.size) (hb : badDig s k = true) : dgE s k = k := by
  unfold dgE
  rw [show s.size - k = (s.size - k - 1) + 1 by omega, stop, if_pos hb]
theorem dgE_next (s : ByteArray) {k : Nat} (h : k < s.size) (hb : badDig s k = false) : dgE s k = dgE s (k + 1) := by
  unfold dgE
  rw [show s.size - k = (s.size - (k + 1)) + 1 by omega, stop, hb]
  simp
theorem c_digit (s : ByteArray) (k : Nat) (_ : s.size ≤ 4611686018427387903) : Cinf T n_fixed_digit [.v (.string s), .v (.int .i64 k)] = some (.v (.bool (decide (k < s.size) && !badDig s k)), [.dead, .dead]) := by
  rw [run_fixed_digit]
  unfold badDig
  by_cases h0 : k < s.size
  · by_cases h1 : ch s k < 48
    · have h3 : ¬ 48 ≤ ch s k := by omega
      simp [Run, h0, h1, h3, ch_eq]
    · have h3 : 48 ≤ ch s k := by omega
      by_cases h2 : 57 < ch s k
      · have h4 : ¬ ch s k ≤ 57 := by omega
        simp [Run, h0, h1, h2, h3, h4, ch_eq]
      · have h4 : ch s k ≤ 57 := by omega
        simp [Run, h0, h1, h2, h3, h4, ch_eq]
  · simp [Run, h0]
theorem digits_loop (s : ByteArray) (hs : s.size ≤ 4611686018427387903) (f : Nat) : ∀ (n k : Nat), s.size - k = n → k ≤ s.size →
    Exec T l0_fixed_digits [(0, .v (.string s)), (1, .v (.int .i64 k)), (6, .v (.int .i64 f))] = some (.exit 0, [(0, .v (.string s)), (1, .v (.int .i64 (dgE s k))), (6, .v (.int .i64 f))]) := by
  intro n
  induction n with
  | zero =>
    intro k hn hk
    have hc := c_digit s k hs
    have h0 : ¬ k < s.size := by omega
    rw [ex0_fixed_digits, dgE_end s (by omega)]
    rw [decide_eq_false h0, Bool.false_and] at hc
    simp [hc]
  | succ n ih =>
    intro k hn hk
    have hc := c_digit s k hs
    have hlt : k < s.size := by omega
    rw [decide_eq_true hlt, Bool.true_and] at hc
    rw [ex0_fixed_digits]
    cases hb : badDig s k with
    | true =>
      rw [hb] at hc
      rw [dgE_here s hlt hb]
      simp at hc
      simp [hc]
    | false =>
      rw [hb] at hc
      rw [dgE_next s hlt hb]
      have h0 := ih (k + 1) (by omega) (by omega)
      rw [succ_cast] at h0
      have hw := wrap_succ hlt (by omega)
      simp at hc
      simp [hc, hw, h0]
theorem c_digits (s : ByteArray) (k : Nat) (hk : k ≤ s.size) (hs : s.size ≤ 4611686018427387903) : Cinf T n_fixed_digits [.v (.string s), .v (.int .i64 k)] = some (.tup [.v (.int .i64 (dgE s k)), .v (.bool (decide (k < dgE s k)))], [.dead, .dead]) := by
  have h0 := digits_loop s hs k (s.size - k) k rfl hk
  rw [run_fixed_digits]
  simp [Run, h0]
/-! ### Lists of digits -/
def sub (s : ByteArray) (a b : Nat) : List UInt8 := (s.data.toList.take b).drop a
theorem data_len (s : ByteArray) : s.data.toList.length = s.size := by
  show s.data.toList.length = s.data.size
  simp only [Array.length_toList]
theorem extract_sub (s : ByteArray) (a b : Nat) : s.extract a b = tx (sub s a b) := by
  apply ByteArray.ext
  rw [ByteArray.data_extract]
  apply Array.ext'
  rw [Array.toList_extract, tx, sub]
  simp [List.drop_take]
theorem sub_len (s : ByteArray) {a b : Nat} (h : b ≤ s.size) : (sub s a b).length = b - a := by
  have := data_len s
  simp only [sub, List.length_drop, List.length_take]
  omega
def AllD (l : List UInt8) : Prop := ∀ x ∈ l, 48 ≤ x.toNat ∧ x.toNat ≤ 57
theorem AllD.append {l m : List UInt8} (h : AllD l) (k : AllD m) : AllD (l ++ m) := fun x hx => (List.mem_append.1 hx).elim (h x) (k x)
theorem AllD.zeros (n : Nat) : AllD (List.replicate n 48) := fun x hx => by
  obtain rfl := List.eq_of_mem_replicate hx
  decide
theorem AllD.sub (s : ByteArray) {a b : Nat} (h : b ≤ s.size) (k : ∀ j, a ≤ j → j < b → badDig s j = false) : AllD (sub s a b) := by
  intro x hx
  obtain ⟨i, hi, rfl⟩ := List.getElem_of_mem hx
  have hl := sub_len s (a := a) h
  have hlen := data_len s
  have h1 := good_dig (k (a + i) (by omega) (by omega))
  have h2 : ch s (a + i) = ((F.sub s a b)[i]).toNat := by
    have h3 : (F.sub s a b)[i] = s.data.toList[a + i]'(by omega) := by simp [F.sub]
    rw [h3]
    unfold ch
    rw [List.getD_eq_getElem?_getD, List.getElem?_eq_getElem (by omega)]
    rfl
  rw [h2] at h1
  exact h1
/-- What digits say. -/
def dV (l : List UInt8) : Nat := l.foldl (fun v x => 10 * v + (x.toNat - 48)) 0
theorem dV_snoc (l : List UInt8) (x : UInt8) : dV (l ++ [x]) = 10 * dV l + (x.toNat - 48) := by simp [dV]
theorem decN_take (l : List UInt8) : ∀ n, n ≤ l.length → decN (tx l) 0 n = dV (l.take n)
  | 0, _ => by simp [decN, dV]
  | n + 1, h => by
    rw [decN, decN_take l n (by omega), List.take_succ_eq_append_getElem (by omega), dV_snoc, Nat.zero_add, ch_tx, List.getElem?_eq_getElem (by omega)]
    rfl
theorem decN_dV (l : List UInt8) : decN (tx l) 0 l.length = dV l := by rw [decN_take l _ (Nat.le_refl _), List.take_of_length_le (Nat.le_refl _)]
theorem dV_from (b : List UInt8) : ∀ v, b.foldl (fun v x => 10 * v + (x.toNat - 48)) v = 10 ^ b.length * v + dV b := by
  unfold dV
  induction b with
  | nil => intro v; simp
  | cons x b ih =>
    intro v
    rw [List.foldl_cons, List.foldl_cons, ih, ih (10 * 0 + _), List.length_cons, Nat.pow_succ, Nat.mul_add, Nat.mul_zero, Nat.zero_add, Nat.mul_assoc, Nat.add_assoc]
theorem dV_append (a b : List UInt8) : dV (a ++ b) = 10 ^ b.length * dV a + dV b := by
  rw [dV, List.foldl_append, dV_from]
  rfl
theorem dV_zeros (n : Nat) : dV (List.replicate n 48) = 0 := by
  induction n with
  | zero => rfl
  | succ n ih => rw [List.replicate_succ', dV_snoc, ih]; rfl
theorem dV_cons (x : UInt8) (l : List UInt8) : dV (x :: l) = 10 ^ l.length * (x.toNat - 48) + dV l := by
  rw [dV, List.foldl_cons, dV_from]
  simp
theorem dV_lt {l : List UInt8} (h : AllD l) : dV l < 10 ^ l.length := by
  induction l with
  | nil => simp [dV]
  | cons x l ih =>
    have h1 := ih fun y hy => h y (by simp [hy])
    have h2 := h x (by simp)
    rw [dV_cons, List.length_cons, Nat.pow_succ]
    have h3 : 10 ^ l.length * (x.toNat - 48) ≤ 10 ^ l.length * 9 := Nat.mul_le_mul_left _ (by omega)
    omega
theorem fault_good {l : List UInt8} (h : AllD l) : fault (tx l) = l.length := by
  have h1 := stop_le (badDig (tx l)) (tx l).size 0
  unfold fault
  rw [tx_size] at h1 ⊢
  refine Nat.le_antisymm (by omega) (Nat.not_lt.1 fun hc => ?_)
  have h2 := stop_is (badDig (tx l)) l.length 0 (by omega)
  obtain ⟨q, hq⟩ : ∃ q, stop (badDig (tx l)) l.length 0 = q := ⟨_, rfl⟩
  rw [hq] at h2 hc
  have h3 := h _ (List.getElem_mem hc)
  unfold badDig at h2
  rw [ch_tx, List.getElem?_eq_getElem hc] at h2
  simp at h2
  omega
theorem readR_good {l : List UInt8} (h : AllD l) (h0 : l ≠ []) : readR (tx l) = .tup [.own 1 (ul (limbs (dV l))), .v (.int .i64 0), .v (.int .i64 0)] := by
  unfold readR
  rw [fault_good h, tx_size, if_neg (by omega), if_neg (by simpa using h0), decN_dV]
end Go.AM.F

/- Read, by the program and by the document. No conditions. -/
namespace Go.AM.F
open Go Go.AM
set_option maxRecDepth 10000
set_option linter.unusedSimpArgs false
attribute [local simp] b_stringslite_HasPrefix a_stringslite_HasPrefix b_strings_HasPrefix a_strings_HasPrefix
attribute [local simp] j0_fixed_Read j1_fixed_Read j2_fixed_Read j3_fixed_Read j4_fixed_Read j5_fixed_Read j6_fixed_Read j7_fixed_Read b_fixed_Read a_fixed_Read
theorem one_iff (t : ByteArray) (b : UInt8) (h : 1 ≤ t.size) : t.extract 0 1 = ⟨#[b]⟩ ↔ ch t 0 = b.toNat := by
  constructor
  · intro k
    have h0 := ch_extract t 0 1 0 (by omega) h
    rw [k] at h0
    exact h0.symm
  · intro k0
    apply bytes_ext
    · rw [extract_size _ _ _ (by omega) h]; rfl
    · intro i hi
      rw [extract_size _ _ _ (by omega) h] at hi
      rw [ch_extract t 0 1 i (by omega) h, Nat.zero_add]
      match i, hi with
      | 0, _ => exact k0
theorem c_lHP (t : ByteArray) (b : UInt8) : Cinf T n_stringslite_HasPrefix [.v (.string t), .v (.string ⟨#[b]⟩)] = some (.v (.bool (decide (1 ≤ t.size ∧ ch t 0 = b.toNat))), [.dead, .dead]) := by
  have e2 : ByteArray.size ⟨#[b]⟩ = 1 := rfl
  rw [run_stringslite_HasPrefix]
  by_cases h : 1 ≤ t.size
  · simp [Run, e2, h, one_iff t b h]
  · simp [Run, e2, h]
theorem c_HP (t : ByteArray) (b : UInt8) : Cinf T n_strings_HasPrefix [.v (.string t), .v (.string ⟨#[b]⟩)] = some (.v (.bool (decide (1 ≤ t.size ∧ ch t 0 = b.toNat))), [.dead, .dead]) := by
  rw [run_strings_HasPrefix]
  simp [Run, c_lHP]
/-- A number's sign, its parts' ends. -/
def negT (s : ByteArray) : Bool := decide (1 ≤ s.size ∧ ch s 0 = 45)
def fr (s : ByteArray) : Nat := if negT s then 1 else 0
def wE (s : ByteArray) : Nat := dgE s (fr s)
def dotT (s : ByteArray) : Bool := decide (wE s < s.size ∧ ch s (wE s) = 46)
def pE (s : ByteArray) : Nat := dgE s (wE s + 1)
theorem fr_le (s : ByteArray) : fr s ≤ s.size ∧ fr s ≤ 1 := by
  unfold fr
  cases h : negT s
  · simp
  · unfold negT at h
    simp at h
    simp
    omega
theorem wE_le (s : ByteArray) : fr s ≤ wE s ∧ wE s ≤ s.size := dgE_le s (fr_le s).1
theorem dotT_lt {s : ByteArray} (h : dotT s = true) : wE s < s.size ∧ ch s (wE s) = 46 := by simpa [dotT] using h
theorem pE_le {s : ByteArray} (h : dotT s = true) : wE s + 1 ≤ pE s ∧ pE s ≤ s.size := dgE_le s (dotT_lt h).1
/-- A fault at a place. -/
def badF (k : Nat) : PV := .tup [.v (.int .i64 0), .v (.int .i64 40), .v (.int .i64 k)]
def valF (neg : Bool) (m : Nat) : PV := if 9223372036854775808 < m ∨ (m = 9223372036854775808 ∧ neg = false) then .tup [.v (.int .i64 0), .v (.int .i64 41), .v (.int .i64 0)] else .tup [.v (.int .i64 (if neg then -(m : Int) else m)), .v (.int .i64 0), .v (.int .i64 0)]
/-- The digits with those behind the point, six of them. -/
def wL (s : ByteArray) : List UInt8 := sub s (fr s) (wE s)
def pL (s : ByteArray) : List UInt8 := if dotT s then sub s (wE s + 1) (pE s) else []
def rdU (s : ByteArray) : List UInt8 := wL s ++ pL s ++ List.replicate (6 - (pL s).length) 48
/-- What Read answers. -/
def rd4 (s : ByteArray) : PV :=
  if 4096 < s.size then .tup [.v (.int .i64 0), .v (.int .i64 4), .v (.int .i64 0)]
  else if wE s = fr s then badF (wE s)
  else if dotT s = true then
    if pE s = wE s + 1 then badF (pE s)
    else if wE s + 7 < pE s then badF (wE s + 7)
    else if pE s < s.size then badF (pE s)
    else valF (negT s) (dV (rdU s))
  else if wE s < s.size then badF (wE s)
  else valF (negT s) (dV (rdU s))
theorem wL_all (s : ByteArray) : AllD (wL s) := AllD.sub s (wE_le s).2 fun _ h1 h2 => dgE_good s h1 h2
theorem pL_all (s : ByteArray) : AllD (pL s) := by
  unfold pL
  cases h : dotT s
  · intro x hx; simp at hx
  · exact AllD.sub s (pE_le h).2 fun _ h1 h2 => dgE_good s h1 h2
theorem rdU_all (s : ByteArray) : AllD (rdU s) := ((wL_all s).append (pL_all s)).append (AllD.zeros _)
theorem wL_len (s : ByteArray) : (wL s).length = wE s - fr s := sub_len s (wE_le s).2
theorem c_zeros (m : Nat) (hm : m ≤ 100000) : Cinf T n_strings_Repeat [.v (.string ⟨#[48]⟩), .v (.int .i64 m)] = some (.v (.string (tx (List.replicate m 48))), [.dead, .dead]) := by
  have hr : ∀ m, repL [48] m = List.replicate m 48 := by
    intro m
    induction m with
    | zero => rfl
    | succ m ih => rw [repL, ih]; rfl
  refine x_strings_Repeat [.v (.string (tx [48])), .v (.int .i64 m)] ?_
  simp only [xRepeat]
  rw [if_pos ⟨by omega, by omega, by simp; omega⟩]
  simp [tx, hr]
theorem c_neg (s : ByteArray) : Cinf T n_strings_HasPrefix [.v (.string s), .v (.string ⟨#[45]⟩)] = some (.v (.bool (negT s)), [.dead, .dead]) := c_HP s 45
/-- The last part: digits that are read, their sign. -/
theorem read_end (neg : Bool) (l : List UInt8) (b z : Nat) (hb : b ≤ 6) (hz : 6 - b = z) (ha : AllD (l ++ List.replicate z 48)) (hl : l ≠ []) (hlen : l.length ≤ 5000) :
    ∃ v e : Int, Exec T j3_fixed_Read [(5, .v (.bool neg)), (9, .v (.string (tx l))), (10, .v (.int .i64 b))] = some (.ret, [(2, .v (.int .i64 v)), (3, .v (.int .i64 e)), (4, .v (.int .i64 0))]) ∧ valF neg (dV (l ++ List.replicate z 48)) = .tup [.v (.int .i64 v), .v (.int .i64 e), .v (.int .i64 0)] := by
  have w1 : IntKind.i64.wrap (6 - (b : Int)) = (z : Int) := by rw [wrap_i64] <;> omega
  have r1 := c_zeros z (by omega)
  have hsz : (tx (l ++ List.replicate z 48)).size ≤ 6000 := by simp; omega
  have r2 := c_Read (tx (l ++ List.replicate z 48)) (by omega)
  rw [readR_good ha (by simp [hl])] at r2
  have hlt := dV_lt ha
  obtain ⟨m, hm⟩ : ∃ m, dV (l ++ List.replicate z 48) = m := ⟨_, rfl⟩
  rw [hm] at r2 hlt ⊢
  have hfit : Fit (limbs m) := by
    refine fit_small (l ++ List.replicate z 48).length (Nat.lt_of_lt_of_le hlt (Nat.pow_le_pow_left (by decide) _)) ?_
    simp
    omega
  have s1 := c_signed neg m hfit
  have e1 : l.length + z ≤ 9223372036854775807 := by omega
  unfold sgnR at s1
  unfold valF
  by_cases hc : 9223372036854775808 < m ∨ (m = 9223372036854775808 ∧ neg = false)
  · rw [if_pos hc] at s1 ⊢
    exact ⟨_, _, by simp [w1, r1, tx_append, e1, r2, s1], rfl⟩
  · rw [if_neg hc] at s1 ⊢
    exact ⟨_, _, by simp [w1, r1, tx_append, e1, r2, s1], rfl⟩
theorem tx_nil : (⟨#[]⟩ : ByteArray) = tx [] := rfl
set_option maxHeartbeats 4000000 in
theorem read_key (s : ByteArray) (hs : s.size ≤ 4611686018427387903) (c0 : ¬ 4096 < s.size) :
    ∃ v e k : Int, Exec T j6_fixed_Read [(0, .v (.string s)), (5, .v (.bool (negT s))), (6, .v (.int .i64 (fr s)))] = some (.ret, [(2, .v (.int .i64 v)), (3, .v (.int .i64 e)), (4, .v (.int .i64 k))]) ∧ (if wE s = fr s then badF (wE s)
      else if dotT s = true then
        if pE s = wE s + 1 then badF (pE s)
        else if wE s + 7 < pE s then badF (wE s + 7)
        else if pE s < s.size then badF (pE s)
        else valF (negT s) (dV (rdU s))
      else if wE s < s.size then badF (wE s)
      else valF (negT s) (dV (rdU s))) = .tup [.v (.int .i64 v), .v (.int .i64 e), .v (.int .i64 k)] := by
  have hd := c_digits s (fr s) (fr_le s).1 hs
  have ha := wE_le s
  have hwl := wL_len s
  have hwa := wL_all s
  have hrl : (rdU s).length ≤ 5000 ∨ True := .inr trivial
  have hfe : (if negT s = true then (1 : Int) else 0) = (fr s : Int) := by unfold fr; cases negT s <;> rfl
  have hx1 : s.extract (fr s) (wE s) = tx (wL s) := extract_sub s _ _
  change Cinf T n_fixed_digits [.v (.string s), .v (.int .i64 (fr s))] = some (.tup [.v (.int .i64 (wE s)), .v (.bool (decide (fr s < wE s)))], [.dead, .dead]) at hd
  by_cases c1 : wE s = fr s
  · rw [if_pos c1]
    rw [c1] at hd ⊢
    have : ¬ fr s < fr s := by omega
    simp at hd
    exact ⟨_, _, _, by simp [hd], rfl⟩
  rw [if_neg c1]
  have c1' : fr s < wE s := by omega
  rw [decide_eq_true c1'] at hd
  have hwne : wL s ≠ [] := fun h => by rw [h] at hwl; simp at hwl; omega
  by_cases c2 : dotT s = true
  · rw [if_pos c2]
    have hdl := dotT_lt c2
    have hp := pE_le c2
    have hd2 := c_digits s (wE s + 1) (by omega) hs
    change Cinf T n_fixed_digits [.v (.string s), .v (.int .i64 (wE s + 1 : Nat))] = some (.tup [.v (.int .i64 (pE s)), .v (.bool (decide (wE s + 1 < pE s)))], [.dead, .dead]) at hd2
    rw [succ_cast] at hd2
    have hw1 := wrap_succ hdl.1 (by omega)
    have hpl : pL s = sub s (wE s + 1) (pE s) := by rw [pL, if_pos c2]
    have hpn : (pL s).length = pE s - (wE s + 1) := by rw [hpl, sub_len s hp.2]
    have hx2 : s.extract (wE s + 1) (pE s) = tx (pL s) := by rw [hpl]; exact extract_sub s _ _
    have hpa := pL_all s
    unfold rdU
    obtain ⟨f, hf⟩ : ∃ f, fr s = f := ⟨_, rfl⟩
    obtain ⟨a, haE⟩ : ∃ f, wE s = f := ⟨_, rfl⟩
    obtain ⟨t, ht⟩ : ∃ f, pE s = f := ⟨_, rfl⟩
    obtain ⟨W, hW⟩ : ∃ f, wL s = f := ⟨_, rfl⟩
    obtain ⟨Q, hQ⟩ : ∃ f, pL s = f := ⟨_, rfl⟩
    obtain ⟨N, hN⟩ : ∃ f, negT s = f := ⟨_, rfl⟩
    rw [hf, haE] at hd
    rw [haE, ht] at hd2
    simp only [hf, haE, ht, hW, hQ, hN] at *
    have w7 : IntKind.i64.wrap ((a : Int) + 7) = (a : Int) + 7 := by rw [wrap_i64] <;> omega
    have hle : a ≤ s.size := by omega
    by_cases c3 : t = a + 1
    · rw [if_pos c3]
      subst c3
      simp at hd2
      exact ⟨_, _, _, by simp [hd, hle, ha, hx1, hdl, ch_eq, hw1, hd2], rfl⟩
    rw [if_neg c3]
    have c3' : a + 1 < t := by omega
    rw [decide_eq_true c3'] at hd2
    by_cases c4 : a + 7 < t
    · rw [if_pos c4]
      exact ⟨_, _, _, by simp [hd, hle, ha, hx1, hdl, ch_eq, hw1, hd2, w7, c4], rfl⟩
    rw [if_neg c4]
    have wt : IntKind.i64.wrap ((t : Int) - a) = ((t - a : Nat) : Int) := by rw [wrap_i64] <;> omega
    obtain ⟨q, hq⟩ : ∃ q, t - a = q := ⟨_, rfl⟩
    rw [hq] at wt
    obtain ⟨b, hb⟩ : ∃ b, q - 1 = b := ⟨_, rfl⟩
    have wb : IntKind.i64.wrap ((q : Int) - 1) = (b : Int) := by rw [wrap_i64] <;> omega
    have e1 : W.length + Q.length ≤ 9223372036854775807 := by omega
    by_cases c5 : t < s.size
    · rw [if_pos c5]
      exact ⟨_, _, _, by simp [hd, hle, ha, hx1, hx2, hp, hdl, ch_eq, hw1, hd2, w7, c4, c5, wt, wb, e1, tx_append], rfl⟩
    · rw [if_neg c5]
      obtain ⟨v, e, k0, k1⟩ := read_end N (W ++ Q) b (6 - Q.length) (by omega) (by omega) ((hwa.append hpa).append (AllD.zeros _)) (by simp [hwne]) (by simp; omega)
      exact ⟨_, _, _, by simp [-tl3_fixed_Read, hd, hle, ha, hx1, hx2, hp, hdl, ch_eq, hw1, hd2, w7, c4, c5, wt, wb, e1, tx_append]; exact k0, k1⟩
  · rw [if_neg c2]
    have hdn : ¬ (wE s < s.size ∧ ch s (wE s) = 46) := fun h => c2 (by simpa [dotT] using h)
    have hpl : pL s = [] := by rw [pL, if_neg c2]
    unfold rdU
    obtain ⟨f, hf⟩ : ∃ f, fr s = f := ⟨_, rfl⟩
    obtain ⟨a, haE⟩ : ∃ f, wE s = f := ⟨_, rfl⟩
    obtain ⟨W, hW⟩ : ∃ f, wL s = f := ⟨_, rfl⟩
    obtain ⟨N, hN⟩ : ∃ f, negT s = f := ⟨_, rfl⟩
    rw [hf, haE] at hd
    simp only [hf, haE, hW, hpl, hN] at *
    have hle : a ≤ s.size := by omega
    by_cases c5 : a < s.size
    · rw [if_pos c5]
      have c6 : ¬ ch s a = 46 := fun h => hdn ⟨c5, h⟩
      exact ⟨_, _, _, by simp [hd, hle, ha, hx1, c5, c6, ch_eq], rfl⟩
    · rw [if_neg c5]
      obtain ⟨v, e, k0, k1⟩ := read_end N W 0 6 (by omega) (by omega) (hwa.append (AllD.zeros _)) hwne (by omega)
      simp only [Int.natCast_zero] at k0
      exact ⟨_, _, _, by simp [-tl3_fixed_Read, hd, hle, ha, hx1, c5, ch_eq]; exact k0, by rw [List.append_nil, List.length_nil, Nat.sub_zero]; exact k1⟩
theorem c_fRead (s : ByteArray) (hs : s.size ≤ 4611686018427387903) : Cinf T n_fixed_Read [.v (.string s)] = some (rd4 s, [.dead]) := by
  rw [run_fixed_Read]
  unfold rd4
  by_cases c0 : 4096 < s.size
  · rw [if_pos c0]
    simp [Run, c0]
  rw [if_neg c0]
  have hn := c_neg s
  have hfe : (if negT s = true then (1 : Int) else 0) = (fr s : Int) := by unfold fr; cases negT s <;> rfl
  obtain ⟨x, y, z, key, hr⟩ := read_key s hs c0
  rw [hr]
  cases hN : negT s
  · rw [hN] at key hn hfe
    simp at hfe
    rw [← hfe] at key
    have key2 : Exec T k6_fixed_Read [(0, .v (.string s)), (5, .v (.bool false)), (6, .v (.int .i64 0))] = some (.ret, [(2, .v (.int .i64 x)), (3, .v (.int .i64 y)), (4, .v (.int .i64 z))]) := key
    simp [-tl6_fixed_Read, Run, c0, hn, key2]
  · rw [hN] at key hn hfe
    simp at hfe
    rw [← hfe] at key
    have key2 : Exec T k6_fixed_Read [(0, .v (.string s)), (5, .v (.bool true)), (6, .v (.int .i64 1))] = some (.ret, [(2, .v (.int .i64 x)), (3, .v (.int .i64 y)), (4, .v (.int .i64 z))]) := key
    simp [-tl6_fixed_Read, Run, c0, hn, key2]
end Go.AM.F

/- Print, by the program and by the document. No conditions. -/
namespace Go.AM.F
open Go Go.AM
set_option maxRecDepth 10000
set_option linter.unusedSimpArgs false
attribute [local simp] j0_fixed_Print j1_fixed_Print b_fixed_Print a_fixed_Print b_strconv_FormatUint a_strconv_FormatUint
attribute [local simp] j0_strings_trimRightByte w0_strings_trimRightByte j1_strings_trimRightByte b_strings_trimRightByte a_strings_trimRightByte j2_strings_TrimRight b_strings_TrimRight a_strings_TrimRight
/-- A number's digits. -/
def digs (n : Nat) : List UInt8 := if n = 0 then [48] else (revD n).reverse
theorem digs_small {n : Nat} (h : n < 10) : digs n = [db n] := by
  match n, h with
  | 0, _ => rfl
  | n + 1, h =>
    unfold digs
    rw [if_neg (by omega), revD_pos (by omega), show (n + 1) / 10 = 0 by omega, revD_zero, show (n + 1) % 10 = n + 1 by omega]
    rfl
theorem digs_big {n : Nat} (h : ¬ n < 10) : digs n = digs (n / 10) ++ [db (n % 10)] := by
  unfold digs
  rw [if_neg (by omega), if_neg (by omega), revD_pos (v := n) (by omega), List.reverse_cons]
theorem digs_all : ∀ n, AllD (digs n) := by
  intro n
  induction n using Nat.strongRecOn with
  | _ n ih =>
    by_cases h : n < 10
    · rw [digs_small h]
      intro x hx
      simp at hx
      subst hx
      rw [db_nat h]
      omega
    · rw [digs_big h]
      refine (ih (n / 10) (by omega)).append fun x hx => ?_
      simp at hx
      subst hx
      rw [db_nat (Nat.mod_lt _ (by decide))]
      omega
theorem digs_val : ∀ n, dV (digs n) = n := by
  intro n
  induction n using Nat.strongRecOn with
  | _ n ih =>
    by_cases h : n < 10
    · rw [digs_small h]
      simp [dV, db_nat h]
    · rw [digs_big h, dV_snoc, ih (n / 10) (by omega), db_nat (Nat.mod_lt _ (by decide))]
      omega
theorem digs_ne (n : Nat) : digs n ≠ [] := by
  by_cases h : n < 10
  · rw [digs_small h]; simp
  · rw [digs_big h]; simp
theorem digs_len : ∀ k n, 0 < k → n < 10 ^ k → (digs n).length ≤ k
  | 0, _, h, _ => by omega
  | k + 1, n, _, h => by
    by_cases h1 : n < 10
    · rw [digs_small h1]; simp
    · rw [digs_big h1]
      have hk : k ≠ 0 := by rintro rfl; simp at h; omega
      have := digs_len k (n / 10) (by omega) (by rw [Nat.pow_succ] at h; omega)
      simp
      omega
theorem decL_digs : ∀ f n, 0 < f → n < 10 ^ f → decL f n = digs n
  | 0, _, h, _ => by omega
  | f + 1, n, _, h => by
    rw [decL]
    by_cases h1 : n < 10
    · rw [if_pos h1, digs_small h1]
      rfl
    · have hk : f ≠ 0 := by rintro rfl; simp at h; omega
      rw [if_neg h1, digs_big h1, decL_digs f (n / 10) (by omega) (by rw [Nat.pow_succ] at h; omega)]
      rfl
theorem c_fmt (n : Nat) (h : n < 18446744073709551616) : Cinf T n_strconv_FormatUint [.v (.int .u64 n), .v (.int .i64 10)] = some (.v (.string (tx (digs n))), [.dead, .dead]) := by
  have h1 : Cinf T n_strconv_FormatUint_69 [.v (.int .u64 n), .v (.int .i64 10)] = some (.v (.string (tx (digs n))), [.dead, .dead]) := by
    refine x_strconv_FormatUint_69 _ ?_
    simp only [xFormatUint]
    rw [if_pos ⟨trivial, by omega, by omega⟩, Int.toNat_natCast, decL_digs 20 n (by decide) (Nat.lt_trans h (by decide))]
    rfl
  rw [run_strconv_FormatUint]
  simp [Run, h1]
/-! ### Noughts at the end -/
def rtrim (l : List UInt8) : List UInt8 := (l.reverse.dropWhile (· == 48)).reverse
theorem rtrim_zeros (m : Nat) : rtrim (List.replicate m 48) = [] := by
  unfold rtrim
  rw [List.reverse_replicate]
  induction m with
  | zero => rfl
  | succ m ih => rw [List.replicate_succ]; simp [ih]
theorem rtrim_eq (r : List UInt8) (b : UInt8) (hb : b ≠ 48) (m : Nat) : rtrim (r ++ b :: List.replicate m 48) = r ++ [b] := by
  unfold rtrim
  rw [List.reverse_append, List.reverse_cons, List.reverse_replicate]
  have : (List.replicate m (48 : UInt8) ++ [b] ++ r.reverse).dropWhile (· == 48) = b :: r.reverse := by
    induction m with
    | zero => simp [hb]
    | succ m ih => rw [List.replicate_succ]; simpa using ih
  rw [this]
  simp
theorem split_zeros : ∀ l : List UInt8, (∃ r b m, b ≠ 48 ∧ l = r ++ b :: List.replicate m 48) ∨ ∃ m, l = List.replicate m 48
  | [] => .inr ⟨0, rfl⟩
  | x :: l => by
    rcases split_zeros l with ⟨r, b, m, hb, rfl⟩ | ⟨m, rfl⟩
    · exact .inl ⟨x :: r, b, m, hb, rfl⟩
    · by_cases h : x = 48
      · subst h
        exact .inr ⟨m + 1, by rw [List.replicate_succ]⟩
      · exact .inl ⟨[], x, m, h, rfl⟩
theorem cut_last (l : List UInt8) (x : UInt8) : (tx (l ++ [x])).extract 0 l.length = tx l := by
  rw [extract_sub]
  simp [sub]
theorem last_ne (l : List UInt8) (x : UInt8) : ∃ t : ByteArray, tx (l ++ [x]) = t ∧ t.size = l.length + 1 ∧ ch t l.length = x.toNat ∧ t.extract 0 l.length = tx l := ⟨_, rfl, by simp, ch_mid l x, cut_last l x⟩
theorem trimR_loop (r : List UInt8) (b : UInt8) (hb : b ≠ 48) : ∀ m, (r ++ b :: List.replicate m 48).length ≤ 1000000 → Exec T l0_strings_trimRightByte [(0, .v (.string (tx (r ++ b :: List.replicate m 48)))), (1, .v (.int .u8 48))] = some (.exit 0, [(0, .v (.string (tx (r ++ [b])))), (1, .v (.int .u8 48))]) := by
  intro m
  induction m with
  | zero =>
    intro hlen
    rw [List.replicate_zero] at hlen ⊢
    obtain ⟨t, ht, h1, h2, _⟩ := last_ne r b
    rw [ht]
    have hb2 : ¬ b.toNat = 48 := fun h => hb (UInt8.toNat_inj.1 h)
    have w1 : IntKind.i64.wrap (((r.length + 1 : Nat) : Int) - 1) = (r.length : Int) := by
      simp at hlen
      rw [wrap_i64] <;> omega
    rw [← h1] at w1
    have h3 : 0 < t.size := by omega
    have h4 : r.length < t.size := by omega
    rw [ex0_strings_trimRightByte]
    simp [h3, h4, w1, ch_eq, h2, hb2]
  | succ m ih =>
    intro hlen
    have e1 : r ++ b :: List.replicate (m + 1) 48 = (r ++ b :: List.replicate m 48) ++ [48] := by rw [List.replicate_succ', List.append_assoc, List.cons_append]
    rw [e1] at hlen ⊢
    have h0 := ih (by simp at hlen ⊢; omega)
    rw [← h0]
    obtain ⟨L, hL⟩ : ∃ L, r ++ b :: List.replicate m 48 = L := ⟨_, rfl⟩
    rw [hL] at hlen ⊢
    obtain ⟨t, ht, h1, h2, h5⟩ := last_ne L 48
    rw [ht]
    have w1 : IntKind.i64.wrap (((L.length + 1 : Nat) : Int) - 1) = (L.length : Int) := by
      simp at hlen
      rw [wrap_i64] <;> omega
    rw [← h1] at w1
    have h3 : 0 < t.size := by omega
    have h4 : L.length < t.size := by omega
    have h6 : L.length ≤ t.size := by omega
    have h7 : ch t L.length = 48 := h2
    rw [ex0_strings_trimRightByte]
    simp [h3, h4, h6, w1, ch_eq, h7, h5]
theorem c_TrimRight (r : List UInt8) (b : UInt8) (hb : b ≠ 48) (m : Nat) (h : (r ++ b :: List.replicate m 48).length ≤ 1000000) : Cinf T n_strings_TrimRight [.v (.string (tx (r ++ b :: List.replicate m 48))), .v (.string ⟨#[48]⟩)] = some (.v (.string (tx (r ++ [b]))), [.dead, .dead]) := by
  have h0 := trimR_loop r b hb m h
  have h1 : Cinf T n_strings_trimRightByte [.v (.string (tx (r ++ b :: List.replicate m 48))), .v (.int .u8 48)] = some (.v (.string (tx (r ++ [b]))), [.dead, .dead]) := by
    rw [run_strings_trimRightByte]
    simp [Run, h0]
  obtain ⟨t, ht⟩ : ∃ t, tx (r ++ b :: List.replicate m 48) = t := ⟨_, rfl⟩
  rw [ht] at h1 ⊢
  have hne : ¬ t = ⟨#[]⟩ := by
    rw [← ht]
    intro h
    have := congrArg ByteArray.size h
    rw [tx_size, List.length_append, List.length_cons] at this
    have e : (ByteArray.mk #[]).size = 0 := rfl
    omega
  have h48 : ¬ (ByteArray.mk #[48]) = ⟨#[]⟩ := by intro h; have := congrArg ByteArray.size h; exact absurd this (by decide)
  have hsz : (ByteArray.mk #[48]).size = 1 := rfl
  rw [run_strings_TrimRight]
  simp [Run, hne, h48, hsz, h1]
/-- Six digits behind the point. -/
def pad6 (n : Nat) : List UInt8 := List.replicate (6 - (digs n).length) 48 ++ digs n
theorem pad6_split {n : Nat} (h : n ≠ 0) : ∃ r b m, b ≠ 48 ∧ pad6 n = r ++ b :: List.replicate m 48 := by
  rcases split_zeros (pad6 n) with k | ⟨m, k⟩
  · exact k
  · have h1 := congrArg dV k
    rw [dV_zeros, pad6, dV_append, dV_zeros, digs_val] at h1
    omega
/-- What Print answers. -/
def prL (v : Int) : List UInt8 := (if v < 0 then [45] else []) ++ (digs (v.natAbs / 1000000) ++ (if v.natAbs % 1000000 = 0 then [] else 46 :: rtrim (pad6 (v.natAbs % 1000000))))
set_option maxHeartbeats 1000000 in
theorem c_fPrint (v : Int) (h1 : -9223372036854775808 ≤ v) (h2 : v < 9223372036854775808) : Cinf T n_fixed_Print [.v (.int .i64 v)] = some (.v (.string (tx (prL v))), [.dead]) := by
  have a1 := c_amount v h1 h2
  obtain ⟨n, hn⟩ : ∃ n, v.natAbs = n := ⟨_, rfl⟩
  rw [run_fixed_Print]
  unfold prL
  rw [hn] at a1 ⊢
  have hn2 : n ≤ 9223372036854775808 := by omega
  have q1 : (n : Int).tmod 1000000 = ((n % 1000000 : Nat) : Int) := rfl
  have q2 : (n : Int).tdiv 1000000 = ((n / 1000000 : Nat) : Int) := rfl
  have hd : n % 1000000 < 1000000 := Nat.mod_lt _ (by decide)
  obtain ⟨d, hde⟩ : ∃ d, n % 1000000 = d := ⟨_, rfl⟩
  obtain ⟨r, hre⟩ : ∃ r, n / 1000000 = r := ⟨_, rfl⟩
  rw [hde] at hd q1
  rw [hre] at q2
  rw [hde, hre]
  have w3 := u64_nat (k := r) (by omega)
  have q3 : binInt .quo .u64 n 1000000 = some (.int .u64 (r : Nat)) := by rw [binInt_quo, if_neg (by decide), q2, w3]
  have q4 : binInt .rem .u64 n 1000000 = some (.int .u64 (d : Nat)) := by rw [binInt_rem, if_neg (by decide), q1]
  have f1 := c_fmt r (by omega)
  have f2 := c_fmt d (by omega)
  have lr := digs_len 20 r (by decide) (Nat.lt_of_le_of_lt (show r ≤ 9223372036854775808 by omega) (by decide))
  have ld := digs_len 6 d (by decide) hd
  have em : (⟨#[45]⟩ : ByteArray) = tx [45] := rfl
  have ed : (⟨#[46]⟩ : ByteArray) = tx [46] := rfl
  by_cases hz : d = 0
  · have hz2 : ¬ 0 < d := by omega
    rw [if_pos hz, List.append_nil]
    have e1 : 1 + (digs r).length ≤ 9223372036854775807 := by omega
    by_cases hv : v < 0
    · simp [-binInt_quo, -binInt_rem, Run, a1, q3, q4, f1, hz2, hv, em, tx_append, e1]
    · simp [-binInt_quo, -binInt_rem, Run, a1, q3, q4, f1, hz2, hv, em, tx_append, e1]
  · have hz2 : 0 < d := by omega
    rw [if_neg hz]
    obtain ⟨m, hm⟩ : ∃ m, 6 - (digs d).length = m := ⟨_, rfl⟩
    have w6 : IntKind.i64.wrap (6 - ((digs d).length : Int)) = (m : Int) := by rw [wrap_i64] <;> omega
    have z1 := c_zeros m (by omega)
    obtain ⟨l, b, k, hb, hl⟩ := pad6_split hz
    rw [hl, rtrim_eq l b hb k]
    have hlen := congrArg List.length hl
    rw [pad6, hm] at hl hlen
    simp only [List.length_append, List.length_replicate, List.length_cons] at hlen
    have t1 := c_TrimRight l b hb k (by simp; omega)
    rw [← hl] at t1
    have e1 : m + (digs d).length ≤ 9223372036854775807 := by omega
    have e2 : 1 + (l.length + 1) ≤ 9223372036854775807 := by omega
    have e3 : (digs r).length + (l.length + 1 + 1) ≤ 9223372036854775807 := by omega
    have e4 : 1 + ((digs r).length + (l.length + 1 + 1)) ≤ 9223372036854775807 := by omega
    have e5 : (digs r).length + (l.length + 1 + 1) + 1 ≤ 9223372036854775807 := by omega
    by_cases hv : v < 0
    · simp [-binInt_quo, -binInt_rem, Run, a1, q3, q4, f1, f2, hz2, hv, em, ed, tx_append, w6, z1, e1, t1, e2, e3, e4, e5]
    · simp [-binInt_quo, -binInt_rem, Run, a1, q3, q4, f1, f2, hz2, hv, em, ed, tx_append, w6, z1, e1, t1, e2, e3, e4, e5]
end Go.AM.F

/- Read, by the document. No conditions. -/
namespace Go.AM.F
open Go Go.AM
set_option maxRecDepth 10000
set_option linter.unusedSimpArgs false
theorem dV_take_le (l : List UInt8) (i : Nat) : dV (l.take i) ≤ dV l := by
  have h := dV_append (l.take i) (l.drop i)
  rw [List.take_append_drop] at h
  have h2 := Nat.le_mul_of_pos_left (dV (l.take i)) (Nat.pow_pos (n := (l.drop i).length) (show 0 < 10 by decide))
  omega
end Go.AM.F

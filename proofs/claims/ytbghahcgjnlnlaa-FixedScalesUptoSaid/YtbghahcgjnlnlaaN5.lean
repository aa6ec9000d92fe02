/- Scale, the program's and the document's; FixedScales. No conditions. -/
import Derived.Test.YtbghahcgjnlnlaaN4
namespace Go.AM.F
open Go Go.AM
set_option maxRecDepth 10000
set_option linter.unusedSimpArgs false
attribute [local simp] j0_fixed_Scale j1_fixed_Scale b_fixed_Scale a_fixed_Scale j0_thicketref04_Scale j1_thicketref04_Scale b_thicketref04_Scale a_thicketref04_Scale
attribute [local simp] b_thicketlaw04_FixedScales a_thicketlaw04_FixedScales
/-- The sign of a product over a number. -/
def ngR (x y z : Int) : Bool := !decide ((decide (x < 0) == decide (y < 0)) = !decide (z < 0))
def scR (x y z : Int) : PV :=
  if z = 0 then .tup [.v (.int .i64 0), .v (.int .i64 2)]
  else if 9223372036854775808 < rnd (x.natAbs * y.natAbs) z.natAbs ∨ (rnd (x.natAbs * y.natAbs) z.natAbs = 9223372036854775808 ∧ ngR x y z = false) then .tup [.v (.int .i64 0), .v (.int .i64 41)]
  else .tup [.v (.int .i64 (if ngR x y z then -(rnd (x.natAbs * y.natAbs) z.natAbs : Int) else rnd (x.natAbs * y.natAbs) z.natAbs)), .v (.int .i64 0)]
theorem c_Scale (x y z : Int) (x1 : -9223372036854775808 ≤ x) (x2 : x < 9223372036854775808) (y1 : -9223372036854775808 ≤ y) (y2 : y < 9223372036854775808) (z1 : -9223372036854775808 ≤ z) (z2 : z < 9223372036854775808) :
    Cinf T n_fixed_Scale [.v (.int .i64 x), .v (.int .i64 y), .v (.int .i64 z)] = some (scR x y z, [.dead, .dead, .dead]) := by
  rw [run_fixed_Scale]
  unfold scR
  obtain ⟨N, hN⟩ : ∃ N, ngR x y z = N := ⟨_, rfl⟩
  rw [hN]
  unfold ngR at hN
  by_cases hz : z = 0
  · subst hz
    simp [Run]
  · have a1 := c_amount x x1 x2
    have a2 := c_amount y y1 y2
    have a3 := c_amount z z1 z2
    have hX : x.natAbs ≤ 9223372036854775808 := by omega
    have hY : y.natAbs ≤ 9223372036854775808 := by omega
    have hZ : z.natAbs ≤ 9223372036854775808 := by omega
    have hZ0 : z.natAbs ≠ 0 := by omega
    obtain ⟨X, eX⟩ : ∃ X, x.natAbs = X := ⟨_, rfl⟩
    obtain ⟨Y, eY⟩ : ∃ Y, y.natAbs = Y := ⟨_, rfl⟩
    obtain ⟨Z, eZ⟩ : ∃ Z, z.natAbs = Z := ⟨_, rfl⟩
    rw [eX] at a1 hX
    rw [eY] at a2 hY
    rw [eZ] at a3 hZ hZ0
    rw [eX, eY, eZ]
    have b1 := c_From X (by omega)
    have b2 := c_From Y (by omega)
    have b3 := c_From Z (by omega)
    have fX : Fit (limbs X) := fit_small 3 (Nat.lt_of_le_of_lt hX (by decide)) (by decide)
    have fY : Fit (limbs Y) := fit_small 3 (Nat.lt_of_le_of_lt hY (by decide)) (by decide)
    have fZ : Fit (limbs Z) := fit_small 3 (Nat.lt_of_le_of_lt hZ (by decide)) (by decide)
    have hXY : X * Y ≤ 9223372036854775808 * 9223372036854775808 := Nat.mul_le_mul hX hY
    have m1 := c_Mul (limbs X) (limbs Y) fX fY
    rw [val_limbs, val_limbs] at m1
    obtain ⟨A, hA⟩ : ∃ A, X * Y = A := ⟨_, rfl⟩
    rw [hA] at m1 hXY ⊢
    have fA : Fit (limbs A) := fit_small 5 (Nat.lt_of_le_of_lt hXY (by decide)) (by decide)
    have hm : A % Z < Z := Nat.mod_lt _ (by omega)
    have r1 := c_rounded A Z fA fZ hZ0 (fit_small 3 (Nat.lt_of_le_of_lt (show 2 * (A % Z) ≤ 18446744073709551616 by omega) (by decide)) (by decide))
    have hr := rnd_le A Z
    have hd : A / Z ≤ A := Nat.div_le_self _ _
    obtain ⟨m, hm2⟩ : ∃ m, rnd A Z = m := ⟨_, rfl⟩
    rw [hm2] at r1 hr ⊢
    have s1 := c_signed N m (fit_small 5 (Nat.lt_of_le_of_lt (show m ≤ 9223372036854775808 * 9223372036854775808 + 1 by omega) (by decide)) (by decide))
    rw [if_neg hz]
    unfold sgnR at s1
    by_cases hc : 9223372036854775808 < m ∨ (m = 9223372036854775808 ∧ N = false)
    · rw [if_pos hc] at s1
      rw [if_pos hc]
      simp [Run, hz, a1, a2, a3, b1, b2, b3, m1, r1, s1, hN]
    · rw [if_neg hc] at s1
      rw [if_neg hc]
      simp [Run, hz, a1, a2, a3, b1, b2, b3, m1, r1, s1, hN]
theorem c4_Scale (x y z : Int) (x1 : -9223372036854775808 ≤ x) (x2 : x < 9223372036854775808) (y1 : -9223372036854775808 ≤ y) (y2 : y < 9223372036854775808) (z1 : -9223372036854775808 ≤ z) (z2 : z < 9223372036854775808) :
    Cinf T n_thicketref04_Scale [.v (.int .i64 x), .v (.int .i64 y), .v (.int .i64 z)] = some (scR x y z, [.dead, .dead, .dead]) := by
  rw [run_thicketref04_Scale]
  unfold scR
  obtain ⟨N, hN⟩ : ∃ N, ngR x y z = N := ⟨_, rfl⟩
  rw [hN]
  unfold ngR at hN
  by_cases hz : z = 0
  · subst hz
    simp [Run]
  · have a1 := c4_amount x x1 x2
    have a2 := c4_amount y y1 y2
    have a3 := c4_amount z z1 z2
    have hX : x.natAbs ≤ 9223372036854775808 := by omega
    have hY : y.natAbs ≤ 9223372036854775808 := by omega
    have hZ : z.natAbs ≤ 9223372036854775808 := by omega
    have hZ0 : z.natAbs ≠ 0 := by omega
    obtain ⟨X, eX⟩ : ∃ X, x.natAbs = X := ⟨_, rfl⟩
    obtain ⟨Y, eY⟩ : ∃ Y, y.natAbs = Y := ⟨_, rfl⟩
    obtain ⟨Z, eZ⟩ : ∃ Z, z.natAbs = Z := ⟨_, rfl⟩
    rw [eX] at a1 hX
    rw [eY] at a2 hY
    rw [eZ] at a3 hZ hZ0
    rw [eX, eY, eZ]
    have b1 := c2_From X (by omega)
    have b2 := c2_From Y (by omega)
    have b3 := c2_From Z (by omega)
    have fX : Fit (limbs X) := fit_small 3 (Nat.lt_of_le_of_lt hX (by decide)) (by decide)
    have fY : Fit (limbs Y) := fit_small 3 (Nat.lt_of_le_of_lt hY (by decide)) (by decide)
    have hXY : X * Y ≤ 9223372036854775808 * 9223372036854775808 := Nat.mul_le_mul hX hY
    have m1 := c2_Product (limbs X) (limbs Y) fX fY
    rw [val_limbs, val_limbs] at m1
    obtain ⟨A, hA⟩ : ∃ A, X * Y = A := ⟨_, rfl⟩
    rw [hA] at m1 hXY ⊢
    have r1 := c4_Rounded A Z (Nat.lt_of_le_of_lt hXY (by decide)) hZ (by omega)
    have hg := rnd_ge A Z
    have hr := rnd_le A Z
    by_cases hb : nbits Z + 64 ≤ nbits A ∨ 9223372036854775808 < A / Z
    · have hq : 9223372036854775808 < A / Z := by
        rcases hb with hb | hb
        · refine quot_big ?_ hZ (by omega) hb
          rintro rfl
          rw [nbits_zero] at hb
          omega
        · exact hb
      rw [if_pos hb] at r1
      rw [if_neg hz, if_pos (.inl (by omega))]
      obtain ⟨j, s1⟩ := c4_signed N 0 (by decide)
      rw [if_neg (by omega)] at s1
      simp only [Int.natCast_zero] at s1
      simp [Run, hz, a1, a2, a3, b1, b2, b3, m1, r1, s1, hN]
    · rw [if_neg hb] at r1
      rw [if_neg hz]
      obtain ⟨m, hm2⟩ : ∃ m, rnd A Z = m := ⟨_, rfl⟩
      rw [hm2] at r1 hr hg ⊢
      obtain ⟨j, s1⟩ := c4_signed N m (by omega)
      by_cases hc : 9223372036854775808 < m ∨ (m = 9223372036854775808 ∧ N = false)
      · rw [if_pos hc] at s1
        rw [if_pos hc]
        simp [Run, hz, a1, a2, a3, b1, b2, b3, m1, r1, s1, hN]
      · rw [if_neg hc] at s1
        rw [if_neg hc]
        simp [Run, hz, a1, a2, a3, b1, b2, b3, m1, r1, s1, hN]
theorem c_FixedScales (x y z : Int) (x1 : -9223372036854775808 ≤ x) (x2 : x < 9223372036854775808) (y1 : -9223372036854775808 ≤ y) (y2 : y < 9223372036854775808) (z1 : -9223372036854775808 ≤ z) (z2 : z < 9223372036854775808) :
    Cinf T n_thicketlaw04_FixedScales [.v (.int .i64 x), .v (.int .i64 y), .v (.int .i64 z)] = some (.v (.bool true), [.dead, .dead, .dead]) := by
  have h1 := c_Scale x y z x1 x2 y1 y2 z1 z2
  have h2 := c4_Scale x y z x1 x2 y1 y2 z1 z2
  obtain ⟨v, e, he⟩ : ∃ v e : Int, scR x y z = .tup [.v (.int .i64 v), .v (.int .i64 e)] := by
    unfold scR
    split
    · exact ⟨_, _, rfl⟩
    · split
      · exact ⟨_, _, rfl⟩
      · exact ⟨_, _, rfl⟩
  rw [he] at h1 h2
  rw [run_thicketlaw04_FixedScales]
  simp [Run, h1, h2]
end Go.AM.F

/- Quotients as numbers: in lowest terms there is one of a value. No conditions. -/
import Derived.Test.YtfkgoofipbbhpaaDoorL34
namespace Go.AM.F
open Go Go.AM
set_option maxRecDepth 10000

/-- A number with its sign. -/
def sg (neg : Bool) (n : Nat) : Int := if neg then -(n : Int) else n
theorem sg_abs (neg : Bool) (n : Nat) : (sg neg n).natAbs = n := by cases neg <;> simp [sg]
theorem sg_zero (neg : Bool) : sg neg 0 = 0 := by cases neg <;> simp [sg]
theorem sg_neg {neg : Bool} {n : Nat} (h : n ≠ 0) : decide (sg neg n < 0) = neg := by
  cases neg <;> simp [sg] <;> omega
theorem sg_not (neg : Bool) (n : Nat) : sg (!neg) n = - sg neg n := by cases neg <;> simp [sg]
theorem sg_of (z : Int) : sg (decide (z < 0)) z.natAbs = z := by
  unfold sg
  by_cases h : z < 0
  · simp [h]; omega
  · simp [h]; omega
/-- The value in lowest terms: its numerator's amount, its denominator. -/
def cnN (z : Int) (d : Nat) : Nat := z.natAbs / Nat.gcd z.natAbs d
def cdN (z : Int) (d : Nat) : Nat := d / Nat.gcd z.natAbs d
def cbN (z : Int) : Bool := decide (z < 0)
def canR (z : Int) (d : Nat) : PV := rat (cbN z) (cnN z d) (cdN z d)
theorem rightR_can (neg : Bool) (n d : Nat) (hd : 0 < d) : rightR neg n d = canR (sg neg n) d := by
  unfold rightR canR cnN cdN cbN
  rw [sg_abs]
  by_cases h : n = 0
  · subst h
    rw [if_pos rfl, sg_zero, Nat.gcd_zero_left, Nat.zero_div, Nat.div_self hd]
    rfl
  · rw [if_neg h, sg_neg h]
theorem frac_eq {n d n' d' : Nat} (hd : 0 < d) (hd' : 0 < d') (h : n * d' = n' * d) : n / Nat.gcd n d = n' / Nat.gcd n' d' ∧ d / Nat.gcd n d = d' / Nat.gcd n' d' := by
  have hg : 0 < Nat.gcd n d := Nat.gcd_pos_of_pos_right n hd
  have hg' : 0 < Nat.gcd n' d' := Nat.gcd_pos_of_pos_right n' hd'
  have c := Nat.coprime_div_gcd_div_gcd hg
  have c' := Nat.coprime_div_gcd_div_gcd hg'
  have e1 := Nat.div_mul_cancel (Nat.gcd_dvd_left n d)
  have e2 := Nat.div_mul_cancel (Nat.gcd_dvd_right n d)
  have e3 := Nat.div_mul_cancel (Nat.gcd_dvd_left n' d')
  have e4 := Nat.div_mul_cancel (Nat.gcd_dvd_right n' d')
  obtain ⟨g, hge⟩ : ∃ g, Nat.gcd n d = g := ⟨_, rfl⟩
  obtain ⟨g', hge'⟩ : ∃ g, Nat.gcd n' d' = g := ⟨_, rfl⟩
  rw [hge] at hg c e1 e2 ⊢
  rw [hge'] at hg' c' e3 e4 ⊢
  obtain ⟨a, ha⟩ : ∃ a, n / g = a := ⟨_, rfl⟩
  obtain ⟨b, hb⟩ : ∃ b, d / g = b := ⟨_, rfl⟩
  obtain ⟨a', ha'⟩ : ∃ a, n' / g' = a := ⟨_, rfl⟩
  obtain ⟨b', hb'⟩ : ∃ b, d' / g' = b := ⟨_, rfl⟩
  rw [ha] at c e1 ⊢
  rw [hb] at c e2 ⊢
  rw [ha'] at c' e3 ⊢
  rw [hb'] at c' e4 ⊢
  have hx : a * b' = a' * b := by
    have h1 : (a * b') * (g * g') = (a' * b) * (g * g') := by
      rw [← e1, ← e2, ← e3, ← e4] at h
      calc (a * b') * (g * g') = (a * g) * (b' * g') := by simp only [Nat.mul_assoc, Nat.mul_left_comm, Nat.mul_comm]
        _ = (a' * g') * (b * g) := h
        _ = (a' * b) * (g * g') := by simp only [Nat.mul_assoc, Nat.mul_left_comm, Nat.mul_comm]
    exact Nat.eq_of_mul_eq_mul_right (Nat.mul_pos hg hg') h1
  have hb0 : 0 < b := by
    rcases Nat.eq_zero_or_pos b with h0 | h0
    · rw [h0, Nat.zero_mul] at e2; omega
    · exact h0
  have d1 : b ∣ b' := c.symm.dvd_of_dvd_mul_left (by rw [hx]; exact Nat.dvd_mul_left b a')
  have d2 : b' ∣ b := c'.symm.dvd_of_dvd_mul_left (by rw [← hx]; exact Nat.dvd_mul_left b' a)
  have hbb := Nat.dvd_antisymm d1 d2
  subst hbb
  exact ⟨Nat.eq_of_mul_eq_mul_right hb0 hx, rfl⟩
/-- One value, one form. -/
theorem can_eq {z z' : Int} {d d' : Nat} (hd : 0 < d) (hd' : 0 < d') (h : z * d' = z' * d) : canR z d = canR z' d' := by
  have h1 : z.natAbs * d' = z'.natAbs * d := by
    have := congrArg Int.natAbs h
    rwa [Int.natAbs_mul, Int.natAbs_mul, Int.natAbs_natCast, Int.natAbs_natCast] at this
  obtain ⟨e1, e2⟩ := frac_eq hd hd' h1
  have hs : cbN z = cbN z' := by
    unfold cbN
    have p1 : (z * d' < 0) ↔ z < 0 := by
      constructor
      · intro k
        refine Classical.byContradiction fun k2 => ?_
        have := Int.mul_nonneg (show 0 ≤ z by omega) (show (0 : Int) ≤ (d' : Int) by omega)
        omega
      · intro k
        exact Int.mul_neg_of_neg_of_pos k (by omega)
    have p2 : (z' * d < 0) ↔ z' < 0 := by
      constructor
      · intro k
        refine Classical.byContradiction fun k2 => ?_
        have := Int.mul_nonneg (show 0 ≤ z' by omega) (show (0 : Int) ≤ (d : Int) by omega)
        omega
      · intro k
        exact Int.mul_neg_of_neg_of_pos k (by omega)
    rw [h] at p1
    exact decide_eq_decide.2 (p1.symm.trans p2)
  unfold canR cnN cdN
  rw [hs, e1, e2]
/-- The lowest terms are of the same value. -/
theorem can_val (z : Int) {d : Nat} (hd : 0 < d) : sg (cbN z) (cnN z d) * d = z * cdN z d ∧ 0 < cdN z d := by
  unfold cbN cnN cdN
  have hg : 0 < Nat.gcd z.natAbs d := Nat.gcd_pos_of_pos_right _ hd
  have e1 := Nat.div_mul_cancel (Nat.gcd_dvd_left z.natAbs d)
  have e2 := Nat.div_mul_cancel (Nat.gcd_dvd_right z.natAbs d)
  obtain ⟨g, hge⟩ : ∃ g, Nat.gcd z.natAbs d = g := ⟨_, rfl⟩
  rw [hge] at hg e1 e2 ⊢
  obtain ⟨a, ha⟩ : ∃ a, z.natAbs / g = a := ⟨_, rfl⟩
  obtain ⟨b, hb⟩ : ∃ b, d / g = b := ⟨_, rfl⟩
  rw [ha] at e1 ⊢
  rw [hb] at e2 ⊢
  refine ⟨?_, ?_⟩
  · have hz : z = sg (decide (z < 0)) (a * g) := by rw [e1, sg_of]
    have hs : sg (decide (z < 0)) (a * g) = sg (decide (z < 0)) a * g := by
      unfold sg
      split <;> simp [Int.natCast_mul, Int.neg_mul]
    obtain ⟨s, hse⟩ : ∃ s, decide (z < 0) = s := ⟨_, rfl⟩
    rw [hse] at hz hs ⊢
    rw [hs] at hz
    rw [← e2, hz, Int.natCast_mul, Int.mul_assoc, Int.mul_comm (g : Int)]
  · rcases Nat.eq_zero_or_pos b with h0 | h0
    · rw [h0, Nat.zero_mul] at e2; omega
    · exact h0
/-- A value in lowest terms, once more. -/
theorem can_can (z : Int) {d : Nat} (hd : 0 < d) : canR (sg (cbN z) (cnN z d)) (cdN z d) = canR z d := by
  obtain ⟨h1, h2⟩ := can_val z hd
  exact can_eq h2 hd h1
theorem cnN_le (z : Int) (d : Nat) : cnN z d ≤ z.natAbs := Nat.div_le_self _ _
theorem cdN_le (z : Int) (d : Nat) : cdN z d ≤ d := Nat.div_le_self _ _
theorem cn_zero {z : Int} {d : Nat} (hd : 0 < d) : cnN z d = 0 ↔ z = 0 := by
  obtain ⟨h1, h2⟩ := can_val z hd
  constructor
  · intro h
    rw [h, sg_zero, Int.zero_mul] at h1
    have := Int.mul_eq_zero.1 h1.symm
    omega
  · rintro rfl
    unfold cnN
    simp
theorem plus_val {z1 z2 s1 s2 : Int} {d1 d2 q1 q2 : Nat} (h1 : s1 * d1 = z1 * q1) (h2 : s2 * d2 = z2 * q2) : (s1 * q2 + s2 * q1) * ((d1 * d2 : Nat) : Int) = (z1 * d2 + z2 * d1) * ((q1 * q2 : Nat) : Int) := by
  rw [Int.natCast_mul, Int.natCast_mul]
  grind
theorem times_val {z1 z2 s1 s2 : Int} {d1 d2 q1 q2 : Nat} (h1 : s1 * d1 = z1 * q1) (h2 : s2 * d2 = z2 * q2) : (s1 * s2) * ((d1 * d2 : Nat) : Int) = (z1 * z2) * ((q1 * q2 : Nat) : Int) := by
  rw [Int.natCast_mul, Int.natCast_mul]
  grind
end Go.AM.F

/- Quotients in lowest terms. No conditions. -/
import Derived.Test.YtlokekpiajholaaDoorL28
import Derived.Test.YtlokekpiajholaaDoorL14
namespace Go.AM.F
open Go Go.AM
set_option maxRecDepth 10000
set_option linter.unusedSimpArgs false
attribute [local simp] j0_limbs_right b_limbs_right a_limbs_right j0_limbs_Over b_limbs_Over a_limbs_Over
/-- A quotient, owned; as it is handed in. -/
def rat (neg : Bool) (n d : Nat) : PV := .agg [.v (.bool neg), .own 1 (ul (limbs n)), .own 1 (ul (limbs d))]
def ratA (neg : Bool) (n d : List Nat) : PV := .agg [.v (.bool neg), .ro 1 (ul n), .ro 1 (ul d)]
def rightR (neg : Bool) (n d : Nat) : PV := if n = 0 then rat false 0 1 else rat neg (n / Nat.gcd n d) (d / Nat.gcd n d)
def overR (neg : Bool) (n d : Nat) : PV := if d = 0 then .tup [rat false 0 0, .v (.int .i64 11)] else .tup [rightR neg n d, .v (.int .i64 0)]
theorem c_right (neg : Bool) (n d : List Nat) (hn : Fit n) (hd : Fit d) (h0 : val d ≠ 0) : Cinf T n_limbs_right [.v (.bool neg), .ro 1 (ul n), .ro 1 (ul d)] = some (rightR neg (val n) (val d), [.dead, .dead, .dead]) := by
  have t1 := c_trim n hn.2
  rw [← limbs_val hn.1] at t1
  have h1 := c_Gcd n d hn hd
  obtain ⟨g, hg⟩ : ∃ g, Nat.gcd (val n) (val d) = g := ⟨_, rfl⟩
  have hg0 : g ≠ 0 := by
    rw [← hg]
    intro h
    exact h0 (Nat.eq_zero_of_gcd_eq_zero_right h)
  have hgd : g ≤ val d := by rw [← hg]; exact Nat.gcd_le_right _ (by omega)
  have hgl := limbs_le hd.1 hgd
  have fg : Fit (limbs g) := ⟨limbs_lim _, by have := hd.2; omega⟩
  rw [hg] at h1
  have h2 := c_DivMod n (limbs g) hn fg
  have h3 := c_DivMod d (limbs g) hd fg
  rw [val_limbs, divR_pos hg0] at h2 h3
  unfold rightR
  rw [run_limbs_right]
  by_cases hv : val n = 0
  · rw [if_pos hv]
    rw [hv, limbs_zero, ul_nil] at t1
    simp [Run, rat, limbs_zero, limbs_one, t1]
  · rw [if_neg hv, hg]
    have hne : ¬ limbs (val n) = [] := by rw [limbs_pos hv]; simp
    simp [Run, rat, t1, hne, h1, h2, h3]
theorem c_Over (neg : Bool) (n d : List Nat) (hn : Fit n) (hd : Fit d) : Cinf T n_limbs_Over [.v (.bool neg), .ro 1 (ul n), .ro 1 (ul d)] = some (overR neg (val n) (val d), [.dead, .dead, .dead]) := by
  have t1 := c_trim d hd.2
  rw [← limbs_val hd.1] at t1
  unfold overR
  rw [run_limbs_Over]
  by_cases hv : val d = 0
  · rw [if_pos hv]
    rw [hv, limbs_zero, ul_nil] at t1
    simp [Run, rat, limbs_zero, t1]
  · rw [if_neg hv]
    have hne : ¬ limbs (val d) = [] := by rw [limbs_pos hv]; simp
    have h1 := c_right neg n d hn hd hv
    unfold rightR at h1 ⊢
    by_cases hz : val n = 0
    · rw [if_pos hz] at h1 ⊢
      simp only [rat] at h1 ⊢
      simp [Run, t1, hne, h1]
    · rw [if_neg hz] at h1 ⊢
      simp only [rat] at h1 ⊢
      simp [Run, t1, hne, h1]
theorem nbits_eq_zero {v : Nat} : nbits v = 0 ↔ v = 0 := by
  constructor
  · intro h
    refine Classical.byContradiction fun h0 => ?_
    rw [nbits_pos h0] at h
    omega
  · rintro rfl; exact nbits_zero
end Go.AM.F

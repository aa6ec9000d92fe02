/- Every Add, Sub, Mul. No conditions. -/
import Derived.Test.YtfkgoofipbbhpaaDoorL0
import Derived.Test.YtfkgoofipbbhpaaDoorL11
namespace Go.AM.F
open Go Go.AM
set_option maxRecDepth 10000
set_option linter.unusedSimpArgs false
attribute [local simp] j0_thicketref01_Same j1_thicketref01_Same w0_thicketref01_Same j2_thicketref01_Same j3_thicketref01_Same b_thicketref01_Same a_thicketref01_Same b_thicketlaw01_LimbsSums a_thicketlaw01_LimbsSums

theorem same_loop (l : List Nat) (hl : l.length ≤ 4398046511104) : ∀ (n k : Nat), l.length - k = n → k ≤ l.length →
    Exec T l0_thicketref01_Same [(0, .ro 1 (ul l)), (1, .ro 1 (ul l)), (12, .v (.int .i64 l.length)), (13, .v (.int .i64 k))] = some (.exit 0, [(0, .ro 1 (ul l)), (1, .ro 1 (ul l)), (12, .v (.int .i64 l.length)), (13, .v (.int .i64 l.length))]) := by
  intro n
  induction n with
  | zero =>
    intro k hn hk
    obtain rfl : k = l.length := by omega
    rw [ex0_thicketref01_Same]
    simp
  | succ n ih =>
    intro k hn hk
    have hlt : k < l.length := by omega
    have hw := wrap_succ hlt (by omega)
    have h0 := ih (k + 1) (by omega) (by omega)
    rw [succ_cast] at h0
    rw [ex0_thicketref01_Same, ← h0]
    simp [hlt, hw]
theorem c_Same (l : List Nat) (hl : l.length ≤ 4398046511104) : Cinf T n_thicketref01_Same [.ro 1 (ul l), .ro 1 (ul l)] = some (.v (.bool true), [.dead, .dead]) := by
  have h := same_loop l hl l.length 0 rfl (Nat.zero_le _)
  simp only [Int.natCast_zero] at h
  rw [run_thicketref01_Same]
  simp [Run, h]
theorem limbs_add_len {a b : List Nat} (ha : Lim a) (hb : Lim b) : (limbs (val a + val b)).length ≤ a.length + b.length + 1 := by
  refine limbs_len_le ?_
  have h1 := val_lt ha
  have h2 := val_lt hb
  have h3 : 4294967296 ^ a.length ≤ 4294967296 ^ (a.length + b.length) := Nat.pow_le_pow_right (by omega) (by omega)
  have h4 : 4294967296 ^ b.length ≤ 4294967296 ^ (a.length + b.length) := Nat.pow_le_pow_right (by omega) (by omega)
  rw [Nat.pow_succ]
  omega
theorem limbs_mul_len {a b : List Nat} (ha : Lim a) (hb : Lim b) : (limbs (val a * val b)).length ≤ a.length + b.length := by
  refine limbs_len_le ?_
  rw [Nat.pow_add]
  exact Nat.mul_lt_mul_of_lt_of_le (val_lt ha) (Nat.le_of_lt (val_lt hb)) (Nat.pow_pos (by omega))
theorem limbs_sub_len {a b : List Nat} (ha : Lim a) : (limbs (val a - val b)).length ≤ a.length :=
  limbs_len_le (Nat.lt_of_le_of_lt (Nat.sub_le _ _) (val_lt ha))
theorem c_LimbsSums (a b : List Nat) (ha : Lim a) (hb : Lim b) (la : a.length ≤ 16777216) (lb : b.length ≤ 16777216) : ∃ backs, Cinf T n_thicketlaw01_LimbsSums [.ro 1 (ul a), .ro 1 (ul b)] = some (.v (.bool true), backs) := by
  have fa : Fit a := ⟨ha, by omega⟩
  have fb : Fit b := ⟨hb, by omega⟩
  have h1 := c_Sub a b fa fb
  have h2 := c_rSub a b fa fb
  have h3 := c_Add a b fa fb
  have h4 := c_rAdd a b fa fb (by omega)
  have h5 := c_Mul a b fa fb
  have h6 := c_rMul a b fa fb (by omega)
  have s1 := c_Same (limbs (val a + val b)) (by have := limbs_add_len ha hb; omega)
  have s2 := c_Same (limbs (val a * val b)) (by have := limbs_mul_len ha hb; omega)
  rw [run_thicketlaw01_LimbsSums]
  unfold subR at h1 h2
  by_cases h : val a < val b
  · rw [if_pos h] at h1 h2
    have s3 := c_Same [] (by simp)
    simp at s3
    exact ⟨_, by simp [Run, c_lives, h1, h2, h3, h4, h5, h6, s1, s2, s3]; rfl⟩
  · rw [if_neg h] at h1 h2
    have s3 := c_Same (limbs (val a - val b)) (by have := limbs_sub_len (b := b) ha; omega)
    exact ⟨_, by simp [Run, c_lives, h1, h2, h3, h4, h5, h6, s1, s2, s3]; rfl⟩
end Go.AM.F

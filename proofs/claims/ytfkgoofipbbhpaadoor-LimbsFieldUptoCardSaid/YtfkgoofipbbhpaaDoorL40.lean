/- The laws of quotients, without the document. No conditions. -/
import Derived.Test.YtfkgoofipbbhpaaDoorL39
namespace Go.AM.F
open Go Go.AM
set_option maxRecDepth 10000
set_option linter.unusedSimpArgs false
attribute [local simp] j0_thicketlaw01_LimbsField j1_thicketlaw01_LimbsField j2_thicketlaw01_LimbsField j3_thicketlaw01_LimbsField j4_thicketlaw01_LimbsField b_thicketlaw01_LimbsField a_thicketlaw01_LimbsField

/-- A value as it is handed on: in lowest terms, lent. -/
def canA (z : Int) (d : Nat) : PV := ratA (cbN z) (limbs (cnN z d)) (limbs (cdN z d))
/-- A value whose parts are no longer than so many limbs. -/
structure Rt (z : Int) (d k : Nat) : Prop where
  pos : 0 < d
  num : (limbs z.natAbs).length ≤ k
  den : (limbs d).length ≤ k
theorem Rt.num' {z : Int} {d k : Nat} (h : Rt z d k) : (limbs (cnN z d)).length ≤ k := Nat.le_trans (limbs_mono (cnN_le z d)) h.num
theorem Rt.den' {z : Int} {d k : Nat} (h : Rt z d k) : (limbs (cdN z d)).length ≤ k := Nat.le_trans (limbs_mono (cdN_le z d)) h.den
theorem Rt.plus {z z' : Int} {d d' k k' : Nat} (h : Rt z d k) (h' : Rt z' d' k') : Rt (z * d' + z' * d) (d * d') (2 * (k + k') + 1) := by
  refine ⟨Nat.mul_pos h.pos h'.pos, ?_, ?_⟩
  · have e : (z * d' + z' * d).natAbs ≤ z.natAbs * d' + z'.natAbs * d := by
      refine Nat.le_trans (Int.natAbs_add_le _ _) ?_
      rw [Int.natAbs_mul, Int.natAbs_mul, Int.natAbs_natCast, Int.natAbs_natCast]
      exact Nat.le_refl _
    have m1 := len_mul z.natAbs d'
    have m2 := len_mul z'.natAbs d
    have m3 := len_add (z.natAbs * d') (z'.natAbs * d)
    have := limbs_mono e
    have := h.num
    have := h.den
    have := h'.num
    have := h'.den
    omega
  · have := len_mul d d'
    have := h.den
    have := h'.den
    omega
theorem Rt.times {z z' : Int} {d d' k k' : Nat} (h : Rt z d k) (h' : Rt z' d' k') : Rt (z * z') (d * d') (2 * (k + k') + 1) := by
  refine ⟨Nat.mul_pos h.pos h'.pos, ?_, ?_⟩
  · rw [Int.natAbs_mul]
    have := len_mul z.natAbs z'.natAbs
    have := h.num
    have := h'.num
    omega
  · have := len_mul d d'
    have := h.den
    have := h'.den
    omega
theorem Rt.neg {z : Int} {d k : Nat} (h : Rt z d k) : Rt (-z) d k := ⟨h.pos, by rw [Int.natAbs_neg]; exact h.num, h.den⟩
section
variable {z z' : Int} {d d' k k' : Nat}
theorem c_PlusC (h : Rt z d k) (h' : Rt z' d' k') (hk : k ≤ 1073741824) (hk' : k' ≤ 1073741824) : Cinf T n_limbs_Plus [canA z d, canA z' d'] = some (.tup [canR (z * d' + z' * d) (d * d'), .v (.int .i64 0)], [.dead, .dead]) := by
  have := c_Plus (cbN z) (cbN z') (limbs (cnN z d)) (limbs (cdN z d)) (limbs (cnN z' d')) (limbs (cdN z' d')) (limbs_lim _) (limbs_lim _) (limbs_lim _) (limbs_lim _) (by have := h.num'; omega) (by have := h.den'; omega) (by have := h'.num'; omega) (by have := h'.den'; omega)
  obtain ⟨v1, p1⟩ := can_val z h.pos
  obtain ⟨v2, p2⟩ := can_val z' h'.pos
  simp only [val_limbs] at this
  unfold plusR at this
  rw [if_neg (by omega), can_eq (Nat.mul_pos p1 p2) (Nat.mul_pos h.pos h'.pos) (plus_val v1 v2)] at this
  exact this
theorem c_MinusC (h : Rt z d k) (h' : Rt z' d' k') (hk : k ≤ 1073741824) (hk' : k' ≤ 1073741824) : Cinf T n_limbs_Minus [canA z d, canA z' d'] = some (.tup [canR (z * d' + -z' * d) (d * d'), .v (.int .i64 0)], [.dead, .dead]) := by
  have := c_Minus (cbN z) (cbN z') (limbs (cnN z d)) (limbs (cdN z d)) (limbs (cnN z' d')) (limbs (cdN z' d')) (limbs_lim _) (limbs_lim _) (limbs_lim _) (limbs_lim _) (by have := h.num'; omega) (by have := h.den'; omega) (by have := h'.num'; omega) (by have := h'.den'; omega)
  obtain ⟨v1, p1⟩ := can_val z h.pos
  obtain ⟨v2, p2⟩ := can_val z' h'.pos
  simp only [val_limbs] at this
  unfold plusR at this
  rw [if_neg (by omega), sg_not, can_eq (Nat.mul_pos p1 p2) (Nat.mul_pos h.pos h'.pos) (plus_val v1 (show -sg (cbN z') (cnN z' d') * (d' : Nat) = -z' * (cdN z' d' : Nat) by rw [Int.neg_mul, Int.neg_mul, v2]))] at this
  exact this
theorem c_TimesC (h : Rt z d k) (h' : Rt z' d' k') (hk : k ≤ 1073741824) (hk' : k' ≤ 1073741824) : Cinf T n_limbs_Times [canA z d, canA z' d'] = some (.tup [canR (z * z') (d * d'), .v (.int .i64 0)], [.dead, .dead]) := by
  have := c_Times (neg1 := cbN z) (neg2 := cbN z') (limbs_lim (cnN z d)) (limbs_lim (cdN z d)) (limbs_lim (cnN z' d')) (limbs_lim (cdN z' d')) (by have := h.num'; omega) (by have := h.den'; omega) (by have := h'.num'; omega) (by have := h'.den'; omega)
  obtain ⟨v1, p1⟩ := can_val z h.pos
  obtain ⟨v2, p2⟩ := can_val z' h'.pos
  simp only [val_limbs] at this
  unfold timesR at this
  rw [if_neg (by omega), can_eq (Nat.mul_pos p1 p2) (Nat.mul_pos h.pos h'.pos) (times_val v1 v2)] at this
  exact this
/-- A quotient of two: by 0 it is a fault; else it is what, times the second, is the first. -/
theorem c_ByC (h : Rt z d k) (h' : Rt z' d' k') (hk : k ≤ 1073741824) (hk' : k' ≤ 1073741824) : if z' = 0 then Cinf T n_limbs_By [canA z d, canA z' d'] = some (.tup [rat false 0 0, .v (.int .i64 11)], [.dead, .dead])
    else ∃ y e, Cinf T n_limbs_By [canA z d, canA z' d'] = some (.tup [canR y e, .v (.int .i64 0)], [.dead, .dead]) ∧ Rt y e (k + k') ∧ y * (z' * d) = z * d' * e := by
  have := c_By (neg1 := cbN z) (neg2 := cbN z') (limbs_lim (cnN z d)) (limbs_lim (cdN z d)) (limbs_lim (cnN z' d')) (limbs_lim (cdN z' d')) (by have := h.num'; omega) (by have := h.den'; omega) (by have := h'.num'; omega) (by have := h'.den'; omega)
  obtain ⟨v1, p1⟩ := can_val z h.pos
  obtain ⟨v2, p2⟩ := can_val z' h'.pos
  have hz := cn_zero (z := z') h'.pos
  simp only [val_limbs] at this
  unfold byR at this
  split
  · rename_i h0
    rw [if_pos (.inr (.inr (hz.2 h0)))] at this
    exact this
  · rename_i h0
    have hn : cnN z' d' ≠ 0 := fun e => h0 (hz.1 e)
    rw [if_neg (by omega)] at this
    refine ⟨_, _, this, ⟨Nat.mul_pos p1 (by omega), ?_, ?_⟩, ?_⟩
    · rw [sg_abs]
      have := len_mul (cnN z d) (cdN z' d')
      have := h.num'
      have := h'.den'
      omega
    · have := len_mul (cdN z d) (cnN z' d')
      have := h.den'
      have := h'.num'
      omega
    · rw [sg_sx_one, sg_mul]
      have hz' : z' = sg (cbN z') z'.natAbs := (sg_of z').symm
      have hone : sg (cbN z') 1 * sg (cbN z') 1 = 1 := by cases cbN z' <;> rfl
      have hs : sg (cbN z') (cnN z' d') = (cnN z' d' : Nat) * sg (cbN z') 1 := by
        rw [show cnN z' d' = 1 * cnN z' d' by omega, sg_mul, Int.mul_comm]
        simp
      rw [hs] at v2
      rw [Int.natCast_mul]
      grind
theorem c_OrderC (h : Rt z d k) (h' : Rt z' d' k') (hk : k ≤ 1073741824) (hk' : k' ≤ 1073741824) : ∃ w : Int, Cinf T n_limbs_Order [canA z d, canA z' d'] = some (.tup [.v (.int .i64 (sgnZ w)), .v (.int .i64 0)], [.dead, .dead]) ∧ w * (d * d') = (z * d' - z' * d) * (cdN z d * cdN z' d') := by
  have := c_Order (neg1 := cbN z) (neg2 := cbN z') (limbs_lim (cnN z d)) (limbs_lim (cdN z d)) (limbs_lim (cnN z' d')) (limbs_lim (cdN z' d')) (by have := h.num'; omega) (by have := h.den'; omega) (by have := h'.num'; omega) (by have := h'.den'; omega)
  obtain ⟨v1, p1⟩ := can_val z h.pos
  obtain ⟨v2, p2⟩ := can_val z' h'.pos
  simp only [val_limbs] at this
  unfold orderR at this
  rw [if_neg (by omega)] at this
  exact ⟨_, this, by grind⟩
end
end Go.AM.F

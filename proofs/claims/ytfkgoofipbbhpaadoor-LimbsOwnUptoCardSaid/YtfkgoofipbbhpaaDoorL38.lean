/- Products, quotients, orders of quotients; every operation on them. No conditions. -/
import Derived.Test.YtfkgoofipbbhpaaDoorL37
import Derived.Test.YtfkgoofipbbhpaaDoorL12
import Derived.Test.YtfkgoofipbbhpaaDoorL0
namespace Go.AM.F
open Go Go.AM
set_option maxRecDepth 10000
set_option linter.unusedSimpArgs false
attribute [local simp] j0_limbs_Times b_limbs_Times a_limbs_Times j0_limbs_By b_limbs_By a_limbs_By j0_thicketref01_Times b_thicketref01_Times a_thicketref01_Times j0_thicketref01_By b_thicketref01_By a_thicketref01_By j0_limbs_Order b_limbs_Order a_limbs_Order j0_thicketref01_Order j1_thicketref01_Order b_thicketref01_Order a_thicketref01_Order j0_limbs_Whole b_limbs_Whole a_limbs_Whole j0_thicketref01_Whole b_thicketref01_Whole a_thicketref01_Whole b_thicketref01_Alike a_thicketref01_Alike

/-- Two signs under a product. -/
def sx (s t : Bool) : Bool := !decide (s = t)
theorem sg_sx (s t : Bool) (a b : Nat) : sg (sx s t) (a * b) = sg s a * sg t b := by
  cases s <;> cases t <;> simp [sg, sx, Int.neg_mul, Int.mul_neg]
def timesR (neg1 : Bool) (n1 d1 : Nat) (neg2 : Bool) (n2 d2 : Nat) : PV := if d1 = 0 ∨ d2 = 0 then .tup [rat false 0 0, .v (.int .i64 11)] else .tup [canR (sg neg1 n1 * sg neg2 n2) (d1 * d2), .v (.int .i64 0)]
def byR (neg1 : Bool) (n1 d1 : Nat) (neg2 : Bool) (n2 d2 : Nat) : PV := if d1 = 0 ∨ d2 = 0 ∨ n2 = 0 then .tup [rat false 0 0, .v (.int .i64 11)] else .tup [canR (sg (sx neg1 neg2) (n1 * d2)) (d1 * n2), .v (.int .i64 0)]
theorem by_val {neg2 : Bool} {z1 s1 : Int} {n2 d1 d2 q1 p2 q2 : Nat} (h1 : s1 * d1 = z1 * q1) (h2 : p2 * d2 = n2 * q2) : (s1 * q2 * sg neg2 1) * ((d1 * n2 : Nat) : Int) = (z1 * d2 * sg neg2 1) * ((q1 * p2 : Nat) : Int) := by
  have h3 : (p2 : Int) * d2 = n2 * q2 := by exact_mod_cast h2
  rw [Int.natCast_mul, Int.natCast_mul]
  grind
theorem sg_sx_one (s t : Bool) (a : Nat) : sg (sx s t) a = sg s a * sg t 1 := by rw [← sg_sx, Nat.mul_one]
section
variable {neg1 neg2 : Bool} {n1 d1 n2 d2 : List Nat}
theorem c_Times (h1 : Lim n1) (h2 : Lim d1) (h3 : Lim n2) (h4 : Lim d2) (l1 : n1.length ≤ 1073741824) (l2 : d1.length ≤ 1073741824) (l3 : n2.length ≤ 1073741824) (l4 : d2.length ≤ 1073741824) :
    Cinf T n_limbs_Times [ratA neg1 n1 d1, ratA neg2 n2 d2] = some (timesR neg1 (val n1) (val d1) neg2 (val n2) (val d2), [.dead, .dead]) := by
  have hb := c_both neg1 neg2 n1 d1 n2 d2 ⟨h1, by omega⟩ ⟨h2, by omega⟩ ⟨h3, by omega⟩ ⟨h4, by omega⟩
  rw [run_limbs_Times]
  unfold bothR at hb
  unfold timesR
  by_cases e1 : val d1 = 0
  · rw [if_pos e1] at hb
    rw [if_pos (.inl e1)]
    simp only [ratA, ratF] at hb ⊢
    simp [Run, rat, limbs_zero, hb]
  rw [if_neg e1] at hb
  by_cases e2 : val d2 = 0
  · rw [if_pos e2] at hb
    rw [if_pos (.inr e2)]
    simp only [ratA, canR, rat, limbs_zero, ul_nil] at hb ⊢
    simp [Run, hb]
  rw [if_neg e2] at hb
  rw [if_neg (by omega)]
  obtain ⟨v1, p1⟩ := can_val (sg neg1 (val n1)) (d := val d1) (by omega)
  obtain ⟨v2, p2⟩ := can_val (sg neg2 (val n2)) (d := val d2) (by omega)
  have b1 := limbs_le h1 (v := cnN (sg neg1 (val n1)) (val d1)) (by have := cnN_le (sg neg1 (val n1)) (val d1); rwa [sg_abs] at this)
  have b2 := limbs_le h2 (v := cdN (sg neg1 (val n1)) (val d1)) (cdN_le _ _)
  have b3 := limbs_le h3 (v := cnN (sg neg2 (val n2)) (val d2)) (by have := cnN_le (sg neg2 (val n2)) (val d2); rwa [sg_abs] at this)
  have b4 := limbs_le h4 (v := cdN (sg neg2 (val n2)) (val d2)) (cdN_le _ _)
  have key := times_val v1 v2
  have hdd : 0 < val d1 * val d2 := Nat.mul_pos (by omega) (by omega)
  have hqq := Nat.mul_pos p1 p2
  have e3 := can_eq hqq hdd key
  simp only [canR] at hb
  obtain ⟨s1, hs1⟩ : ∃ s, cbN (sg neg1 (val n1)) = s := ⟨_, rfl⟩
  obtain ⟨s2, hs2⟩ : ∃ s, cbN (sg neg2 (val n2)) = s := ⟨_, rfl⟩
  obtain ⟨n1', hn1⟩ : ∃ s, cnN (sg neg1 (val n1)) (val d1) = s := ⟨_, rfl⟩
  obtain ⟨n2', hn2⟩ : ∃ s, cnN (sg neg2 (val n2)) (val d2) = s := ⟨_, rfl⟩
  obtain ⟨q1, hq1⟩ : ∃ s, cdN (sg neg1 (val n1)) (val d1) = s := ⟨_, rfl⟩
  obtain ⟨q2, hq2⟩ : ∃ s, cdN (sg neg2 (val n2)) (val d2) = s := ⟨_, rfl⟩
  rw [hs1, hn1, hq1, hs2, hn2, hq2] at hb e3
  rw [hq1, hq2] at hqq
  rw [hq1] at p1 b2
  rw [hq2] at p2 b4
  rw [hn1] at b1
  rw [hn2] at b3
  have m1l := len_mul n1' n2'
  have m3l := len_mul q1 q2
  have m1 := c_Mul (limbs n1') (limbs n2') (fit_of b1 (by omega)) (fit_of b3 (by omega))
  have m3 := c_Mul (limbs q1) (limbs q2) (fit_of b2 (by omega)) (fit_of b4 (by omega))
  rw [val_limbs, val_limbs] at m1 m3
  have h5 := c_right (sx s1 s2) (limbs (n1' * n2')) (limbs (q1 * q2)) (fit_of (k := 2147483648) (by omega) (by omega)) (fit_of (k := 2147483648) (by omega) (by omega)) (by rw [val_limbs]; omega)
  rw [val_limbs, val_limbs, rightR_can _ _ _ hqq, sg_sx] at h5
  rw [← e3]
  simp only [ratA, canR, rat, sx] at hb h5 ⊢
  simp [Run, hb, m1, m3, h5]
theorem c_rTimes (h1 : Lim n1) (h2 : Lim d1) (h3 : Lim n2) (h4 : Lim d2) (l1 : n1.length ≤ 1073741824) (l2 : d1.length ≤ 1073741824) (l3 : n2.length ≤ 1073741824) (l4 : d2.length ≤ 1073741824) :
    Cinf T n_thicketref01_Times [ratA neg1 n1 d1, ratA neg2 n2 d2] = some (timesR neg1 (val n1) (val d1) neg2 (val n2) (val d2), [.dead, .dead]) := by
  have k1 := c_rLen d1 ⟨h2, by omega⟩
  have k2 := c_rLen d2 ⟨h4, by omega⟩
  rw [run_thicketref01_Times]
  unfold timesR
  by_cases e1 : val d1 = 0
  · rw [if_pos (.inl e1)]
    rw [e1, nbits_zero] at k1
    simp only [Int.natCast_zero] at k1
    simp [Run, ratA, rat, limbs_zero, k1]
  have b1 : ¬ nbits (val d1) = 0 := fun h => e1 (nbits_eq_zero.1 h)
  by_cases e2 : val d2 = 0
  · rw [if_pos (.inr e2)]
    rw [e2, nbits_zero] at k2
    simp only [Int.natCast_zero] at k2
    simp [Run, ratA, rat, limbs_zero, k1, b1, k2]
  have b2 : ¬ nbits (val d2) = 0 := fun h => e2 (nbits_eq_zero.1 h)
  rw [if_neg (by omega)]
  have m1l := limbs_mul_len h1 h3
  have m3l := limbs_mul_len h2 h4
  have m1 := c_rMul n1 n2 ⟨h1, by omega⟩ ⟨h3, by omega⟩ (by omega)
  have m3 := c_rMul d1 d2 ⟨h2, by omega⟩ ⟨h4, by omega⟩ (by omega)
  have hqq : 0 < val d1 * val d2 := Nat.mul_pos (by omega) (by omega)
  have h5 := c_rOver (sx neg1 neg2) (limbs (val n1 * val n2)) (limbs (val d1 * val d2)) (fit_of (k := 2147483648) (by omega) (by omega)) (fit_of (k := 2147483648) (by omega) (by omega)) (by omega) (by omega)
  rw [val_limbs, val_limbs, overR_pos _ _ (by omega), sg_sx] at h5
  simp only [ratA, canR, rat, sx] at h5 ⊢
  simp [Run, k1, k2, b1, b2, m1, m3, h5]
theorem c_By (h1 : Lim n1) (h2 : Lim d1) (h3 : Lim n2) (h4 : Lim d2) (l1 : n1.length ≤ 1073741824) (l2 : d1.length ≤ 1073741824) (l3 : n2.length ≤ 1073741824) (l4 : d2.length ≤ 1073741824) :
    Cinf T n_limbs_By [ratA neg1 n1 d1, ratA neg2 n2 d2] = some (byR neg1 (val n1) (val d1) neg2 (val n2) (val d2), [.dead, .dead]) := by
  have hb := c_both neg1 neg2 n1 d1 n2 d2 ⟨h1, by omega⟩ ⟨h2, by omega⟩ ⟨h3, by omega⟩ ⟨h4, by omega⟩
  rw [run_limbs_By]
  unfold bothR at hb
  unfold byR
  by_cases e1 : val d1 = 0
  · rw [if_pos e1] at hb
    rw [if_pos (.inl e1)]
    simp only [ratA, ratF] at hb ⊢
    simp [Run, rat, limbs_zero, hb]
  rw [if_neg e1] at hb
  by_cases e2 : val d2 = 0
  · rw [if_pos e2] at hb
    rw [if_pos (.inr (.inl e2))]
    simp only [ratA, canR, rat, limbs_zero, ul_nil] at hb ⊢
    simp [Run, hb]
  rw [if_neg e2] at hb
  obtain ⟨v1, p1⟩ := can_val (sg neg1 (val n1)) (d := val d1) (by omega)
  obtain ⟨v2, p2⟩ := can_val (sg neg2 (val n2)) (d := val d2) (by omega)
  have b1 := limbs_le h1 (v := cnN (sg neg1 (val n1)) (val d1)) (by have := cnN_le (sg neg1 (val n1)) (val d1); rwa [sg_abs] at this)
  have b2 := limbs_le h2 (v := cdN (sg neg1 (val n1)) (val d1)) (cdN_le _ _)
  have b3 := limbs_le h3 (v := cnN (sg neg2 (val n2)) (val d2)) (by have := cnN_le (sg neg2 (val n2)) (val d2); rwa [sg_abs] at this)
  have b4 := limbs_le h4 (v := cdN (sg neg2 (val n2)) (val d2)) (cdN_le _ _)
  have hz := cn_zero (z := sg neg2 (val n2)) (d := val d2) (by omega)
  simp only [canR] at hb
  by_cases e3 : val n2 = 0
  · rw [if_pos (.inr (.inr e3))]
    rw [e3, sg_zero] at hb hz
    rw [hz.2 rfl] at hb
    simp only [ratA, rat, limbs_zero, ul_nil] at hb ⊢
    simp [Run, hb]
  rw [if_neg (by omega)]
  have hcb : cbN (sg neg2 (val n2)) = neg2 := sg_neg e3
  have hpz : cnN (sg neg2 (val n2)) (val d2) ≠ 0 := fun h => by
    have := hz.1 h
    have h2 := congrArg Int.natAbs this
    rw [sg_abs] at h2
    exact e3 h2
  rw [hcb] at hb v2
  have v2n : cnN (sg neg2 (val n2)) (val d2) * val d2 = val n2 * cdN (sg neg2 (val n2)) (val d2) := by
    have := congrArg Int.natAbs v2
    rwa [Int.natAbs_mul, Int.natAbs_mul, sg_abs, sg_abs, Int.natAbs_natCast, Int.natAbs_natCast] at this
  obtain ⟨s1, hs1⟩ : ∃ s, cbN (sg neg1 (val n1)) = s := ⟨_, rfl⟩
  obtain ⟨n1', hn1⟩ : ∃ s, cnN (sg neg1 (val n1)) (val d1) = s := ⟨_, rfl⟩
  obtain ⟨n2', hn2⟩ : ∃ s, cnN (sg neg2 (val n2)) (val d2) = s := ⟨_, rfl⟩
  obtain ⟨q1, hq1⟩ : ∃ s, cdN (sg neg1 (val n1)) (val d1) = s := ⟨_, rfl⟩
  obtain ⟨q2, hq2⟩ : ∃ s, cdN (sg neg2 (val n2)) (val d2) = s := ⟨_, rfl⟩
  rw [hs1, hn1, hq1, hn2, hq2] at hb
  rw [hs1, hn1, hq1] at v1
  rw [hn2, hq2] at v2n
  rw [hn2] at hpz b3
  rw [hq1] at p1 b2
  rw [hq2] at p2 b4
  rw [hn1] at b1
  have hdd : 0 < val d1 * val n2 := Nat.mul_pos (by omega) (by omega)
  have hqq : 0 < q1 * n2' := Nat.mul_pos p1 (by omega)
  have key := by_val (neg2 := neg2) v1 v2n
  rw [← sg_mul, ← sg_mul, ← sg_sx_one, ← sg_sx_one] at key
  rw [← can_eq hqq hdd key]
  have m1l := len_mul n1' q2
  have m3l := len_mul q1 n2'
  have m1 := c_Mul (limbs n1') (limbs q2) (fit_of b1 (by omega)) (fit_of b4 (by omega))
  have m3 := c_Mul (limbs q1) (limbs n2') (fit_of b2 (by omega)) (fit_of b3 (by omega))
  rw [val_limbs, val_limbs] at m1 m3
  have h5 := c_right (sx s1 neg2) (limbs (n1' * q2)) (limbs (q1 * n2')) (fit_of (k := 2147483648) (by omega) (by omega)) (fit_of (k := 2147483648) (by omega) (by omega)) (by rw [val_limbs]; omega)
  rw [val_limbs, val_limbs, rightR_can _ _ _ hqq] at h5
  have hne : ¬ limbs n2' = [] := by rw [limbs_pos hpz]; simp
  simp only [ratA, canR, rat, sx] at hb h5 ⊢
  simp [Run, hb, hne, m1, m3, h5]
theorem c_rBy (h1 : Lim n1) (h2 : Lim d1) (h3 : Lim n2) (h4 : Lim d2) (l1 : n1.length ≤ 1073741824) (l2 : d1.length ≤ 1073741824) (l3 : n2.length ≤ 1073741824) (l4 : d2.length ≤ 1073741824) :
    Cinf T n_thicketref01_By [ratA neg1 n1 d1, ratA neg2 n2 d2] = some (byR neg1 (val n1) (val d1) neg2 (val n2) (val d2), [.dead, .dead]) := by
  have k1 := c_rLen d1 ⟨h2, by omega⟩
  have k2 := c_rLen d2 ⟨h4, by omega⟩
  have k3 := c_rLen n2 ⟨h3, by omega⟩
  rw [run_thicketref01_By]
  unfold byR
  by_cases e1 : val d1 = 0
  · rw [if_pos (.inl e1)]
    rw [e1, nbits_zero] at k1
    simp only [Int.natCast_zero] at k1
    simp [Run, ratA, rat, limbs_zero, k1]
  have b1 : ¬ nbits (val d1) = 0 := fun h => e1 (nbits_eq_zero.1 h)
  by_cases e2 : val d2 = 0
  · rw [if_pos (.inr (.inl e2))]
    rw [e2, nbits_zero] at k2
    simp only [Int.natCast_zero] at k2
    simp [Run, ratA, rat, limbs_zero, k1, b1, k2]
  have b2 : ¬ nbits (val d2) = 0 := fun h => e2 (nbits_eq_zero.1 h)
  by_cases e3 : val n2 = 0
  · rw [if_pos (.inr (.inr e3))]
    rw [e3, nbits_zero] at k3
    simp only [Int.natCast_zero] at k3
    simp [Run, ratA, rat, limbs_zero, k1, b1, k2, b2, k3]
  have b3 : ¬ nbits (val n2) = 0 := fun h => e3 (nbits_eq_zero.1 h)
  rw [if_neg (by omega)]
  have m1l := limbs_mul_len h1 h4
  have m3l := limbs_mul_len h2 h3
  have m1 := c_rMul n1 d2 ⟨h1, by omega⟩ ⟨h4, by omega⟩ (by omega)
  have m3 := c_rMul d1 n2 ⟨h2, by omega⟩ ⟨h3, by omega⟩ (by omega)
  have hqq : 0 < val d1 * val n2 := Nat.mul_pos (by omega) (by omega)
  have h5 := c_rOver (sx neg1 neg2) (limbs (val n1 * val d2)) (limbs (val d1 * val n2)) (fit_of (k := 2147483648) (by omega) (by omega)) (fit_of (k := 2147483648) (by omega) (by omega)) (by omega) (by omega)
  rw [val_limbs, val_limbs, overR_pos _ _ (by omega)] at h5
  simp only [ratA, canR, rat, sx] at h5 ⊢
  simp [Run, k1, k2, k3, b1, b2, b3, m1, m3, h5]
end
end Go.AM.F

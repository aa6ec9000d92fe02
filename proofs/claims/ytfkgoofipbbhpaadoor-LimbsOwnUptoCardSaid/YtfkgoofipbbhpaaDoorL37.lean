/- The other operations on quotients. No conditions. -/
import Derived.Test.YtfkgoofipbbhpaaDoorL36
namespace Go.AM.F
open Go Go.AM
set_option maxRecDepth 10000
set_option linter.unusedSimpArgs false
attribute [local simp] j0_thicketref01_Plus j1_thicketref01_Plus j2_thicketref01_Plus b_thicketref01_Plus a_thicketref01_Plus b_thicketref01_Minus a_thicketref01_Minus b_limbs_Minus a_limbs_Minus

theorem len_sub (a b : Nat) : (limbs (a - b)).length ≤ (limbs a).length := limbs_mono (Nat.sub_le a b)
theorem c_rPlus (neg1 neg2 : Bool) (n1 d1 n2 d2 : List Nat) (h1 : Lim n1) (h2 : Lim d1) (h3 : Lim n2) (h4 : Lim d2) (l1 : n1.length ≤ 1073741824) (l2 : d1.length ≤ 1073741824) (l3 : n2.length ≤ 1073741824) (l4 : d2.length ≤ 1073741824) :
    Cinf T n_thicketref01_Plus [ratA neg1 n1 d1, ratA neg2 n2 d2] = some (plusR neg1 (val n1) (val d1) neg2 (val n2) (val d2), [.dead, .dead]) := by
  have k1 := c_rLen d1 ⟨h2, by omega⟩
  have k2 := c_rLen d2 ⟨h4, by omega⟩
  rw [run_thicketref01_Plus]
  unfold plusR
  by_cases e1 : val d1 = 0
  · rw [if_pos (.inl e1)]
    rw [e1, nbits_zero] at k1
    simp only [Int.natCast_zero] at k1
    simp [Run, ratA, rat, limbs_zero, k1]
  have b1 : ¬ nbits (val d1) = 0 := fun h => e1 (nbits_eq_zero.1 h)
  by_cases e2 : val d2 = 0
  · rw [if_pos (.inr e2)]
    rw [e2, nbits_zero] at k2
    simp only [Int.natCast_zero] at k2
    simp [Run, ratA, rat, limbs_zero, k1, b1, k2]
  have b2 : ¬ nbits (val d2) = 0 := fun h => e2 (nbits_eq_zero.1 h)
  rw [if_neg (by omega)]
  have m1l := limbs_mul_len h1 h4
  have m2l := limbs_mul_len h3 h2
  have m3l := limbs_mul_len h2 h4
  have m1 := c_rMul n1 d2 ⟨h1, by omega⟩ ⟨h4, by omega⟩ (by omega)
  have m2 := c_rMul n2 d1 ⟨h3, by omega⟩ ⟨h2, by omega⟩ (by omega)
  have m3 := c_rMul d1 d2 ⟨h2, by omega⟩ ⟨h4, by omega⟩ (by omega)
  obtain ⟨N1, hN1⟩ : ∃ x, val n1 = x := ⟨_, rfl⟩
  obtain ⟨N2, hN2⟩ : ∃ x, val n2 = x := ⟨_, rfl⟩
  obtain ⟨D1, hD1⟩ : ∃ x, val d1 = x := ⟨_, rfl⟩
  obtain ⟨D2, hD2⟩ : ∃ x, val d2 = x := ⟨_, rfl⟩
  rw [hN1, hD2] at m1 m1l
  rw [hN2, hD1] at m2 m2l
  rw [hD1, hD2] at m3 m3l
  rw [hD1] at e1 k1 b1 ⊢
  rw [hD2] at e2 k2 b2 ⊢
  rw [hN1, hN2]
  have hqq : 0 < D1 * D2 := Nat.mul_pos (by omega) (by omega)
  have f1 : Fit (limbs (N1 * D2)) := fit_of (k := 2147483648) (by omega) (by omega)
  have f2 : Fit (limbs (N2 * D1)) := fit_of (k := 2147483648) (by omega) (by omega)
  have f3 : Fit (limbs (D1 * D2)) := fit_of (k := 2147483648) (by omega) (by omega)
  have hc := c_rCmp (limbs (N1 * D2)) (limbs (N2 * D1)) f1 f2
  rw [val_limbs, val_limbs] at hc
  have hr : ∀ (s : Bool) (v : Nat), (limbs v).length ≤ 8589934592 → sg s v = sg neg1 N1 * D2 + sg neg2 N2 * D1 → Cinf T n_thicketref01_Over [.v (.bool s), .ro 1 (ul (limbs v)), .ro 1 (ul (limbs (D1 * D2)))] = some (.tup [canR (sg neg1 N1 * D2 + sg neg2 N2 * D1) (D1 * D2), .v (.int .i64 0)], [.dead, .dead, .dead]) := by
    intro s v hv he
    have := c_rOver s (limbs v) (limbs (D1 * D2)) (fit_of hv (by omega)) f3 (by omega) (by omega)
    rw [val_limbs, val_limbs, overR_pos _ _ (by omega), he] at this
    exact this
  by_cases hss : neg1 = neg2
  · subst hss
    have ha := c_rAdd (limbs (N1 * D2)) (limbs (N2 * D1)) f1 f2 (by omega)
    rw [val_limbs, val_limbs] at ha
    have hal := len_add (N1 * D2) (N2 * D1)
    have h5 := hr neg1 (N1 * D2 + N2 * D1) (by omega) (by rw [sg_add, sg_mul, sg_mul])
    simp only [ratA, canR, rat] at h5 ⊢
    simp [Run, k1, k2, b1, b2, m1, m2, m3, ha, h5]
  · have hs : neg1 = !neg2 := by cases neg1 <;> cases neg2 <;> simp at hss ⊢
    have hs' : neg2 = !neg1 := by cases neg1 <;> cases neg2 <;> simp at hss ⊢
    by_cases hlt : N1 * D2 < N2 * D1
    · rw [cmp_lt hlt] at hc
      have hsub := c_rSub (limbs (N2 * D1)) (limbs (N1 * D2)) f2 f1
      rw [val_limbs, val_limbs] at hsub
      unfold subR at hsub
      rw [if_neg (by omega)] at hsub
      have hml := len_sub (N2 * D1) (N1 * D2)
      have h5 := hr neg2 (N2 * D1 - N1 * D2) (by omega) (by rw [sg_sub neg2 (by omega), sg_mul, sg_mul, ← hs, Int.add_comm])
      simp only [ratA, canR, rat] at h5 ⊢
      simp [Run, k1, k2, b1, b2, m1, m2, m3, hc, hss, hsub, h5]
    · have hcn : 0 ≤ cmpN (N1 * D2) (N2 * D1) := by
        unfold cmpN
        rw [if_neg hlt]
        split <;> decide
      have hsub := c_rSub (limbs (N1 * D2)) (limbs (N2 * D1)) f1 f2
      rw [val_limbs, val_limbs] at hsub
      unfold subR at hsub
      rw [if_neg (by omega)] at hsub
      have hml := len_sub (N1 * D2) (N2 * D1)
      have h5 := hr neg1 (N1 * D2 - N2 * D1) (by omega) (by rw [sg_sub neg1 (by omega), sg_mul, sg_mul, ← hs'])
      simp only [ratA, canR, rat] at h5 ⊢
      simp [Run, k1, k2, b1, b2, m1, m2, m3, hc, hcn, hss, hsub, h5]
/-- An answer that is a quotient and a fault's number. -/
def RatAns (x : PV) : Prop := ∃ (s : Bool) (n d e : Nat), x = .tup [rat s n d, .v (.int .i64 e)] ∧ (limbs n).length ≤ 4398046511104 ∧ (limbs d).length ≤ 4398046511104
theorem ans_zero : RatAns (.tup [rat false 0 0, .v (.int .i64 11)]) := ⟨false, 0, 0, 11, rfl, by rw [limbs_zero]; simp, by rw [limbs_zero]; simp⟩
theorem ans_can {z : Int} {d k m : Nat} (h1 : z.natAbs ≤ k) (h2 : (limbs k).length ≤ 4398046511104) (h3 : d ≤ m) (h4 : (limbs m).length ≤ 4398046511104) : RatAns (.tup [canR z d, .v (.int .i64 0)]) :=
  ⟨cbN z, cnN z d, cdN z d, 0, rfl, Nat.le_trans (limbs_mono (Nat.le_trans (cnN_le z d) h1)) h2, Nat.le_trans (limbs_mono (Nat.le_trans (cdN_le z d) h3)) h4⟩
theorem ans_plus {neg1 neg2 : Bool} {n1 d1 n2 d2 : Nat} (l1 : (limbs n1).length ≤ 1073741824) (l2 : (limbs d1).length ≤ 1073741824) (l3 : (limbs n2).length ≤ 1073741824) (l4 : (limbs d2).length ≤ 1073741824) : RatAns (plusR neg1 n1 d1 neg2 n2 d2) := by
  unfold plusR
  split
  · exact ans_zero
  · have m1 := len_mul n1 d2
    have m2 := len_mul n2 d1
    have m3 := len_mul d1 d2
    have m4 := len_add (n1 * d2) (n2 * d1)
    refine ans_can (k := n1 * d2 + n2 * d1) (m := d1 * d2) ?_ (by omega) (Nat.le_refl _) (by omega)
    refine Nat.le_trans (Int.natAbs_add_le _ _) ?_
    rw [Int.natAbs_mul, Int.natAbs_mul, sg_abs, sg_abs, Int.natAbs_natCast, Int.natAbs_natCast]
    exact Nat.le_refl _
theorem c_Minus (neg1 neg2 : Bool) (n1 d1 n2 d2 : List Nat) (h1 : Lim n1) (h2 : Lim d1) (h3 : Lim n2) (h4 : Lim d2) (l1 : n1.length ≤ 1073741824) (l2 : d1.length ≤ 1073741824) (l3 : n2.length ≤ 1073741824) (l4 : d2.length ≤ 1073741824) :
    Cinf T n_limbs_Minus [ratA neg1 n1 d1, ratA neg2 n2 d2] = some (plusR neg1 (val n1) (val d1) (!neg2) (val n2) (val d2), [.dead, .dead]) := by
  have h := c_Plus neg1 (!neg2) n1 d1 n2 d2 h1 h2 h3 h4 l1 l2 l3 l4
  obtain ⟨s, n, d, e, he, _⟩ := ans_plus (neg1 := neg1) (neg2 := !neg2) (n1 := val n1) (d1 := val d1) (n2 := val n2) (d2 := val d2) (Nat.le_trans (limbs_len h1) l1) (Nat.le_trans (limbs_len h2) l2) (Nat.le_trans (limbs_len h3) l3) (Nat.le_trans (limbs_len h4) l4)
  rw [he] at h ⊢
  rw [run_limbs_Minus]
  simp only [ratA, rat] at h ⊢
  simp [Run, h]
theorem c_rMinus (neg1 neg2 : Bool) (n1 d1 n2 d2 : List Nat) (h1 : Lim n1) (h2 : Lim d1) (h3 : Lim n2) (h4 : Lim d2) (l1 : n1.length ≤ 1073741824) (l2 : d1.length ≤ 1073741824) (l3 : n2.length ≤ 1073741824) (l4 : d2.length ≤ 1073741824) :
    Cinf T n_thicketref01_Minus [ratA neg1 n1 d1, ratA neg2 n2 d2] = some (plusR neg1 (val n1) (val d1) (!neg2) (val n2) (val d2), [.dead, .dead]) := by
  have h := c_rPlus neg1 (!neg2) n1 d1 n2 d2 h1 h2 h3 h4 l1 l2 l3 l4
  obtain ⟨s, n, d, e, he, _⟩ := ans_plus (neg1 := neg1) (neg2 := !neg2) (n1 := val n1) (d1 := val d1) (n2 := val n2) (d2 := val d2) (Nat.le_trans (limbs_len h1) l1) (Nat.le_trans (limbs_len h2) l2) (Nat.le_trans (limbs_len h3) l3) (Nat.le_trans (limbs_len h4) l4)
  rw [he] at h ⊢
  rw [run_thicketref01_Minus]
  simp only [ratA, rat] at h ⊢
  simp [Run, h]
end Go.AM.F

/- Orders of quotients, quotients of whole numbers; every operation on quotients. No conditions. -/
import Derived.Test.YtfkgoofipbbhpaaDoorL38
namespace Go.AM.F
open Go Go.AM
set_option maxRecDepth 10000
set_option linter.unusedSimpArgs false
attribute [local simp] j0_limbs_Order b_limbs_Order a_limbs_Order j0_thicketref01_Order j1_thicketref01_Order b_thicketref01_Order a_thicketref01_Order j0_limbs_Whole b_limbs_Whole a_limbs_Whole j0_thicketref01_Whole b_thicketref01_Whole a_thicketref01_Whole b_thicketref01_Alike a_thicketref01_Alike j0_thicketlaw01_LimbsRatios j1_thicketlaw01_LimbsRatios j2_thicketlaw01_LimbsRatios b_thicketlaw01_LimbsRatios a_thicketlaw01_LimbsRatios

/-- A number's sign, as a number. -/
def sgnZ (z : Int) : Int := if z = 0 then 0 else if z < 0 then -1 else 1
def orderR (neg1 : Bool) (n1 d1 : Nat) (neg2 : Bool) (n2 d2 : Nat) : PV := if d1 = 0 ∨ d2 = 0 then .tup [.v (.int .i64 0), .v (.int .i64 11)] else .tup [.v (.int .i64 (sgnZ (sg neg1 n1 * d2 - sg neg2 n2 * d1))), .v (.int .i64 0)]
section
variable {neg1 neg2 : Bool} {n1 d1 n2 d2 : List Nat}
theorem c_Order (h1 : Lim n1) (h2 : Lim d1) (h3 : Lim n2) (h4 : Lim d2) (l1 : n1.length ≤ 1073741824) (l2 : d1.length ≤ 1073741824) (l3 : n2.length ≤ 1073741824) (l4 : d2.length ≤ 1073741824) :
    Cinf T n_limbs_Order [ratA neg1 n1 d1, ratA neg2 n2 d2] = some (orderR neg1 (val n1) (val d1) neg2 (val n2) (val d2), [.dead, .dead]) := by
  have hm := c_Minus neg1 neg2 n1 d1 n2 d2 h1 h2 h3 h4 l1 l2 l3 l4
  rw [run_limbs_Order]
  unfold plusR at hm
  unfold orderR
  by_cases e : val d1 = 0 ∨ val d2 = 0
  · rw [if_pos e] at hm ⊢
    simp only [ratA, rat, limbs_zero, ul_nil] at hm ⊢
    simp [Run, hm]
  · rw [if_neg e] at hm ⊢
    rw [sg_not, Int.neg_mul, ← Int.sub_eq_add_neg] at hm
    have hdd : 0 < val d1 * val d2 := Nat.mul_pos (by omega) (by omega)
    obtain ⟨Z, hZ⟩ : ∃ Z, sg neg1 (val n1) * (val d2 : Nat) - sg neg2 (val n2) * (val d1 : Nat) = Z := ⟨_, rfl⟩
    obtain ⟨D, hD⟩ : ∃ D, val d1 * val d2 = D := ⟨_, rfl⟩
    rw [hZ] at hm ⊢
    rw [hD] at hm hdd
    have hz := cn_zero (z := Z) hdd
    unfold sgnZ
    by_cases h0 : Z = 0
    · rw [if_pos h0]
      simp only [ratA, canR, rat] at hm ⊢
      rw [hz.2 h0, limbs_zero, ul_nil] at hm
      simp [Run, hm]
    · rw [if_neg h0]
      have hne : ¬ limbs (cnN Z D) = [] := by rw [limbs_pos fun h => h0 (hz.1 h)]; simp
      by_cases hneg : Z < 0
      · rw [if_pos hneg]
        have hb : cbN Z = true := decide_eq_true hneg
        simp only [ratA, canR, rat, hb] at hm ⊢
        simp [Run, hm, hne]
      · rw [if_neg hneg]
        have hb : cbN Z = false := decide_eq_false hneg
        simp only [ratA, canR, rat, hb] at hm ⊢
        simp [Run, hm, hne]
theorem c_rOrder (h1 : Lim n1) (h2 : Lim d1) (h3 : Lim n2) (h4 : Lim d2) (l1 : n1.length ≤ 1073741824) (l2 : d1.length ≤ 1073741824) (l3 : n2.length ≤ 1073741824) (l4 : d2.length ≤ 1073741824) :
    Cinf T n_thicketref01_Order [ratA neg1 n1 d1, ratA neg2 n2 d2] = some (orderR neg1 (val n1) (val d1) neg2 (val n2) (val d2), [.dead, .dead]) := by
  have hm := c_rMinus neg1 neg2 n1 d1 n2 d2 h1 h2 h3 h4 l1 l2 l3 l4
  rw [run_thicketref01_Order]
  unfold plusR at hm
  unfold orderR
  by_cases e : val d1 = 0 ∨ val d2 = 0
  · rw [if_pos e] at hm ⊢
    simp only [ratA, rat, limbs_zero, ul_nil] at hm ⊢
    simp [Run, hm]
  · rw [if_neg e] at hm ⊢
    rw [sg_not, Int.neg_mul, ← Int.sub_eq_add_neg] at hm
    have hdd : 0 < val d1 * val d2 := Nat.mul_pos (by omega) (by omega)
    obtain ⟨Z, hZ⟩ : ∃ Z, sg neg1 (val n1) * (val d2 : Nat) - sg neg2 (val n2) * (val d1 : Nat) = Z := ⟨_, rfl⟩
    obtain ⟨D, hD⟩ : ∃ D, val d1 * val d2 = D := ⟨_, rfl⟩
    rw [hZ] at hm ⊢
    rw [hD] at hm hdd
    have hz := cn_zero (z := Z) hdd
    unfold sgnZ
    by_cases h0 : Z = 0
    · rw [if_pos h0]
      simp only [ratA, canR, rat] at hm ⊢
      rw [hz.2 h0, limbs_zero, ul_nil] at hm
      simp [Run, hm]
    · rw [if_neg h0]
      have hne : ¬ limbs (cnN Z D) = [] := by rw [limbs_pos fun h => h0 (hz.1 h)]; simp
      by_cases hneg : Z < 0
      · rw [if_pos hneg]
        have hb : cbN Z = true := decide_eq_true hneg
        simp only [ratA, canR, rat, hb] at hm ⊢
        simp [Run, hm, hne]
      · rw [if_neg hneg]
        have hb : cbN Z = false := decide_eq_false hneg
        simp only [ratA, canR, rat, hb] at hm ⊢
        simp [Run, hm, hne]
end
theorem ul_one : ul (limbs 1) = [.v (.int .u32 1)] := by rw [limbs_one]; rfl
theorem c_Whole (n : Int) (h1 : -9223372036854775808 ≤ n) (h2 : n < 9223372036854775808) : Cinf T n_limbs_Whole [.v (.int .i64 n)] = some (rat (decide (n < 0)) n.natAbs 1, [.dead]) := by
  have hf := c_From n.natAbs (by omega)
  rw [run_limbs_Whole]
  obtain ⟨m, hm⟩ : ∃ m, n.natAbs = m := ⟨_, rfl⟩
  rw [hm] at hf ⊢
  unfold rat
  rw [ul_one]
  by_cases hn : n < 0
  · have w1 : IntKind.u64.wrap n = n + 18446744073709551616 := by
      simp only [IntKind.wrap, IntKind.signed, IntKind.bits]
      simp
      omega
    have w2 : IntKind.u64.wrap (0 - (n + 18446744073709551616)) = (m : Int) := by
      simp only [IntKind.wrap, IntKind.signed, IntKind.bits]
      simp
      omega
    simp at w2
    simp [Run, hn, w1, w2, hf]
  · have w1 : IntKind.u64.wrap n = (m : Int) := by rw [wrap_u64] <;> omega
    simp [Run, hn, w1, hf]
theorem rightR_one (s : Bool) {n : Nat} (h : n ≠ 0) : rightR s n 1 = rat s n 1 := by
  unfold rightR
  rw [if_neg h, Nat.gcd_one_right, Nat.div_one, Nat.div_one]
theorem c_rWhole (n : Int) (h1 : -9223372036854775808 ≤ n) (h2 : n < 9223372036854775808) : Cinf T n_thicketref01_Whole [.v (.int .i64 n)] = some (rat (decide (n < 0)) n.natAbs 1, [.dead]) := by
  have hf := c_rFrom n.natAbs (by omega)
  have h3 := c_rFrom 1 (by decide)
  have hl : (limbs n.natAbs).length ≤ 2 := limbs_len_le (by omega)
  have ho := fun s => c_rOver s (limbs n.natAbs) (limbs 1) (fit_of hl (by omega)) (fit_of (k := 1) (by rw [limbs_one]; simp) (by omega)) (by omega) (by rw [limbs_one]; simp)
  simp only [val_limbs] at ho
  rw [run_thicketref01_Whole]
  obtain ⟨m, hm⟩ : ∃ m, n.natAbs = m := ⟨_, rfl⟩
  rw [hm] at hf ⊢
  rw [hm] at ho
  have hcast : ((1 : Nat) : Int) = 1 := rfl
  rw [hcast] at h3
  by_cases hn : n < 0
  · have hm0 : m ≠ 0 := by omega
    have h5 := ho true
    unfold overR at h5
    rw [if_neg (by decide), rightR_one true hm0] at h5
    have w0 : IntKind.i64.wrap (n + 1) = n + 1 := by rw [wrap_i64] <;> omega
    have w1 : IntKind.i64.wrap (0 - (n + 1)) = ((m - 1 : Nat) : Int) := by rw [wrap_i64] <;> omega
    have w2 : IntKind.u64.wrap ((m - 1 : Nat) : Int) = ((m - 1 : Nat) : Int) := u64_nat (by omega)
    have w3 : IntKind.u64.wrap (((m - 1 : Nat) : Int) + 1) = (m : Int) := by rw [wrap_u64] <;> omega
    obtain ⟨k, hk⟩ : ∃ k, m - 1 = k := ⟨_, rfl⟩
    rw [hk] at w1 w2 w3
    simp only [rat] at h5 ⊢
    simp at w1
    simp [Run, hn, w0, w1, w2, w3, hf, h3, h5]
  · have w1 : IntKind.u64.wrap n = (m : Int) := by rw [wrap_u64] <;> omega
    have h5 := ho false
    unfold overR at h5
    rw [if_neg (by decide)] at h5
    have h6 : rightR false m 1 = rat false m 1 := by
      by_cases h0 : m = 0
      · rw [h0]; rfl
      · exact rightR_one false h0
    rw [h6] at h5
    simp only [rat] at h5 ⊢
    simp [Run, hn, w1, hf, h3, h5]
theorem c_Alike (s : Bool) (n d : List Nat) (hn : n.length ≤ 4398046511104) (hd : d.length ≤ 4398046511104) : Cinf T n_thicketref01_Alike [ratA s n d, ratA s n d] = some (.v (.bool true), [.dead, .dead]) := by
  have s1 := c_Same n hn
  have s2 := c_Same d hd
  rw [run_thicketref01_Alike]
  simp only [ratA]
  simp [Run, s1, s2]
theorem ans_times {neg1 neg2 : Bool} {n1 d1 n2 d2 : Nat} (l1 : (limbs n1).length ≤ 1073741824) (l2 : (limbs d1).length ≤ 1073741824) (l3 : (limbs n2).length ≤ 1073741824) (l4 : (limbs d2).length ≤ 1073741824) : RatAns (timesR neg1 n1 d1 neg2 n2 d2) := by
  unfold timesR
  split
  · exact ans_zero
  · have m1 := len_mul n1 n2
    have m3 := len_mul d1 d2
    refine ans_can (k := n1 * n2) (m := d1 * d2) ?_ (by omega) (Nat.le_refl _) (by omega)
    rw [Int.natAbs_mul, sg_abs, sg_abs]
    exact Nat.le_refl _
theorem ans_by {neg1 neg2 : Bool} {n1 d1 n2 d2 : Nat} (l1 : (limbs n1).length ≤ 1073741824) (l2 : (limbs d1).length ≤ 1073741824) (l3 : (limbs n2).length ≤ 1073741824) (l4 : (limbs d2).length ≤ 1073741824) : RatAns (byR neg1 n1 d1 neg2 n2 d2) := by
  unfold byR
  split
  · exact ans_zero
  · have m1 := len_mul n1 d2
    have m3 := len_mul d1 n2
    refine ans_can (k := n1 * d2) (m := d1 * n2) ?_ (by omega) (Nat.le_refl _) (by omega)
    rw [sg_abs]
    exact Nat.le_refl _
theorem ans_over {neg : Bool} {n d : Nat} (l1 : (limbs n).length ≤ 1073741824) (l2 : (limbs d).length ≤ 1073741824) : RatAns (overR neg n d) := by
  by_cases h : d = 0
  · rw [h, overR_zero]; exact ans_zero
  · rw [overR_pos _ _ h]
    exact ans_can (k := n) (m := d) (by rw [sg_abs]; exact Nat.le_refl _) (by omega) (Nat.le_refl _) (by omega)
theorem c_LimbsRatios (neg1 neg2 : Bool) (n1 d1 n2 d2 : List Nat) (z : Int) (h1 : Lim n1) (h2 : Lim d1) (h3 : Lim n2) (h4 : Lim d2) (l1 : n1.length ≤ 16777216) (l2 : d1.length ≤ 16777216) (l3 : n2.length ≤ 16777216) (l4 : d2.length ≤ 16777216) (z1 : -9223372036854775808 ≤ z) (z2 : z < 9223372036854775808) :
    ∃ backs, Cinf T n_thicketlaw01_LimbsRatios [ratA neg1 n1 d1, ratA neg2 n2 d2, .v (.int .i64 z)] = some (.v (.bool true), backs) := by
  have k1 := Nat.le_trans (limbs_len h1) l1
  have k2 := Nat.le_trans (limbs_len h2) l2
  have k3 := Nat.le_trans (limbs_len h3) l3
  have k4 := Nat.le_trans (limbs_len h4) l4
  have w1 := c_Whole z z1 z2
  have w2 := c_rWhole z z1 z2
  have wl : (limbs z.natAbs).length ≤ 2 := limbs_len_le (by omega)
  have wa := c_Alike (decide (z < 0)) (limbs z.natAbs) (limbs 1) (by omega) (by rw [limbs_one]; simp)
  have o1 := c_Over neg1 n1 d1 ⟨h1, by omega⟩ ⟨h2, by omega⟩
  have o2 := c_rOver neg1 n1 d1 ⟨h1, by omega⟩ ⟨h2, by omega⟩ (by omega) (by omega)
  obtain ⟨so, no, dd, eo, ho, ho1, ho2⟩ := ans_over (neg := neg1) (n := val n1) (d := val d1) (by omega) (by omega)
  have oa := c_Alike so (limbs no) (limbs dd) ho1 ho2
  rw [ho] at o1 o2
  have p1 := c_Plus neg1 neg2 n1 d1 n2 d2 h1 h2 h3 h4 (by omega) (by omega) (by omega) (by omega)
  have p2 := c_rPlus neg1 neg2 n1 d1 n2 d2 h1 h2 h3 h4 (by omega) (by omega) (by omega) (by omega)
  obtain ⟨sp, np, dp, ep, hp, hp1, hp2⟩ := ans_plus (neg1 := neg1) (neg2 := neg2) (n1 := val n1) (d1 := val d1) (n2 := val n2) (d2 := val d2) (by omega) (by omega) (by omega) (by omega)
  have pa := c_Alike sp (limbs np) (limbs dp) hp1 hp2
  rw [hp] at p1 p2
  have m1 := c_Minus neg1 neg2 n1 d1 n2 d2 h1 h2 h3 h4 (by omega) (by omega) (by omega) (by omega)
  have m2 := c_rMinus neg1 neg2 n1 d1 n2 d2 h1 h2 h3 h4 (by omega) (by omega) (by omega) (by omega)
  obtain ⟨sm, nm, dm, em, hm, hm1, hm2⟩ := ans_plus (neg1 := neg1) (neg2 := !neg2) (n1 := val n1) (d1 := val d1) (n2 := val n2) (d2 := val d2) (by omega) (by omega) (by omega) (by omega)
  have ma := c_Alike sm (limbs nm) (limbs dm) hm1 hm2
  rw [hm] at m1 m2
  have t1 := c_Times (neg1 := neg1) (neg2 := neg2) h1 h2 h3 h4 (by omega) (by omega) (by omega) (by omega)
  have t2 := c_rTimes (neg1 := neg1) (neg2 := neg2) h1 h2 h3 h4 (by omega) (by omega) (by omega) (by omega)
  obtain ⟨st, nt, dt, et, ht, ht1, ht2⟩ := ans_times (neg1 := neg1) (neg2 := neg2) (n1 := val n1) (d1 := val d1) (n2 := val n2) (d2 := val d2) (by omega) (by omega) (by omega) (by omega)
  have ta := c_Alike st (limbs nt) (limbs dt) ht1 ht2
  rw [ht] at t1 t2
  have y1 := c_By (neg1 := neg1) (neg2 := neg2) h1 h2 h3 h4 (by omega) (by omega) (by omega) (by omega)
  have y2 := c_rBy (neg1 := neg1) (neg2 := neg2) h1 h2 h3 h4 (by omega) (by omega) (by omega) (by omega)
  obtain ⟨sy, ny, dy, ey, hy, hy1, hy2⟩ := ans_by (neg1 := neg1) (neg2 := neg2) (n1 := val n1) (d1 := val d1) (n2 := val n2) (d2 := val d2) (by omega) (by omega) (by omega) (by omega)
  have ya := c_Alike sy (limbs ny) (limbs dy) hy1 hy2
  rw [hy] at y1 y2
  have r1 := c_Order (neg1 := neg1) (neg2 := neg2) h1 h2 h3 h4 (by omega) (by omega) (by omega) (by omega)
  have r2 := c_rOrder (neg1 := neg1) (neg2 := neg2) h1 h2 h3 h4 (by omega) (by omega) (by omega) (by omega)
  obtain ⟨c, e, hr⟩ : ∃ c e : Int, orderR neg1 (val n1) (val d1) neg2 (val n2) (val d2) = .tup [.v (.int .i64 c), .v (.int .i64 e)] := by
    unfold orderR
    split
    · exact ⟨_, _, rfl⟩
    · exact ⟨_, _, rfl⟩
  rw [hr] at r1 r2
  clear hr hy ht hm hp ho
  rw [run_thicketlaw01_LimbsRatios]
  simp only [ratA, rat] at *
  exact ⟨_, by simp [Run, c_lives, w1, w2, wa, o1, o2, oa, p1, p2, pa, m1, m2, ma, t1, t2, ta, y1, y2, ya, r1, r2]; rfl⟩
end Go.AM.F

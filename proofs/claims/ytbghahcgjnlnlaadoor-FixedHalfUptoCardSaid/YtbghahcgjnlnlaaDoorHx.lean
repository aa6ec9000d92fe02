/- Quotients, scaled numbers, FixedHalf. No conditions. -/
import Derived.Test.YtbghahcgjnlnlaaDoorL34
import Derived.Test.YtbghahcgjnlnlaaDoorL12
import Derived.Test.YtbghahcgjnlnlaaDoorL0
import Derived.Test.YtbghahcgjnlnlaaDoorL10
import Derived.Test.YtbghahcgjnlnlaaDoorL17
import Derived.Test.YtbghahcgjnlnlaaDoorL14
import Derived.Test.YtbghahcgjnlnlaaDoorL19
import Derived.Test.YtbghahcgjnlnlaaDoorL24
import Derived.Test.YtbghahcgjnlnlaaDoorL25
import Derived.Test.YtbghahcgjnlnlaaDoorD0
/- Quotients as numbers: in lowest terms there is one of a value. No conditions. -/
namespace Go.AM.F
open Go Go.AM
set_option maxRecDepth 10000

/-- A number with its sign. -/
def sg (neg : Bool) (n : Nat) : Int := if neg then -(n : Int) else n
theorem sg_abs (neg : Bool) (n : Nat) : (sg neg n).natAbs = n := by cases neg <;> simp [sg]
theorem sg_zero (neg : Bool) : sg neg 0 = 0 := by cases neg <;> simp [sg]
theorem sg_neg {neg : Bool} {n : Nat} (h : n ≠ 0) : decide (sg neg n < 0) = neg := by
  cases neg <;> simp [sg] <;> omega
theorem sg_not (neg : Bool) (n : Nat) : sg (!neg) n = - sg neg n := by cases neg <;> simp [sg]
theorem sg_of (z : Int) : sg (decide (z < 0)) z.natAbs = z := by
  unfold sg
  by_cases h : z < 0
  · simp [h]; omega
  · simp [h]; omega
/-- The value in lowest terms: its numerator's amount, its denominator. -/
def cnN (z : Int) (d : Nat) : Nat := z.natAbs / Nat.gcd z.natAbs d
def cdN (z : Int) (d : Nat) : Nat := d / Nat.gcd z.natAbs d
def cbN (z : Int) : Bool := decide (z < 0)
def canR (z : Int) (d : Nat) : PV := rat (cbN z) (cnN z d) (cdN z d)
theorem rightR_can (neg : Bool) (n d : Nat) (hd : 0 < d) : rightR neg n d = canR (sg neg n) d := by
  unfold rightR canR cnN cdN cbN
  rw [sg_abs]
  by_cases h : n = 0
  · subst h
    rw [if_pos rfl, sg_zero, Nat.gcd_zero_left, Nat.zero_div, Nat.div_self hd]
    rfl
  · rw [if_neg h, sg_neg h]
theorem frac_eq {n d n' d' : Nat} (hd : 0 < d) (hd' : 0 < d') (h : n * d' = n' * d) : n / Nat.gcd n d = n' / Nat.gcd n' d' ∧ d / Nat.gcd n d = d' / Nat.gcd n' d' := by
  have hg : 0 < Nat.gcd n d := Nat.gcd_pos_of_pos_right n hd
  have hg' : 0 < Nat.gcd n' d' := Nat.gcd_pos_of_pos_right n' hd'
  have c := Nat.coprime_div_gcd_div_gcd hg
  have c' := Nat.coprime_div_gcd_div_gcd hg'
  have e1 := Nat.div_mul_cancel (Nat.gcd_dvd_left n d)
  have e2 := Nat.div_mul_cancel (Nat.gcd_dvd_right n d)
  have e3 := Nat.div_mul_cancel (Nat.gcd_dvd_left n' d')
  have e4 := Nat.div_mul_cancel (Nat.gcd_dvd_right n' d')
  obtain ⟨g, hge⟩ : ∃ g, Nat.gcd n d = g := ⟨_, rfl⟩
  obtain ⟨g', hge'⟩ : ∃ g, Nat.gcd n' d' = g := ⟨_, rfl⟩
  rw [hge] at hg c e1 e2 ⊢
  rw [hge'] at hg' c' e3 e4 ⊢
  obtain ⟨a, ha⟩ : ∃ a, n / g = a := ⟨_, rfl⟩
  obtain ⟨b, hb⟩ : ∃ b, d / g = b := ⟨_, rfl⟩
  obtain ⟨a', ha'⟩ : ∃ a, n' / g' = a := ⟨_, rfl⟩
  obtain ⟨b', hb'⟩ : ∃ b, d' / g' = b := ⟨_, rfl⟩
  rw [ha] at c e1 ⊢
  rw [hb] at c e2 ⊢
  rw [ha'] at c' e3 ⊢
  rw [hb'] at c' e4 ⊢
  have hx : a * b' = a' * b := by
    have h1 : (a * b') * (g * g') = (a' * b) * (g * g') := by
      rw [← e1, ← e2, ← e3, ← e4] at h
      calc (a * b') * (g * g') = (a * g) * (b' * g') := by simp only [Nat.mul_assoc, Nat.mul_left_comm, Nat.mul_comm]
        _ = (a' * g') * (b * g) := h
        _ = (a' * b) * (g * g') := by simp only [Nat.mul_assoc, Nat.mul_left_comm, Nat.mul_comm]
    exact Nat.eq_of_mul_eq_mul_right (Nat.mul_pos hg hg') h1
  have hb0 : 0 < b := by
    rcases Nat.eq_zero_or_pos b with h0 | h0
    · rw [h0, Nat.zero_mul] at e2; omega
    · exact h0
  have d1 : b ∣ b' := c.symm.dvd_of_dvd_mul_left (by rw [hx]; exact Nat.dvd_mul_left b a')
  have d2 : b' ∣ b := c'.symm.dvd_of_dvd_mul_left (by rw [← hx]; exact Nat.dvd_mul_left b' a)
  have hbb := Nat.dvd_antisymm d1 d2
  subst hbb
  exact ⟨Nat.eq_of_mul_eq_mul_right hb0 hx, rfl⟩
/-- One value, one form. -/
theorem can_eq {z z' : Int} {d d' : Nat} (hd : 0 < d) (hd' : 0 < d') (h : z * d' = z' * d) : canR z d = canR z' d' := by
  have h1 : z.natAbs * d' = z'.natAbs * d := by
    have := congrArg Int.natAbs h
    rwa [Int.natAbs_mul, Int.natAbs_mul, Int.natAbs_natCast, Int.natAbs_natCast] at this
  obtain ⟨e1, e2⟩ := frac_eq hd hd' h1
  have hs : cbN z = cbN z' := by
    unfold cbN
    have p1 : (z * d' < 0) ↔ z < 0 := by
      constructor
      · intro k
        refine Classical.byContradiction fun k2 => ?_
        have := Int.mul_nonneg (show 0 ≤ z by omega) (show (0 : Int) ≤ (d' : Int) by omega)
        omega
      · intro k
        exact Int.mul_neg_of_neg_of_pos k (by omega)
    have p2 : (z' * d < 0) ↔ z' < 0 := by
      constructor
      · intro k
        refine Classical.byContradiction fun k2 => ?_
        have := Int.mul_nonneg (show 0 ≤ z' by omega) (show (0 : Int) ≤ (d : Int) by omega)
        omega
      · intro k
        exact Int.mul_neg_of_neg_of_pos k (by omega)
    rw [h] at p1
    exact decide_eq_decide.2 (p1.symm.trans p2)
  unfold canR cnN cdN
  rw [hs, e1, e2]
/-- The lowest terms are of the same value. -/
theorem can_val (z : Int) {d : Nat} (hd : 0 < d) : sg (cbN z) (cnN z d) * d = z * cdN z d ∧ 0 < cdN z d := by
  unfold cbN cnN cdN
  have hg : 0 < Nat.gcd z.natAbs d := Nat.gcd_pos_of_pos_right _ hd
  have e1 := Nat.div_mul_cancel (Nat.gcd_dvd_left z.natAbs d)
  have e2 := Nat.div_mul_cancel (Nat.gcd_dvd_right z.natAbs d)
  obtain ⟨g, hge⟩ : ∃ g, Nat.gcd z.natAbs d = g := ⟨_, rfl⟩
  rw [hge] at hg e1 e2 ⊢
  obtain ⟨a, ha⟩ : ∃ a, z.natAbs / g = a := ⟨_, rfl⟩
  obtain ⟨b, hb⟩ : ∃ b, d / g = b := ⟨_, rfl⟩
  rw [ha] at e1 ⊢
  rw [hb] at e2 ⊢
  refine ⟨?_, ?_⟩
  · have hz : z = sg (decide (z < 0)) (a * g) := by rw [e1, sg_of]
    have hs : sg (decide (z < 0)) (a * g) = sg (decide (z < 0)) a * g := by
      unfold sg
      split <;> simp [Int.natCast_mul, Int.neg_mul]
    obtain ⟨s, hse⟩ : ∃ s, decide (z < 0) = s := ⟨_, rfl⟩
    rw [hse] at hz hs ⊢
    rw [hs] at hz
    rw [← e2, hz, Int.natCast_mul, Int.mul_assoc, Int.mul_comm (g : Int)]
  · rcases Nat.eq_zero_or_pos b with h0 | h0
    · rw [h0, Nat.zero_mul] at e2; omega
    · exact h0
/-- A value in lowest terms, once more. -/
theorem can_can (z : Int) {d : Nat} (hd : 0 < d) : canR (sg (cbN z) (cnN z d)) (cdN z d) = canR z d := by
  obtain ⟨h1, h2⟩ := can_val z hd
  exact can_eq h2 hd h1
theorem cnN_le (z : Int) (d : Nat) : cnN z d ≤ z.natAbs := Nat.div_le_self _ _
theorem cdN_le (z : Int) (d : Nat) : cdN z d ≤ d := Nat.div_le_self _ _
theorem cn_zero {z : Int} {d : Nat} (hd : 0 < d) : cnN z d = 0 ↔ z = 0 := by
  obtain ⟨h1, h2⟩ := can_val z hd
  constructor
  · intro h
    rw [h, sg_zero, Int.zero_mul] at h1
    have := Int.mul_eq_zero.1 h1.symm
    omega
  · rintro rfl
    unfold cnN
    simp
theorem plus_val {z1 z2 s1 s2 : Int} {d1 d2 q1 q2 : Nat} (h1 : s1 * d1 = z1 * q1) (h2 : s2 * d2 = z2 * q2) : (s1 * q2 + s2 * q1) * ((d1 * d2 : Nat) : Int) = (z1 * d2 + z2 * d1) * ((q1 * q2 : Nat) : Int) := by
  rw [Int.natCast_mul, Int.natCast_mul]
  grind
theorem times_val {z1 z2 s1 s2 : Int} {d1 d2 q1 q2 : Nat} (h1 : s1 * d1 = z1 * q1) (h2 : s2 * d2 = z2 * q2) : (s1 * s2) * ((d1 * d2 : Nat) : Int) = (z1 * z2) * ((q1 * q2 : Nat) : Int) := by
  rw [Int.natCast_mul, Int.natCast_mul]
  grind
end Go.AM.F

/- Sums, products, quotients of quotients, by the program and by the document. No conditions. -/
namespace Go.AM.F
open Go Go.AM
set_option maxRecDepth 10000
set_option linter.unusedSimpArgs false
attribute [local simp] j0_limbs_both b_limbs_both a_limbs_both j0_limbs_Plus b_limbs_Plus a_limbs_Plus
theorem sg_add (s : Bool) (a b : Nat) : sg s (a + b) = sg s a + sg s b := by cases s <;> simp [sg] <;> omega
theorem sg_mul (s : Bool) (a b : Nat) : sg s (a * b) = sg s a * b := by cases s <;> simp [sg, Int.neg_mul]
theorem sg_sub (s : Bool) {a b : Nat} (h : b ≤ a) : sg s (a - b) = sg s a + sg (!s) b := by cases s <;> simp [sg] <;> omega
def ratF : PV := .agg [.v (.bool false), .ro 1 [], .ro 1 []]
def bothR (neg1 : Bool) (n1 d1 : Nat) (neg2 : Bool) (n2 d2 : Nat) : PV := if d1 = 0 then .tup [ratF, ratF, .v (.int .i64 11)] else if d2 = 0 then .tup [canR (sg neg1 n1) d1, rat false 0 0, .v (.int .i64 11)] else .tup [canR (sg neg1 n1) d1, canR (sg neg2 n2) d2, .v (.int .i64 0)]
theorem overR_pos (neg : Bool) (n : Nat) {d : Nat} (h : d ≠ 0) : overR neg n d = .tup [canR (sg neg n) d, .v (.int .i64 0)] := by
  unfold overR
  rw [if_neg h, rightR_can neg n d (by omega)]
theorem overR_zero (neg : Bool) (n : Nat) : overR neg n 0 = .tup [rat false 0 0, .v (.int .i64 11)] := rfl
theorem c_both (neg1 neg2 : Bool) (n1 d1 n2 d2 : List Nat) (h1 : Fit n1) (h2 : Fit d1) (h3 : Fit n2) (h4 : Fit d2) : Cinf T n_limbs_both [ratA neg1 n1 d1, ratA neg2 n2 d2] = some (bothR neg1 (val n1) (val d1) neg2 (val n2) (val d2), [.dead, .dead]) := by
  have o1 := c_Over neg1 n1 d1 h1 h2
  have o2 := c_Over neg2 n2 d2 h3 h4
  rw [run_limbs_both]
  unfold bothR
  by_cases e1 : val d1 = 0
  · rw [e1, overR_zero] at o1
    rw [if_pos e1]
    simp only [rat, limbs_zero, ul_nil] at o1
    simp [Run, ratA, ratF, o1]
  · rw [if_neg e1]
    rw [overR_pos _ _ e1] at o1
    by_cases e2 : val d2 = 0
    · rw [e2, overR_zero] at o2
      rw [if_pos e2]
      simp only [canR, rat, limbs_zero, ul_nil] at o1 o2 ⊢
      simp [Run, ratA, o1, o2]
    · rw [if_neg e2]
      rw [overR_pos _ _ e2] at o2
      simp only [canR, rat] at o1 o2 ⊢
      simp [Run, ratA, o1, o2]
/-- What Plus answers. -/
def plusR (neg1 : Bool) (n1 d1 : Nat) (neg2 : Bool) (n2 d2 : Nat) : PV := if d1 = 0 ∨ d2 = 0 then .tup [rat false 0 0, .v (.int .i64 11)] else .tup [canR (sg neg1 n1 * d2 + sg neg2 n2 * d1) (d1 * d2), .v (.int .i64 0)]
theorem fit_of {v k : Nat} (h : (limbs v).length ≤ k) (hk : k ≤ 1099511627776) : Fit (limbs v) := ⟨limbs_lim v, by omega⟩
theorem len_mul (a b : Nat) : (limbs (a * b)).length ≤ (limbs a).length + (limbs b).length := by
  have := limbs_mul_len (limbs_lim a) (limbs_lim b)
  rwa [val_limbs, val_limbs] at this
theorem len_add (a b : Nat) : (limbs (a + b)).length ≤ (limbs a).length + (limbs b).length + 1 := by
  have := limbs_add_len (limbs_lim a) (limbs_lim b)
  rwa [val_limbs, val_limbs] at this
theorem c_Plus (neg1 neg2 : Bool) (n1 d1 n2 d2 : List Nat) (h1 : Lim n1) (h2 : Lim d1) (h3 : Lim n2) (h4 : Lim d2) (l1 : n1.length ≤ 1073741824) (l2 : d1.length ≤ 1073741824) (l3 : n2.length ≤ 1073741824) (l4 : d2.length ≤ 1073741824) :
    Cinf T n_limbs_Plus [ratA neg1 n1 d1, ratA neg2 n2 d2] = some (plusR neg1 (val n1) (val d1) neg2 (val n2) (val d2), [.dead, .dead]) := by
  have hb := c_both neg1 neg2 n1 d1 n2 d2 ⟨h1, by omega⟩ ⟨h2, by omega⟩ ⟨h3, by omega⟩ ⟨h4, by omega⟩
  rw [run_limbs_Plus]
  unfold bothR at hb
  unfold plusR
  by_cases e1 : val d1 = 0
  · rw [if_pos e1] at hb
    rw [if_pos (.inl e1)]
    simp only [ratA, ratF] at hb ⊢
    simp [Run, rat, limbs_zero, hb]
  rw [if_neg e1] at hb
  by_cases e2 : val d2 = 0
  · rw [if_pos e2] at hb
    rw [if_pos (.inr e2)]
    simp only [ratA, canR, rat, limbs_zero, ul_nil] at hb ⊢
    simp [Run, hb]
  rw [if_neg e2] at hb
  rw [if_neg (by omega)]
  obtain ⟨v1, p1⟩ := can_val (sg neg1 (val n1)) (d := val d1) (by omega)
  obtain ⟨v2, p2⟩ := can_val (sg neg2 (val n2)) (d := val d2) (by omega)
  have b1 := limbs_le h1 (v := cnN (sg neg1 (val n1)) (val d1)) (by have := cnN_le (sg neg1 (val n1)) (val d1); rwa [sg_abs] at this)
  have b2 := limbs_le h2 (v := cdN (sg neg1 (val n1)) (val d1)) (cdN_le _ _)
  have b3 := limbs_le h3 (v := cnN (sg neg2 (val n2)) (val d2)) (by have := cnN_le (sg neg2 (val n2)) (val d2); rwa [sg_abs] at this)
  have b4 := limbs_le h4 (v := cdN (sg neg2 (val n2)) (val d2)) (cdN_le _ _)
  have key := plus_val v1 v2
  have hdd : 0 < val d1 * val d2 := Nat.mul_pos (by omega) (by omega)
  simp only [canR] at hb
  obtain ⟨s1, hs1⟩ : ∃ s, cbN (sg neg1 (val n1)) = s := ⟨_, rfl⟩
  obtain ⟨s2, hs2⟩ : ∃ s, cbN (sg neg2 (val n2)) = s := ⟨_, rfl⟩
  obtain ⟨n1', hn1⟩ : ∃ s, cnN (sg neg1 (val n1)) (val d1) = s := ⟨_, rfl⟩
  obtain ⟨n2', hn2⟩ : ∃ s, cnN (sg neg2 (val n2)) (val d2) = s := ⟨_, rfl⟩
  obtain ⟨q1, hq1⟩ : ∃ s, cdN (sg neg1 (val n1)) (val d1) = s := ⟨_, rfl⟩
  obtain ⟨q2, hq2⟩ : ∃ s, cdN (sg neg2 (val n2)) (val d2) = s := ⟨_, rfl⟩
  rw [hs1, hn1, hq1, hs2, hn2, hq2] at hb
  rw [hs1, hn1, hq1, hs2, hn2, hq2] at key
  rw [hq1] at p1 b2
  rw [hq2] at p2 b4
  rw [hn1] at b1
  rw [hn2] at b3
  have m1l := len_mul n1' q2
  have m2l := len_mul n2' q1
  have m3l := len_mul q1 q2
  have m1 := c_Mul (limbs n1') (limbs q2) (fit_of b1 (by omega)) (fit_of b4 (by omega))
  have m2 := c_Mul (limbs n2') (limbs q1) (fit_of b3 (by omega)) (fit_of b2 (by omega))
  have m3 := c_Mul (limbs q1) (limbs q2) (fit_of b2 (by omega)) (fit_of b4 (by omega))
  rw [val_limbs, val_limbs] at m1 m2 m3
  have hqq : 0 < q1 * q2 := Nat.mul_pos p1 p2
  have f1 : Fit (limbs (n1' * q2)) := fit_of (k := 2147483648) (by omega) (by omega)
  have f2 : Fit (limbs (n2' * q1)) := fit_of (k := 2147483648) (by omega) (by omega)
  have f3 : Fit (limbs (q1 * q2)) := fit_of (k := 2147483648) (by omega) (by omega)
  have hc := c_Cmp (limbs (n1' * q2)) (limbs (n2' * q1)) f1 f2
  rw [val_limbs, val_limbs] at hc
  have e3 : canR (sg neg1 (val n1) * (val d2 : Nat) + sg neg2 (val n2) * (val d1 : Nat)) (val d1 * val d2) = canR (sg s1 n1' * q2 + sg s2 n2' * q1) (q1 * q2) := (can_eq hqq hdd key).symm
  rw [e3]
  have hr : ∀ (s : Bool) (v : Nat), (limbs v).length ≤ 8589934592 → sg s v = sg s1 n1' * q2 + sg s2 n2' * q1 → Cinf T n_limbs_right [.v (.bool s), .ro 1 (ul (limbs v)), .ro 1 (ul (limbs (q1 * q2)))] = some (canR (sg s1 n1' * q2 + sg s2 n2' * q1) (q1 * q2), [.dead, .dead, .dead]) := by
    intro s v hv he
    have := c_right s (limbs v) (limbs (q1 * q2)) (fit_of hv (by omega)) f3 (by rw [val_limbs]; omega)
    rw [val_limbs, val_limbs, rightR_can _ _ _ hqq, he] at this
    exact this
  by_cases hss : s1 = s2
  · subst hss
    have ha := c_Add (limbs (n1' * q2)) (limbs (n2' * q1)) f1 f2
    rw [val_limbs, val_limbs] at ha
    have hal := len_add (n1' * q2) (n2' * q1)
    have h5 := hr s1 (n1' * q2 + n2' * q1) (by omega) (by rw [sg_add, sg_mul, sg_mul])
    simp only [ratA, canR, rat] at hb h5 ⊢
    simp [Run, hb, m1, m2, m3, hc, ha, h5]
  · have hs : s1 = !s2 := by cases s1 <;> cases s2 <;> simp at hss ⊢
    have hs' : s2 = !s1 := by cases s1 <;> cases s2 <;> simp at hss ⊢
    by_cases hlt : n1' * q2 < n2' * q1
    · rw [cmp_lt hlt] at hc
      have hsub := c_sub (limbs (n2' * q1)) (limbs (n1' * q2)) f2 f1 (limbs_mono (by omega)) (by rw [val_limbs, val_limbs]; omega)
      rw [val_limbs, val_limbs] at hsub
      have hml := limbs_mono (m := n2' * q1 - n1' * q2) (n := n2' * q1) (by omega)
      have h5 := hr s2 (n2' * q1 - n1' * q2) (by omega) (by rw [sg_sub s2 (by omega), sg_mul, sg_mul, ← hs, Int.add_comm])
      simp only [ratA, canR, rat] at hb h5 ⊢
      simp [Run, hb, m1, m2, m3, hc, hss, hsub, h5]
    · have hcn : ¬ cmpN (n1' * q2) (n2' * q1) < 0 := by
        unfold cmpN
        rw [if_neg hlt]
        split <;> decide
      have hsub := c_sub (limbs (n1' * q2)) (limbs (n2' * q1)) f1 f2 (limbs_mono (by omega)) (by rw [val_limbs, val_limbs]; omega)
      rw [val_limbs, val_limbs] at hsub
      have hml := limbs_mono (m := n1' * q2 - n2' * q1) (n := n1' * q2) (by omega)
      have h5 := hr s1 (n1' * q2 - n2' * q1) (by omega) (by rw [sg_sub s1 (by omega), sg_mul, sg_mul, ← hs'])
      simp only [ratA, canR, rat] at hb h5 ⊢
      simp [Run, hb, m1, m2, m3, hc, hcn, hss, hsub, h5]
end Go.AM.F

/- The other operations on quotients. No conditions. -/
namespace Go.AM.F
open Go Go.AM
set_option maxRecDepth 10000
set_option linter.unusedSimpArgs false
attribute [local simp] b_limbs_Minus a_limbs_Minus
theorem len_sub (a b : Nat) : (limbs (a - b)).length ≤ (limbs a).length := limbs_mono (Nat.sub_le a b)
/-- An answer that is a quotient and a fault's number. -/
def RatAns (x : PV) : Prop := ∃ (s : Bool) (n d e : Nat), x = .tup [rat s n d, .v (.int .i64 e)] ∧ (limbs n).length ≤ 4398046511104 ∧ (limbs d).length ≤ 4398046511104
theorem ans_zero : RatAns (.tup [rat false 0 0, .v (.int .i64 11)]) := ⟨false, 0, 0, 11, rfl, by rw [limbs_zero]; simp, by rw [limbs_zero]; simp⟩
theorem ans_can {z : Int} {d k m : Nat} (h1 : z.natAbs ≤ k) (h2 : (limbs k).length ≤ 4398046511104) (h3 : d ≤ m) (h4 : (limbs m).length ≤ 4398046511104) : RatAns (.tup [canR z d, .v (.int .i64 0)]) :=
  ⟨cbN z, cnN z d, cdN z d, 0, rfl, Nat.le_trans (limbs_mono (Nat.le_trans (cnN_le z d) h1)) h2, Nat.le_trans (limbs_mono (Nat.le_trans (cdN_le z d) h3)) h4⟩
theorem ans_plus {neg1 neg2 : Bool} {n1 d1 n2 d2 : Nat} (l1 : (limbs n1).length ≤ 1073741824) (l2 : (limbs d1).length ≤ 1073741824) (l3 : (limbs n2).length ≤ 1073741824) (l4 : (limbs d2).length ≤ 1073741824) : RatAns (plusR neg1 n1 d1 neg2 n2 d2) := by
  unfold plusR
  split
  · exact ans_zero
  · have m1 := len_mul n1 d2
    have m2 := len_mul n2 d1
    have m3 := len_mul d1 d2
    have m4 := len_add (n1 * d2) (n2 * d1)
    refine ans_can (k := n1 * d2 + n2 * d1) (m := d1 * d2) ?_ (by omega) (Nat.le_refl _) (by omega)
    refine Nat.le_trans (Int.natAbs_add_le _ _) ?_
    rw [Int.natAbs_mul, Int.natAbs_mul, sg_abs, sg_abs, Int.natAbs_natCast, Int.natAbs_natCast]
    exact Nat.le_refl _
theorem c_Minus (neg1 neg2 : Bool) (n1 d1 n2 d2 : List Nat) (h1 : Lim n1) (h2 : Lim d1) (h3 : Lim n2) (h4 : Lim d2) (l1 : n1.length ≤ 1073741824) (l2 : d1.length ≤ 1073741824) (l3 : n2.length ≤ 1073741824) (l4 : d2.length ≤ 1073741824) :
    Cinf T n_limbs_Minus [ratA neg1 n1 d1, ratA neg2 n2 d2] = some (plusR neg1 (val n1) (val d1) (!neg2) (val n2) (val d2), [.dead, .dead]) := by
  have h := c_Plus neg1 (!neg2) n1 d1 n2 d2 h1 h2 h3 h4 l1 l2 l3 l4
  obtain ⟨s, n, d, e, he, _⟩ := ans_plus (neg1 := neg1) (neg2 := !neg2) (n1 := val n1) (d1 := val d1) (n2 := val n2) (d2 := val d2) (Nat.le_trans (limbs_len h1) l1) (Nat.le_trans (limbs_len h2) l2) (Nat.le_trans (limbs_len h3) l3) (Nat.le_trans (limbs_len h4) l4)
  rw [he] at h ⊢
  rw [run_limbs_Minus]
  simp only [ratA, rat] at h ⊢
  simp [Run, h]
end Go.AM.F

/- Products, quotients, orders of quotients; every operation on them. No conditions. -/
namespace Go.AM.F
open Go Go.AM
set_option maxRecDepth 10000
set_option linter.unusedSimpArgs false
attribute [local simp] j0_limbs_Times b_limbs_Times a_limbs_Times j0_limbs_By b_limbs_By a_limbs_By j0_limbs_Order b_limbs_Order a_limbs_Order j0_limbs_Whole b_limbs_Whole a_limbs_Whole
/-- Two signs under a product. -/
def sx (s t : Bool) : Bool := !decide (s = t)
theorem sg_sx (s t : Bool) (a b : Nat) : sg (sx s t) (a * b) = sg s a * sg t b := by
  cases s <;> cases t <;> simp [sg, sx, Int.neg_mul, Int.mul_neg]
def timesR (neg1 : Bool) (n1 d1 : Nat) (neg2 : Bool) (n2 d2 : Nat) : PV := if d1 = 0 ∨ d2 = 0 then .tup [rat false 0 0, .v (.int .i64 11)] else .tup [canR (sg neg1 n1 * sg neg2 n2) (d1 * d2), .v (.int .i64 0)]
def byR (neg1 : Bool) (n1 d1 : Nat) (neg2 : Bool) (n2 d2 : Nat) : PV := if d1 = 0 ∨ d2 = 0 ∨ n2 = 0 then .tup [rat false 0 0, .v (.int .i64 11)] else .tup [canR (sg (sx neg1 neg2) (n1 * d2)) (d1 * n2), .v (.int .i64 0)]
theorem by_val {neg2 : Bool} {z1 s1 : Int} {n2 d1 d2 q1 p2 q2 : Nat} (h1 : s1 * d1 = z1 * q1) (h2 : p2 * d2 = n2 * q2) : (s1 * q2 * sg neg2 1) * ((d1 * n2 : Nat) : Int) = (z1 * d2 * sg neg2 1) * ((q1 * p2 : Nat) : Int) := by
  have h3 : (p2 : Int) * d2 = n2 * q2 := by exact_mod_cast h2
  rw [Int.natCast_mul, Int.natCast_mul]
  grind
theorem sg_sx_one (s t : Bool) (a : Nat) : sg (sx s t) a = sg s a * sg t 1 := by rw [← sg_sx, Nat.mul_one]
section
variable {neg1 neg2 : Bool} {n1 d1 n2 d2 : List Nat}
theorem c_Times (h1 : Lim n1) (h2 : Lim d1) (h3 : Lim n2) (h4 : Lim d2) (l1 : n1.length ≤ 1073741824) (l2 : d1.length ≤ 1073741824) (l3 : n2.length ≤ 1073741824) (l4 : d2.length ≤ 1073741824) :
    Cinf T n_limbs_Times [ratA neg1 n1 d1, ratA neg2 n2 d2] = some (timesR neg1 (val n1) (val d1) neg2 (val n2) (val d2), [.dead, .dead]) := by
  have hb := c_both neg1 neg2 n1 d1 n2 d2 ⟨h1, by omega⟩ ⟨h2, by omega⟩ ⟨h3, by omega⟩ ⟨h4, by omega⟩
  rw [run_limbs_Times]
  unfold bothR at hb
  unfold timesR
  by_cases e1 : val d1 = 0
  · rw [if_pos e1] at hb
    rw [if_pos (.inl e1)]
    simp only [ratA, ratF] at hb ⊢
    simp [Run, rat, limbs_zero, hb]
  rw [if_neg e1] at hb
  by_cases e2 : val d2 = 0
  · rw [if_pos e2] at hb
    rw [if_pos (.inr e2)]
    simp only [ratA, canR, rat, limbs_zero, ul_nil] at hb ⊢
    simp [Run, hb]
  rw [if_neg e2] at hb
  rw [if_neg (by omega)]
  obtain ⟨v1, p1⟩ := can_val (sg neg1 (val n1)) (d := val d1) (by omega)
  obtain ⟨v2, p2⟩ := can_val (sg neg2 (val n2)) (d := val d2) (by omega)
  have b1 := limbs_le h1 (v := cnN (sg neg1 (val n1)) (val d1)) (by have := cnN_le (sg neg1 (val n1)) (val d1); rwa [sg_abs] at this)
  have b2 := limbs_le h2 (v := cdN (sg neg1 (val n1)) (val d1)) (cdN_le _ _)
  have b3 := limbs_le h3 (v := cnN (sg neg2 (val n2)) (val d2)) (by have := cnN_le (sg neg2 (val n2)) (val d2); rwa [sg_abs] at this)
  have b4 := limbs_le h4 (v := cdN (sg neg2 (val n2)) (val d2)) (cdN_le _ _)
  have key := times_val v1 v2
  have hdd : 0 < val d1 * val d2 := Nat.mul_pos (by omega) (by omega)
  have hqq := Nat.mul_pos p1 p2
  have e3 := can_eq hqq hdd key
  simp only [canR] at hb
  obtain ⟨s1, hs1⟩ : ∃ s, cbN (sg neg1 (val n1)) = s := ⟨_, rfl⟩
  obtain ⟨s2, hs2⟩ : ∃ s, cbN (sg neg2 (val n2)) = s := ⟨_, rfl⟩
  obtain ⟨n1', hn1⟩ : ∃ s, cnN (sg neg1 (val n1)) (val d1) = s := ⟨_, rfl⟩
  obtain ⟨n2', hn2⟩ : ∃ s, cnN (sg neg2 (val n2)) (val d2) = s := ⟨_, rfl⟩
  obtain ⟨q1, hq1⟩ : ∃ s, cdN (sg neg1 (val n1)) (val d1) = s := ⟨_, rfl⟩
  obtain ⟨q2, hq2⟩ : ∃ s, cdN (sg neg2 (val n2)) (val d2) = s := ⟨_, rfl⟩
  rw [hs1, hn1, hq1, hs2, hn2, hq2] at hb e3
  rw [hq1, hq2] at hqq
  rw [hq1] at p1 b2
  rw [hq2] at p2 b4
  rw [hn1] at b1
  rw [hn2] at b3
  have m1l := len_mul n1' n2'
  have m3l := len_mul q1 q2
  have m1 := c_Mul (limbs n1') (limbs n2') (fit_of b1 (by omega)) (fit_of b3 (by omega))
  have m3 := c_Mul (limbs q1) (limbs q2) (fit_of b2 (by omega)) (fit_of b4 (by omega))
  rw [val_limbs, val_limbs] at m1 m3
  have h5 := c_right (sx s1 s2) (limbs (n1' * n2')) (limbs (q1 * q2)) (fit_of (k := 2147483648) (by omega) (by omega)) (fit_of (k := 2147483648) (by omega) (by omega)) (by rw [val_limbs]; omega)
  rw [val_limbs, val_limbs, rightR_can _ _ _ hqq, sg_sx] at h5
  rw [← e3]
  simp only [ratA, canR, rat, sx] at hb h5 ⊢
  simp [Run, hb, m1, m3, h5]
theorem c_By (h1 : Lim n1) (h2 : Lim d1) (h3 : Lim n2) (h4 : Lim d2) (l1 : n1.length ≤ 1073741824) (l2 : d1.length ≤ 1073741824) (l3 : n2.length ≤ 1073741824) (l4 : d2.length ≤ 1073741824) :
    Cinf T n_limbs_By [ratA neg1 n1 d1, ratA neg2 n2 d2] = some (byR neg1 (val n1) (val d1) neg2 (val n2) (val d2), [.dead, .dead]) := by
  have hb := c_both neg1 neg2 n1 d1 n2 d2 ⟨h1, by omega⟩ ⟨h2, by omega⟩ ⟨h3, by omega⟩ ⟨h4, by omega⟩
  rw [run_limbs_By]
  unfold bothR at hb
  unfold byR
  by_cases e1 : val d1 = 0
  · rw [if_pos e1] at hb
    rw [if_pos (.inl e1)]
    simp only [ratA, ratF] at hb ⊢
    simp [Run, rat, limbs_zero, hb]
  rw [if_neg e1] at hb
  by_cases e2 : val d2 = 0
  · rw [if_pos e2] at hb
    rw [if_pos (.inr (.inl e2))]
    simp only [ratA, canR, rat, limbs_zero, ul_nil] at hb ⊢
    simp [Run, hb]
  rw [if_neg e2] at hb
  obtain ⟨v1, p1⟩ := can_val (sg neg1 (val n1)) (d := val d1) (by omega)
  obtain ⟨v2, p2⟩ := can_val (sg neg2 (val n2)) (d := val d2) (by omega)
  have b1 := limbs_le h1 (v := cnN (sg neg1 (val n1)) (val d1)) (by have := cnN_le (sg neg1 (val n1)) (val d1); rwa [sg_abs] at this)
  have b2 := limbs_le h2 (v := cdN (sg neg1 (val n1)) (val d1)) (cdN_le _ _)
  have b3 := limbs_le h3 (v := cnN (sg neg2 (val n2)) (val d2)) (by have := cnN_le (sg neg2 (val n2)) (val d2); rwa [sg_abs] at this)
  have b4 := limbs_le h4 (v := cdN (sg neg2 (val n2)) (val d2)) (cdN_le _ _)
  have hz := cn_zero (z := sg neg2 (val n2)) (d := val d2) (by omega)
  simp only [canR] at hb
  by_cases e3 : val n2 = 0
  · rw [if_pos (.inr (.inr e3))]
    rw [e3, sg_zero] at hb hz
    rw [hz.2 rfl] at hb
    simp only [ratA, rat, limbs_zero, ul_nil] at hb ⊢
    simp [Run, hb]
  rw [if_neg (by omega)]
  have hcb : cbN (sg neg2 (val n2)) = neg2 := sg_neg e3
  have hpz : cnN (sg neg2 (val n2)) (val d2) ≠ 0 := fun h => by
    have := hz.1 h
    have h2 := congrArg Int.natAbs this
    rw [sg_abs] at h2
    exact e3 h2
  rw [hcb] at hb v2
  have v2n : cnN (sg neg2 (val n2)) (val d2) * val d2 = val n2 * cdN (sg neg2 (val n2)) (val d2) := by
    have := congrArg Int.natAbs v2
    rwa [Int.natAbs_mul, Int.natAbs_mul, sg_abs, sg_abs, Int.natAbs_natCast, Int.natAbs_natCast] at this
  obtain ⟨s1, hs1⟩ : ∃ s, cbN (sg neg1 (val n1)) = s := ⟨_, rfl⟩
  obtain ⟨n1', hn1⟩ : ∃ s, cnN (sg neg1 (val n1)) (val d1) = s := ⟨_, rfl⟩
  obtain ⟨n2', hn2⟩ : ∃ s, cnN (sg neg2 (val n2)) (val d2) = s := ⟨_, rfl⟩
  obtain ⟨q1, hq1⟩ : ∃ s, cdN (sg neg1 (val n1)) (val d1) = s := ⟨_, rfl⟩
  obtain ⟨q2, hq2⟩ : ∃ s, cdN (sg neg2 (val n2)) (val d2) = s := ⟨_, rfl⟩
  rw [hs1, hn1, hq1, hn2, hq2] at hb
  rw [hs1, hn1, hq1] at v1
  rw [hn2, hq2] at v2n
  rw [hn2] at hpz b3
  rw [hq1] at p1 b2
  rw [hq2] at p2 b4
  rw [hn1] at b1
  have hdd : 0 < val d1 * val n2 := Nat.mul_pos (by omega) (by omega)
  have hqq : 0 < q1 * n2' := Nat.mul_pos p1 (by omega)
  have key := by_val (neg2 := neg2) v1 v2n
  rw [← sg_mul, ← sg_mul, ← sg_sx_one, ← sg_sx_one] at key
  rw [← can_eq hqq hdd key]
  have m1l := len_mul n1' q2
  have m3l := len_mul q1 n2'
  have m1 := c_Mul (limbs n1') (limbs q2) (fit_of b1 (by omega)) (fit_of b4 (by omega))
  have m3 := c_Mul (limbs q1) (limbs n2') (fit_of b2 (by omega)) (fit_of b3 (by omega))
  rw [val_limbs, val_limbs] at m1 m3
  have h5 := c_right (sx s1 neg2) (limbs (n1' * q2)) (limbs (q1 * n2')) (fit_of (k := 2147483648) (by omega) (by omega)) (fit_of (k := 2147483648) (by omega) (by omega)) (by rw [val_limbs]; omega)
  rw [val_limbs, val_limbs, rightR_can _ _ _ hqq] at h5
  have hne : ¬ limbs n2' = [] := by rw [limbs_pos hpz]; simp
  simp only [ratA, canR, rat, sx] at hb h5 ⊢
  simp [Run, hb, hne, m1, m3, h5]
end
end Go.AM.F

/- Orders of quotients, quotients of whole numbers; every operation on quotients. No conditions. -/
namespace Go.AM.F
open Go Go.AM
set_option maxRecDepth 10000
set_option linter.unusedSimpArgs false
attribute [local simp] j0_limbs_Order b_limbs_Order a_limbs_Order j0_limbs_Whole b_limbs_Whole a_limbs_Whole
/-- A number's sign, as a number. -/
def sgnZ (z : Int) : Int := if z = 0 then 0 else if z < 0 then -1 else 1
def orderR (neg1 : Bool) (n1 d1 : Nat) (neg2 : Bool) (n2 d2 : Nat) : PV := if d1 = 0 ∨ d2 = 0 then .tup [.v (.int .i64 0), .v (.int .i64 11)] else .tup [.v (.int .i64 (sgnZ (sg neg1 n1 * d2 - sg neg2 n2 * d1))), .v (.int .i64 0)]
section
variable {neg1 neg2 : Bool} {n1 d1 n2 d2 : List Nat}
theorem c_Order (h1 : Lim n1) (h2 : Lim d1) (h3 : Lim n2) (h4 : Lim d2) (l1 : n1.length ≤ 1073741824) (l2 : d1.length ≤ 1073741824) (l3 : n2.length ≤ 1073741824) (l4 : d2.length ≤ 1073741824) :
    Cinf T n_limbs_Order [ratA neg1 n1 d1, ratA neg2 n2 d2] = some (orderR neg1 (val n1) (val d1) neg2 (val n2) (val d2), [.dead, .dead]) := by
  have hm := c_Minus neg1 neg2 n1 d1 n2 d2 h1 h2 h3 h4 l1 l2 l3 l4
  rw [run_limbs_Order]
  unfold plusR at hm
  unfold orderR
  by_cases e : val d1 = 0 ∨ val d2 = 0
  · rw [if_pos e] at hm ⊢
    simp only [ratA, rat, limbs_zero, ul_nil] at hm ⊢
    simp [Run, hm]
  · rw [if_neg e] at hm ⊢
    rw [sg_not, Int.neg_mul, ← Int.sub_eq_add_neg] at hm
    have hdd : 0 < val d1 * val d2 := Nat.mul_pos (by omega) (by omega)
    obtain ⟨Z, hZ⟩ : ∃ Z, sg neg1 (val n1) * (val d2 : Nat) - sg neg2 (val n2) * (val d1 : Nat) = Z := ⟨_, rfl⟩
    obtain ⟨D, hD⟩ : ∃ D, val d1 * val d2 = D := ⟨_, rfl⟩
    rw [hZ] at hm ⊢
    rw [hD] at hm hdd
    have hz := cn_zero (z := Z) hdd
    unfold sgnZ
    by_cases h0 : Z = 0
    · rw [if_pos h0]
      simp only [ratA, canR, rat] at hm ⊢
      rw [hz.2 h0, limbs_zero, ul_nil] at hm
      simp [Run, hm]
    · rw [if_neg h0]
      have hne : ¬ limbs (cnN Z D) = [] := by rw [limbs_pos fun h => h0 (hz.1 h)]; simp
      by_cases hneg : Z < 0
      · rw [if_pos hneg]
        have hb : cbN Z = true := decide_eq_true hneg
        simp only [ratA, canR, rat, hb] at hm ⊢
        simp [Run, hm, hne]
      · rw [if_neg hneg]
        have hb : cbN Z = false := decide_eq_false hneg
        simp only [ratA, canR, rat, hb] at hm ⊢
        simp [Run, hm, hne]
end
theorem ul_one : ul (limbs 1) = [.v (.int .u32 1)] := by rw [limbs_one]; rfl
theorem c_Whole (n : Int) (h1 : -9223372036854775808 ≤ n) (h2 : n < 9223372036854775808) : Cinf T n_limbs_Whole [.v (.int .i64 n)] = some (rat (decide (n < 0)) n.natAbs 1, [.dead]) := by
  have hf := c_From n.natAbs (by omega)
  rw [run_limbs_Whole]
  obtain ⟨m, hm⟩ : ∃ m, n.natAbs = m := ⟨_, rfl⟩
  rw [hm] at hf ⊢
  unfold rat
  rw [ul_one]
  by_cases hn : n < 0
  · have w1 : IntKind.u64.wrap n = n + 18446744073709551616 := by
      simp only [IntKind.wrap, IntKind.signed, IntKind.bits]
      simp
      omega
    have w2 : IntKind.u64.wrap (0 - (n + 18446744073709551616)) = (m : Int) := by
      simp only [IntKind.wrap, IntKind.signed, IntKind.bits]
      simp
      omega
    simp at w2
    simp [Run, hn, w1, w2, hf]
  · have w1 : IntKind.u64.wrap n = (m : Int) := by rw [wrap_u64] <;> omega
    simp [Run, hn, w1, hf]
theorem rightR_one (s : Bool) {n : Nat} (h : n ≠ 0) : rightR s n 1 = rat s n 1 := by
  unfold rightR
  rw [if_neg h, Nat.gcd_one_right, Nat.div_one, Nat.div_one]
theorem ans_times {neg1 neg2 : Bool} {n1 d1 n2 d2 : Nat} (l1 : (limbs n1).length ≤ 1073741824) (l2 : (limbs d1).length ≤ 1073741824) (l3 : (limbs n2).length ≤ 1073741824) (l4 : (limbs d2).length ≤ 1073741824) : RatAns (timesR neg1 n1 d1 neg2 n2 d2) := by
  unfold timesR
  split
  · exact ans_zero
  · have m1 := len_mul n1 n2
    have m3 := len_mul d1 d2
    refine ans_can (k := n1 * n2) (m := d1 * d2) ?_ (by omega) (Nat.le_refl _) (by omega)
    rw [Int.natAbs_mul, sg_abs, sg_abs]
    exact Nat.le_refl _
theorem ans_by {neg1 neg2 : Bool} {n1 d1 n2 d2 : Nat} (l1 : (limbs n1).length ≤ 1073741824) (l2 : (limbs d1).length ≤ 1073741824) (l3 : (limbs n2).length ≤ 1073741824) (l4 : (limbs d2).length ≤ 1073741824) : RatAns (byR neg1 n1 d1 neg2 n2 d2) := by
  unfold byR
  split
  · exact ans_zero
  · have m1 := len_mul n1 d2
    have m3 := len_mul d1 n2
    refine ans_can (k := n1 * d2) (m := d1 * n2) ?_ (by omega) (Nat.le_refl _) (by omega)
    rw [sg_abs]
    exact Nat.le_refl _
theorem ans_over {neg : Bool} {n d : Nat} (l1 : (limbs n).length ≤ 1073741824) (l2 : (limbs d).length ≤ 1073741824) : RatAns (overR neg n d) := by
  by_cases h : d = 0
  · rw [h, overR_zero]; exact ans_zero
  · rw [overR_pos _ _ h]
    exact ans_can (k := n) (m := d) (by rw [sg_abs]; exact Nat.le_refl _) (by omega) (Nat.le_refl _) (by omega)
end Go.AM.F

/- The laws of quotients, without the document. No conditions. -/
namespace Go.AM.F
open Go Go.AM
set_option maxRecDepth 10000
set_option linter.unusedSimpArgs false
/-- A value as it is handed on: in lowest terms, lent. -/
def canA (z : Int) (d : Nat) : PV := ratA (cbN z) (limbs (cnN z d)) (limbs (cdN z d))
/-- A value whose parts are no longer than so many limbs. -/
structure Rt (z : Int) (d k : Nat) : Prop where
  pos : 0 < d
  num : (limbs z.natAbs).length ≤ k
  den : (limbs d).length ≤ k
theorem Rt.num' {z : Int} {d k : Nat} (h : Rt z d k) : (limbs (cnN z d)).length ≤ k := Nat.le_trans (limbs_mono (cnN_le z d)) h.num
theorem Rt.den' {z : Int} {d k : Nat} (h : Rt z d k) : (limbs (cdN z d)).length ≤ k := Nat.le_trans (limbs_mono (cdN_le z d)) h.den
theorem Rt.plus {z z' : Int} {d d' k k' : Nat} (h : Rt z d k) (h' : Rt z' d' k') : Rt (z * d' + z' * d) (d * d') (2 * (k + k') + 1) := by
  refine ⟨Nat.mul_pos h.pos h'.pos, ?_, ?_⟩
  · have e : (z * d' + z' * d).natAbs ≤ z.natAbs * d' + z'.natAbs * d := by
      refine Nat.le_trans (Int.natAbs_add_le _ _) ?_
      rw [Int.natAbs_mul, Int.natAbs_mul, Int.natAbs_natCast, Int.natAbs_natCast]
      exact Nat.le_refl _
    have m1 := len_mul z.natAbs d'
    have m2 := len_mul z'.natAbs d
    have m3 := len_add (z.natAbs * d') (z'.natAbs * d)
    have := limbs_mono e
    have := h.num
    have := h.den
    have := h'.num
    have := h'.den
    omega
  · have := len_mul d d'
    have := h.den
    have := h'.den
    omega
theorem Rt.times {z z' : Int} {d d' k k' : Nat} (h : Rt z d k) (h' : Rt z' d' k') : Rt (z * z') (d * d') (2 * (k + k') + 1) := by
  refine ⟨Nat.mul_pos h.pos h'.pos, ?_, ?_⟩
  · rw [Int.natAbs_mul]
    have := len_mul z.natAbs z'.natAbs
    have := h.num
    have := h'.num
    omega
  · have := len_mul d d'
    have := h.den
    have := h'.den
    omega
theorem Rt.neg {z : Int} {d k : Nat} (h : Rt z d k) : Rt (-z) d k := ⟨h.pos, by rw [Int.natAbs_neg]; exact h.num, h.den⟩
section
variable {z z' : Int} {d d' k k' : Nat}
theorem c_PlusC (h : Rt z d k) (h' : Rt z' d' k') (hk : k ≤ 1073741824) (hk' : k' ≤ 1073741824) : Cinf T n_limbs_Plus [canA z d, canA z' d'] = some (.tup [canR (z * d' + z' * d) (d * d'), .v (.int .i64 0)], [.dead, .dead]) := by
  have := c_Plus (cbN z) (cbN z') (limbs (cnN z d)) (limbs (cdN z d)) (limbs (cnN z' d')) (limbs (cdN z' d')) (limbs_lim _) (limbs_lim _) (limbs_lim _) (limbs_lim _) (by have := h.num'; omega) (by have := h.den'; omega) (by have := h'.num'; omega) (by have := h'.den'; omega)
  obtain ⟨v1, p1⟩ := can_val z h.pos
  obtain ⟨v2, p2⟩ := can_val z' h'.pos
  simp only [val_limbs] at this
  unfold plusR at this
  rw [if_neg (by omega), can_eq (Nat.mul_pos p1 p2) (Nat.mul_pos h.pos h'.pos) (plus_val v1 v2)] at this
  exact this
theorem c_MinusC (h : Rt z d k) (h' : Rt z' d' k') (hk : k ≤ 1073741824) (hk' : k' ≤ 1073741824) : Cinf T n_limbs_Minus [canA z d, canA z' d'] = some (.tup [canR (z * d' + -z' * d) (d * d'), .v (.int .i64 0)], [.dead, .dead]) := by
  have := c_Minus (cbN z) (cbN z') (limbs (cnN z d)) (limbs (cdN z d)) (limbs (cnN z' d')) (limbs (cdN z' d')) (limbs_lim _) (limbs_lim _) (limbs_lim _) (limbs_lim _) (by have := h.num'; omega) (by have := h.den'; omega) (by have := h'.num'; omega) (by have := h'.den'; omega)
  obtain ⟨v1, p1⟩ := can_val z h.pos
  obtain ⟨v2, p2⟩ := can_val z' h'.pos
  simp only [val_limbs] at this
  unfold plusR at this
  rw [if_neg (by omega), sg_not, can_eq (Nat.mul_pos p1 p2) (Nat.mul_pos h.pos h'.pos) (plus_val v1 (show -sg (cbN z') (cnN z' d') * (d' : Nat) = -z' * (cdN z' d' : Nat) by rw [Int.neg_mul, Int.neg_mul, v2]))] at this
  exact this
theorem c_TimesC (h : Rt z d k) (h' : Rt z' d' k') (hk : k ≤ 1073741824) (hk' : k' ≤ 1073741824) : Cinf T n_limbs_Times [canA z d, canA z' d'] = some (.tup [canR (z * z') (d * d'), .v (.int .i64 0)], [.dead, .dead]) := by
  have := c_Times (neg1 := cbN z) (neg2 := cbN z') (limbs_lim (cnN z d)) (limbs_lim (cdN z d)) (limbs_lim (cnN z' d')) (limbs_lim (cdN z' d')) (by have := h.num'; omega) (by have := h.den'; omega) (by have := h'.num'; omega) (by have := h'.den'; omega)
  obtain ⟨v1, p1⟩ := can_val z h.pos
  obtain ⟨v2, p2⟩ := can_val z' h'.pos
  simp only [val_limbs] at this
  unfold timesR at this
  rw [if_neg (by omega), can_eq (Nat.mul_pos p1 p2) (Nat.mul_pos h.pos h'.pos) (times_val v1 v2)] at this
  exact this
/-- A quotient of two: by 0 it is a fault; else it is what, times the second, is the first. -/
theorem c_ByC (h : Rt z d k) (h' : Rt z' d' k') (hk : k ≤ 1073741824) (hk' : k' ≤ 1073741824) : if z' = 0 then Cinf T n_limbs_By [canA z d, canA z' d'] = some (.tup [rat false 0 0, .v (.int .i64 11)], [.dead, .dead])
    else ∃ y e, Cinf T n_limbs_By [canA z d, canA z' d'] = some (.tup [canR y e, .v (.int .i64 0)], [.dead, .dead]) ∧ Rt y e (k + k') ∧ y * (z' * d) = z * d' * e := by
  have := c_By (neg1 := cbN z) (neg2 := cbN z') (limbs_lim (cnN z d)) (limbs_lim (cdN z d)) (limbs_lim (cnN z' d')) (limbs_lim (cdN z' d')) (by have := h.num'; omega) (by have := h.den'; omega) (by have := h'.num'; omega) (by have := h'.den'; omega)
  obtain ⟨v1, p1⟩ := can_val z h.pos
  obtain ⟨v2, p2⟩ := can_val z' h'.pos
  have hz := cn_zero (z := z') h'.pos
  simp only [val_limbs] at this
  unfold byR at this
  split
  · rename_i h0
    rw [if_pos (.inr (.inr (hz.2 h0)))] at this
    exact this
  · rename_i h0
    have hn : cnN z' d' ≠ 0 := fun e => h0 (hz.1 e)
    rw [if_neg (by omega)] at this
    refine ⟨_, _, this, ⟨Nat.mul_pos p1 (by omega), ?_, ?_⟩, ?_⟩
    · rw [sg_abs]
      have := len_mul (cnN z d) (cdN z' d')
      have := h.num'
      have := h'.den'
      omega
    · have := len_mul (cdN z d) (cnN z' d')
      have := h.den'
      have := h'.num'
      omega
    · rw [sg_sx_one, sg_mul]
      have hz' : z' = sg (cbN z') z'.natAbs := (sg_of z').symm
      have hone : sg (cbN z') 1 * sg (cbN z') 1 = 1 := by cases cbN z' <;> rfl
      have hs : sg (cbN z') (cnN z' d') = (cnN z' d' : Nat) * sg (cbN z') 1 := by
        rw [show cnN z' d' = 1 * cnN z' d' by omega, sg_mul, Int.mul_comm]
        simp
      rw [hs] at v2
      rw [Int.natCast_mul]
      grind
theorem c_OrderC (h : Rt z d k) (h' : Rt z' d' k') (hk : k ≤ 1073741824) (hk' : k' ≤ 1073741824) : ∃ w : Int, Cinf T n_limbs_Order [canA z d, canA z' d'] = some (.tup [.v (.int .i64 (sgnZ w)), .v (.int .i64 0)], [.dead, .dead]) ∧ w * (d * d') = (z * d' - z' * d) * (cdN z d * cdN z' d') := by
  have := c_Order (neg1 := cbN z) (neg2 := cbN z') (limbs_lim (cnN z d)) (limbs_lim (cdN z d)) (limbs_lim (cnN z' d')) (limbs_lim (cdN z' d')) (by have := h.num'; omega) (by have := h.den'; omega) (by have := h'.num'; omega) (by have := h'.den'; omega)
  obtain ⟨v1, p1⟩ := can_val z h.pos
  obtain ⟨v2, p2⟩ := can_val z' h'.pos
  simp only [val_limbs] at this
  unfold orderR at this
  rw [if_neg (by omega)] at this
  exact ⟨_, this, by grind⟩
end
end Go.AM.F

/- The laws of quotients. No conditions. -/
namespace Go.AM.F
open Go Go.AM
set_option maxRecDepth 10000
set_option linter.unusedSimpArgs false
theorem sgn_of {w u a b : Int} (ha : 0 < a) (hb : 0 < b) (h : w * a = u * b) : sgnZ w = sgnZ u := by
  have p1 : (w * a < 0) ↔ w < 0 := by
    constructor
    · intro k
      refine Classical.byContradiction fun k2 => ?_
      have := Int.mul_nonneg (show 0 ≤ w by omega) (show (0 : Int) ≤ a by omega)
      omega
    · intro k
      exact Int.mul_neg_of_neg_of_pos k ha
  have p2 : (u * b < 0) ↔ u < 0 := by
    constructor
    · intro k
      refine Classical.byContradiction fun k2 => ?_
      have := Int.mul_nonneg (show 0 ≤ u by omega) (show (0 : Int) ≤ b by omega)
      omega
    · intro k
      exact Int.mul_neg_of_neg_of_pos k hb
  have p3 : w * a = 0 ↔ w = 0 := by
    rw [Int.mul_eq_zero]
    omega
  have p4 : u * b = 0 ↔ u = 0 := by
    rw [Int.mul_eq_zero]
    omega
  rw [h] at p1 p3
  unfold sgnZ
  by_cases h0 : u = 0
  · rw [if_pos h0, if_pos (p3.1 (p4.2 h0))]
  · rw [if_neg h0, if_neg (fun k => h0 (p4.1 (p3.2 k)))]
    by_cases h1 : u < 0
    · rw [if_pos h1, if_pos (p1.1 (p2.2 h1))]
    · rw [if_neg h1, if_neg (fun k => h1 (p2.1 (p1.2 k)))]
theorem pos_cast {d : Nat} (h : 0 < d) : (0 : Int) < (d : Int) := by omega
theorem canA_eq {z z' : Int} {d d' : Nat} (h : canR z d = canR z' d') : canA z d = canA z' d' := by
  unfold canR rat at h
  simp only [PV.agg.injEq, List.cons.injEq, and_true, PV.v.injEq, Value.bool.injEq, PV.own.injEq, true_and] at h
  unfold canA ratA
  rw [h.1, h.2.1, h.2.2]
theorem can_parts (z : Int) (d : Nat) : ∃ s n m, canR z d = rat s n m ∧ canA z d = ratA s (limbs n) (limbs m) := ⟨_, _, _, rfl, rfl⟩
end Go.AM.F

/- The document's naturals: what the layers above need of them. No conditions. -/
namespace Go.AM.F
open Go Go.AM
set_option maxRecDepth 10000
set_option linter.unusedSimpArgs false
end Go.AM.F

/- The document's naturals: shifts, differences, quotients bit by bit. No conditions. -/
namespace Go.AM.F
open Go Go.AM
set_option maxRecDepth 10000
set_option linter.unusedSimpArgs false
theorem shr1_u32 (x : Nat) : binInt .shr .u32 x 1 = some (.int .u32 (x / 2 : Nat)) := shr_32 x 1 (by decide)
theorem minus_step {A P Q k x y br d br' : Nat} (hv : A + 4294967296 ^ k * br = P + Q) (h : x + 4294967296 * br' = d + y + br) : A + 4294967296 ^ k * x + 4294967296 ^ (k + 1) * br' = (P + 4294967296 ^ k * d) + (Q + 4294967296 ^ k * y) := by
  have e1 : 4294967296 ^ k * x + 4294967296 ^ k * (4294967296 * br') = 4294967296 ^ k * d + 4294967296 ^ k * y + 4294967296 ^ k * br := by rw [← Nat.mul_add, ← Nat.mul_add, ← Nat.mul_add, h]
  rw [Nat.pow_succ, Nat.mul_assoc]
  omega
end Go.AM.F

/- The document's naturals: quotients bit by bit. No conditions. -/
namespace Go.AM.F
open Go Go.AM
set_option maxRecDepth 10000
set_option linter.unusedSimpArgs false
theorem fit_mono {m n : Nat} (h : Fit (limbs n)) (hle : m ≤ n) : Fit (limbs m) := ⟨limbs_lim m, Nat.le_trans (limbs_mono hle) h.2⟩
theorem fit_small {n : Nat} (k : Nat) (h : n < 4294967296 ^ k) (hk : k ≤ 1099511627776) : Fit (limbs n) := ⟨limbs_lim n, Nat.le_trans (limbs_len_le h) hk⟩
theorem wrap_mod64 (n : Nat) : IntKind.u64.wrap (n : Int) = ((n % 18446744073709551616 : Nat) : Int) := by
  simp only [IntKind.wrap, IntKind.signed, IntKind.bits]
  simp
theorem shl1_64 {k P : Nat} (hk : k ≤ 64) (hP : 2 ^ k % 18446744073709551616 = P) : binInt .shl .u64 1 k = some (.int .u64 (P : Nat)) := by
  have h1 : ¬ (k : Int) < 0 := by omega
  rw [binInt_shl, if_neg h1, Int.toNat_natCast, show IntKind.u64.bits = 64 from rfl, Nat.min_eq_left hk, show (1 : Int) * 2 ^ k = ((2 ^ k : Nat) : Int) by simp, wrap_mod64, hP]
def dvE (B R q : Nat) (k : Int) : Env := [(0, .ro 1 (ul (limbs R))), (1, .ro 1 (ul (limbs B))), (6, .v (.int .u64 q)), (8, .v (.int .i64 k)), (29, .dead)]
end Go.AM.F

/- Rounded quotients and signed answers; FixedScales. No conditions. -/
namespace Go.AM.F
open Go Go.AM
set_option maxRecDepth 10000
set_option linter.unusedSimpArgs false
attribute [local simp] j0_fixed_amount b_fixed_amount a_fixed_amount
attribute [local simp] j0_fixed_rounded b_fixed_rounded a_fixed_rounded
attribute [local simp] j0_fixed_signed b_fixed_signed a_fixed_signed
attribute [local simp] j0_fixed_Scale j1_fixed_Scale b_fixed_Scale a_fixed_Scale
theorem c_amount (v : Int) (h1 : -9223372036854775808 ≤ v) (h2 : v < 9223372036854775808) : Cinf T n_fixed_amount [.v (.int .i64 v)] = some (.v (.int .u64 (v.natAbs : Nat)), [.dead]) := by
  rw [run_fixed_amount]
  by_cases h : v < 0
  · have w1 : IntKind.u64.wrap v = v + 18446744073709551616 := by
      simp only [IntKind.wrap, IntKind.signed, IntKind.bits]
      simp
      omega
    have w2 : IntKind.u64.wrap (-(v + 18446744073709551616)) = (v.natAbs : Int) := by
      simp only [IntKind.wrap, IntKind.signed, IntKind.bits]
      simp
      omega
    simp [Run, h, w1, w2]
  · have w1 : IntKind.u64.wrap v = (v.natAbs : Int) := by rw [wrap_u64] <;> omega
    simp [Run, h, w1]
/-- The quotient rounded to the nearest, halves to the even one. -/
def rnd (A B : Nat) : Nat := A / B + (if B < 2 * (A % B) ∨ (B = 2 * (A % B) ∧ A / B % 2 = 1) then 1 else 0)
theorem c_rounded (A B : Nat) (hA : Fit (limbs A)) (hB : Fit (limbs B)) (hB0 : B ≠ 0) (hf : Fit (limbs (2 * (A % B)))) :
    Cinf T n_fixed_rounded [.ro 1 (ul (limbs A)), .ro 1 (ul (limbs B))] = some (.own 1 (ul (limbs (rnd A B))), [.dead, .dead]) := by
  have h1 := c_DivMod (limbs A) (limbs B) hA hB
  rw [val_limbs, val_limbs, divR_pos hB0] at h1
  have hq : Fit (limbs (A / B)) := fit_mono hA (Nat.div_le_self _ _)
  have hr : Fit (limbs (A % B)) := fit_mono hA (Nat.mod_le _ _)
  have h2 := c_Add (limbs (A % B)) (limbs (A % B)) hr hr
  rw [val_limbs, ← Nat.two_mul] at h2
  have h3 := c_Cmp (limbs (2 * (A % B))) (limbs B) hf hB
  rw [val_limbs, val_limbs] at h3
  have h4 := c_Bit (limbs (A / B)) hq 0 (by decide)
  have h5 : bitV (limbs (A / B)) 0 = decide (A / B % 2 = 1) := by unfold bitV; simp [val_limbs]
  rw [h5] at h4
  have h6 := c_From 1 (by decide)
  have h7 := c_Add (limbs (A / B)) (limbs 1) hq (fit_small 1 (by decide) (by decide))
  rw [val_limbs, val_limbs] at h7
  unfold rnd
  obtain ⟨q, hq⟩ : ∃ q, A / B = q := ⟨_, rfl⟩
  obtain ⟨r, hr⟩ : ∃ r, A % B = r := ⟨_, rfl⟩
  obtain ⟨d, hd⟩ : ∃ d, 2 * r = d := ⟨_, rfl⟩
  simp only [hq, hr, hd] at *
  simp only [Int.natCast_one] at h6
  rw [run_fixed_rounded]
  rcases Nat.lt_trichotomy d B with hl | hl | hl
  · rw [cmp_lt hl] at h3
    rw [if_neg (by omega)]
    simp [Run, h1, h2, h3]
  · rw [hl] at h3 h2
    have e : cmpN B B = 0 := by simp [cmpN]
    rw [e] at h3
    by_cases ho : q % 2 = 1
    · rw [if_pos (by omega)]
      simp [Run, h1, h2, h3, h4, h6, h7, ho]
    · rw [if_neg (by omega)]
      simp [Run, h1, h2, h3, h4, h6, h7, ho]
  · rw [cmp_gt hl] at h3
    rw [if_pos (by omega)]
    simp [Run, h1, h2, h3, h4, h6, h7]
/-- A sign and an amount as a number of 64 bits, or no answer. -/
def sgnR (neg : Bool) (m : Nat) : PV := if 9223372036854775808 < m ∨ (m = 9223372036854775808 ∧ neg = false) then .tup [.v (.int .i64 0), .v (.bool false)] else .tup [.v (.int .i64 (if neg then -(m : Int) else m)), .v (.bool true)]
theorem c_signed (neg : Bool) (m : Nat) (h : Fit (limbs m)) : Cinf T n_fixed_signed [.v (.bool neg), .ro 1 (ul (limbs m))] = some (sgnR neg m, [.dead, .dead]) := by
  have h1 := c_Small (limbs m) h
  rw [val_limbs] at h1
  rw [run_fixed_signed]
  unfold sgnR
  by_cases hs : (limbs m).length ≤ 2
  · rw [smallR, if_pos hs] at h1
    have hm : m < 18446744073709551616 := by rcases limbs_two hs with ⟨_, hv⟩ | ⟨x, _, hv, hx⟩ | ⟨x, y, _, hv, hx, hy⟩ <;> omega
    rcases Nat.lt_trichotomy m 9223372036854775808 with hl | hl | hl
    · have w1 : IntKind.i64.wrap (m : Int) = m := by rw [wrap_i64] <;> omega
      have w2 : IntKind.i64.wrap (-(m : Int)) = -m := by rw [wrap_i64] <;> omega
      have e1 : ¬ 9223372036854775808 < m := by omega
      have e2 : ¬ m = 9223372036854775808 := by omega
      have e3 : ¬ (m : Int) = 9223372036854775808 := by omega
      rw [if_neg (by omega)]
      cases neg <;> simp [Run, h1, w1, w2, e1, e2, e3]
    · subst hl
      cases neg
      · rw [if_pos (by decide)]
        simp [Run, h1]
      · rw [if_neg (by decide)]
        have w1 : IntKind.i64.wrap 9223372036854775808 = -9223372036854775808 := by decide
        simp [Run, h1, w1]
    · rw [if_pos (.inl hl)]
      simp [Run, h1, hl]
  · rw [smallR, if_neg hs] at h1
    have hm : ¬ m < 18446744073709551616 := fun hm => hs (limbs_len_le (k := 2) hm)
    rw [if_pos (by omega)]
    simp [Run, h1]
theorem rnd_ge (A B : Nat) : A / B ≤ rnd A B := Nat.le_add_right _ _
theorem rnd_le (A B : Nat) : rnd A B ≤ A / B + 1 := by unfold rnd; split <;> omega
theorem quot_big {A B : Nat} (hA0 : A ≠ 0) (hB : B ≤ 9223372036854775808) (hB0 : 0 < B) (h : nbits B + 64 ≤ nbits A) : 9223372036854775808 < A / B := by
  have h1 := nbits_low hA0
  have h2 := lt_nbits B
  have h3 : 2 ^ (nbits B + 63) ≤ A := Nat.le_trans (Nat.pow_le_pow_right (by decide) (by omega)) h1
  rw [Nat.pow_add] at h3
  obtain ⟨P, hP⟩ : ∃ P, 2 ^ nbits B = P := ⟨_, rfl⟩
  rw [hP] at h2 h3
  have h4 : (9223372036854775808 + 1) * B ≤ A := by
    have : (2 : Nat) ^ 63 = 9223372036854775808 := by decide
    omega
  have := (Nat.le_div_iff_mul_le hB0).2 h4
  omega
theorem quot_small {A B : Nat} (h : nbits A < nbits B + 64) (hB0 : 0 < B) : A / B < 18446744073709551616 := by
  have h1 := lt_nbits A
  have h2 := nbits_low (v := B) (by omega)
  have hBn : 0 < nbits B := by rw [nbits_pos (by omega)]; omega
  have h3 : A < 2 ^ ((nbits B - 1) + 64) := Nat.lt_of_lt_of_le h1 (Nat.pow_le_pow_right (by decide) (by omega))
  rw [Nat.pow_add] at h3
  have h4 : A < B * 2 ^ 64 := Nat.lt_of_lt_of_le h3 (Nat.mul_le_mul_right _ h2)
  exact Nat.div_lt_of_lt_mul h4
end Go.AM.F

/- Scale, the program's and the document's; FixedScales. No conditions. -/
namespace Go.AM.F
open Go Go.AM
set_option maxRecDepth 10000
set_option linter.unusedSimpArgs false
attribute [local simp] j0_fixed_Scale j1_fixed_Scale b_fixed_Scale a_fixed_Scale
/-- The sign of a product over a number. -/
def ngR (x y z : Int) : Bool := !decide ((decide (x < 0) == decide (y < 0)) = !decide (z < 0))
def scR (x y z : Int) : PV :=
  if z = 0 then .tup [.v (.int .i64 0), .v (.int .i64 2)]
  else if 9223372036854775808 < rnd (x.natAbs * y.natAbs) z.natAbs ∨ (rnd (x.natAbs * y.natAbs) z.natAbs = 9223372036854775808 ∧ ngR x y z = false) then .tup [.v (.int .i64 0), .v (.int .i64 41)]
  else .tup [.v (.int .i64 (if ngR x y z then -(rnd (x.natAbs * y.natAbs) z.natAbs : Int) else rnd (x.natAbs * y.natAbs) z.natAbs)), .v (.int .i64 0)]
theorem c_Scale (x y z : Int) (x1 : -9223372036854775808 ≤ x) (x2 : x < 9223372036854775808) (y1 : -9223372036854775808 ≤ y) (y2 : y < 9223372036854775808) (z1 : -9223372036854775808 ≤ z) (z2 : z < 9223372036854775808) :
    Cinf T n_fixed_Scale [.v (.int .i64 x), .v (.int .i64 y), .v (.int .i64 z)] = some (scR x y z, [.dead, .dead, .dead]) := by
  rw [run_fixed_Scale]
  unfold scR
  obtain ⟨N, hN⟩ : ∃ N, ngR x y z = N := ⟨_, rfl⟩
  rw [hN]
  unfold ngR at hN
  by_cases hz : z = 0
  · subst hz
    simp [Run]
  · have a1 := c_amount x x1 x2
    have a2 := c_amount y y1 y2
    have a3 := c_amount z z1 z2
    have hX : x.natAbs ≤ 9223372036854775808 := by omega
    have hY : y.natAbs ≤ 9223372036854775808 := by omega
    have hZ : z.natAbs ≤ 9223372036854775808 := by omega
    have hZ0 : z.natAbs ≠ 0 := by omega
    obtain ⟨X, eX⟩ : ∃ X, x.natAbs = X := ⟨_, rfl⟩
    obtain ⟨Y, eY⟩ : ∃ Y, y.natAbs = Y := ⟨_, rfl⟩
    obtain ⟨Z, eZ⟩ : ∃ Z, z.natAbs = Z := ⟨_, rfl⟩
    rw [eX] at a1 hX
    rw [eY] at a2 hY
    rw [eZ] at a3 hZ hZ0
    rw [eX, eY, eZ]
    have b1 := c_From X (by omega)
    have b2 := c_From Y (by omega)
    have b3 := c_From Z (by omega)
    have fX : Fit (limbs X) := fit_small 3 (Nat.lt_of_le_of_lt hX (by decide)) (by decide)
    have fY : Fit (limbs Y) := fit_small 3 (Nat.lt_of_le_of_lt hY (by decide)) (by decide)
    have fZ : Fit (limbs Z) := fit_small 3 (Nat.lt_of_le_of_lt hZ (by decide)) (by decide)
    have hXY : X * Y ≤ 9223372036854775808 * 9223372036854775808 := Nat.mul_le_mul hX hY
    have m1 := c_Mul (limbs X) (limbs Y) fX fY
    rw [val_limbs, val_limbs] at m1
    obtain ⟨A, hA⟩ : ∃ A, X * Y = A := ⟨_, rfl⟩
    rw [hA] at m1 hXY ⊢
    have fA : Fit (limbs A) := fit_small 5 (Nat.lt_of_le_of_lt hXY (by decide)) (by decide)
    have hm : A % Z < Z := Nat.mod_lt _ (by omega)
    have r1 := c_rounded A Z fA fZ hZ0 (fit_small 3 (Nat.lt_of_le_of_lt (show 2 * (A % Z) ≤ 18446744073709551616 by omega) (by decide)) (by decide))
    have hr := rnd_le A Z
    have hd : A / Z ≤ A := Nat.div_le_self _ _
    obtain ⟨m, hm2⟩ : ∃ m, rnd A Z = m := ⟨_, rfl⟩
    rw [hm2] at r1 hr ⊢
    have s1 := c_signed N m (fit_small 5 (Nat.lt_of_le_of_lt (show m ≤ 9223372036854775808 * 9223372036854775808 + 1 by omega) (by decide)) (by decide))
    rw [if_neg hz]
    unfold sgnR at s1
    by_cases hc : 9223372036854775808 < m ∨ (m = 9223372036854775808 ∧ N = false)
    · rw [if_pos hc] at s1
      rw [if_pos hc]
      simp [Run, hz, a1, a2, a3, b1, b2, b3, m1, r1, s1, hN]
    · rw [if_neg hc] at s1
      rw [if_neg hc]
      simp [Run, hz, a1, a2, a3, b1, b2, b3, m1, r1, s1, hN]
end Go.AM.F

/- The binary64 nearest to a quotient: its exponent and its mantissa, in plain numbers. No conditions. -/
namespace Go.AM.F
open Go Go.AM
set_option linter.unusedSimpArgs false

/-! ### Quotients rounded -/
theorem rnd_near (A B : Nat) (hB : 0 < B) : 2 * (rnd A B * B) ≤ 2 * A + B ∧ 2 * A ≤ 2 * (rnd A B * B) + B := by
  have h1 := Nat.div_add_mod A B
  have h2 := Nat.mod_lt A hB
  unfold rnd
  generalize A / B = q at *
  generalize A % B = r at *
  have h3 : B * q = q * B := Nat.mul_comm _ _
  split
  · rename_i h
    rw [Nat.add_mul]
    omega
  · rename_i h
    rw [Nat.add_zero]
    omega
theorem rnd_even (A B : Nat) (hB : 0 < B) (h : 2 * (rnd A B * B) = 2 * A + B ∨ 2 * A = 2 * (rnd A B * B) + B) : rnd A B % 2 = 0 := by
  have h1 := Nat.div_add_mod A B
  have h2 := Nat.mod_lt A hB
  unfold rnd at h ⊢
  generalize A / B = q at *
  generalize A % B = r at *
  have h3 : B * q = q * B := Nat.mul_comm _ _
  split at h
  · rename_i hc
    rw [if_pos hc]
    rw [Nat.add_mul] at h
    omega
  · rename_i hc
    rw [if_neg hc]
    rw [Nat.add_zero] at h ⊢
    omega
theorem rnd_unique {A B n : Nat} (hB : 0 < B) (h1 : 2 * (n * B) < 2 * A + B) (h2 : 2 * A < 2 * (n * B) + B) : rnd A B = n := by
  obtain ⟨g1, g2⟩ := rnd_near A B hB
  rcases Nat.lt_trichotomy (rnd A B) n with h | h | h
  · exfalso
    have h3 : rnd A B + 1 ≤ n := h
    have h4 := Nat.mul_le_mul_right B h3
    rw [Nat.add_mul] at h4
    omega
  · exact h
  · exfalso
    have h3 : n + 1 ≤ rnd A B := h
    have h4 := Nat.mul_le_mul_right B h3
    rw [Nat.add_mul] at h4
    omega
theorem rnd_mono {A A' B : Nat} (hB : 0 < B) (h : A ≤ A') : rnd A B ≤ rnd A' B := by
  have h1 := Nat.div_add_mod A B
  have h2 := Nat.mod_lt A hB
  have h3 := Nat.div_add_mod A' B
  have h4 := Nat.mod_lt A' hB
  have hq : A / B ≤ A' / B := Nat.div_le_div_right h
  rcases Nat.eq_or_lt_of_le hq with e | l
  · unfold rnd
    rw [e] at h1 ⊢
    generalize A' / B = q at *
    generalize A % B = r at *
    generalize A' % B = r' at *
    have h5 : r ≤ r' := by omega
    split
    · rename_i hc
      rw [if_pos (by omega)]
      exact Nat.le_refl _
    · omega
  · have := rnd_ge A' B
    have := rnd_le A B
    omega
theorem rnd_scale (A B g : Nat) (hg : 0 < g) : rnd (g * A) (g * B) = rnd A B := by
  unfold rnd
  rw [Nat.mul_div_mul_left _ _ hg, Nat.mul_mod_mul_left]
  have e1 : g * B < 2 * (g * (A % B)) ↔ B < 2 * (A % B) := by
    rw [Nat.mul_left_comm 2 g]
    exact Nat.mul_lt_mul_left hg
  have e2 : g * B = 2 * (g * (A % B)) ↔ B = 2 * (A % B) := by
    rw [Nat.mul_left_comm 2 g]
    exact Nat.mul_right_inj (by omega)
  simp only [e1, e2]
theorem rnd_one (A : Nat) : rnd A 1 = A := by
  unfold rnd
  simp [Nat.mod_one]
/-! ### Bits of numbers -/
theorem nbits_lt : ∀ {k n : Nat}, nbits n ≤ k → n < 2 ^ k
  | 0, n, h => by
    by_cases h0 : n = 0
    · rw [h0]; decide
    · rw [nbits_pos h0] at h
      omega
  | k + 1, n, h => by
    by_cases h0 : n = 0
    · rw [h0]; exact Nat.two_pow_pos _
    · rw [nbits_pos h0] at h
      have := nbits_lt (k := k) (n := n / 2) (by omega)
      rw [Nat.pow_succ]
      omega
theorem nbits_low' {n : Nat} (h : n ≠ 0) : 2 ^ (nbits n - 1) ≤ n := by
  rcases Nat.lt_or_ge n (2 ^ (nbits n - 1)) with hl | hl
  · have h1 := nbits_le hl
    rw [nbits_pos h] at h1
    rw [nbits_pos h] at hl
    exfalso
    omega
  · exact hl
theorem nbits_iff {n k : Nat} : nbits n ≤ k ↔ n < 2 ^ k := ⟨nbits_lt, nbits_le⟩

/-! ### The exponent -/
def qA (n : Nat) (e : Int) : Nat := n * 2 ^ (-e).toNat
def qB (d : Nat) (e : Int) : Nat := d * 2 ^ e.toNat
def qQ (n d : Nat) (e : Int) : Nat := qA n e / qB d e
theorem qB_pos {d : Nat} (hd : 0 < d) (e : Int) : 0 < qB d e := Nat.mul_pos hd (Nat.two_pow_pos _)
/-- One step up halves the quotient. -/
theorem qAB_succ (n d : Nat) (e : Int) : (qA n e = 2 * qA n (e + 1) ∧ qB d (e + 1) = qB d e) ∨ (qA n (e + 1) = qA n e ∧ qB d (e + 1) = 2 * qB d e) := by
  unfold qA qB
  by_cases h : e < 0
  · left
    have h1 : (-e).toNat = (-(e + 1)).toNat + 1 := by omega
    have h2 : (e + 1).toNat = e.toNat := by omega
    rw [h1, h2, Nat.pow_succ]
    exact ⟨by rw [Nat.mul_comm (2 ^ _) 2, Nat.mul_left_comm], rfl⟩
  · right
    have h1 : (-(e + 1)).toNat = (-e).toNat := by omega
    have h2 : (e + 1).toNat = e.toNat + 1 := by omega
    rw [h1, h2, Nat.pow_succ]
    exact ⟨rfl, by rw [Nat.mul_comm (2 ^ _) 2, Nat.mul_left_comm]⟩
theorem qQ_succ {n d : Nat} (hd : 0 < d) (e : Int) : qQ n d (e + 1) = qQ n d e / 2 := by
  unfold qQ
  have hp := qB_pos hd e
  rcases qAB_succ n d e with ⟨h1, h2⟩ | ⟨h1, h2⟩
  · rw [h1, h2, Nat.div_div_eq_div_mul, Nat.mul_comm _ 2, Nat.mul_div_mul_left _ _ (by decide)]
  · rw [h1, h2, Nat.div_div_eq_div_mul, Nat.mul_comm 2]
theorem qQ_anti {n d : Nat} (hd : 0 < d) (e : Int) : ∀ k : Nat, qQ n d (e + k) ≤ qQ n d e
  | 0 => by simp
  | k + 1 => by
    have h := qQ_anti (n := n) hd e k
    have e1 : e + ((k + 1 : Nat) : Int) = e + k + 1 := by omega
    rw [e1, qQ_succ hd]
    omega
theorem qQ_le {n d : Nat} (hd : 0 < d) {e f : Int} (h : e ≤ f) : qQ n d f ≤ qQ n d e := by
  have := qQ_anti (n := n) hd e (f - e).toNat
  rwa [show e + ((f - e).toNat : Int) = f by omega] at this
theorem qQ_mono {n n' d : Nat} (h : n ≤ n') (e : Int) : qQ n d e ≤ qQ n' d e := Nat.div_le_div_right (Nat.mul_le_mul_right _ h)
theorem qQ_scale {n d g : Nat} (hg : 0 < g) (e : Int) : qQ (g * n) (g * d) e = qQ n d e := by
  unfold qQ qA qB
  rw [Nat.mul_assoc, Nat.mul_assoc, Nat.mul_div_mul_left _ _ hg]
/-- Far down the quotient is great. -/
theorem qQ_ge {n d : Nat} (hn : n ≠ 0) (hd : 0 < d) {e : Int} {k : Nat} (h : e + k + 1 ≤ (nbits n : Int) - nbits d) : 2 ^ k ≤ qQ n d e := by
  unfold qQ
  rw [Nat.le_div_iff_mul_le (qB_pos hd e)]
  have h1 := nbits_low' hn
  have h2 : d ≤ 2 ^ nbits d := Nat.le_of_lt (nbits_lt (Nat.le_refl _))
  have h3 : 1 ≤ nbits n := by rw [nbits_pos hn]; omega
  unfold qA qB
  calc 2 ^ k * (d * 2 ^ e.toNat) ≤ 2 ^ k * (2 ^ nbits d * 2 ^ e.toNat) := Nat.mul_le_mul_left _ (Nat.mul_le_mul_right _ h2)
    _ = 2 ^ (k + nbits d + e.toNat) := by rw [← Nat.pow_add, ← Nat.pow_add, Nat.add_assoc]
    _ ≤ 2 ^ (nbits n - 1 + (-e).toNat) := Nat.pow_le_pow_right (by decide) (by omega)
    _ = 2 ^ (nbits n - 1) * 2 ^ (-e).toNat := Nat.pow_add _ _ _
    _ ≤ n * 2 ^ (-e).toNat := Nat.mul_le_mul_right _ h1
/-- Far up it is small. -/
theorem qQ_lt {n d : Nat} (hd : 0 < d) {e : Int} {k : Nat} (h : (nbits n : Int) - nbits d + 1 ≤ e + k) : qQ n d e < 2 ^ k := by
  unfold qQ
  rw [Nat.div_lt_iff_lt_mul (qB_pos hd e)]
  have hd0 : d ≠ 0 := by omega
  have h1 := nbits_low' hd0
  have h2 : n < 2 ^ nbits n := nbits_lt (Nat.le_refl _)
  have h3 : 1 ≤ nbits d := by rw [nbits_pos hd0]; omega
  unfold qA qB
  calc n * 2 ^ (-e).toNat < 2 ^ nbits n * 2 ^ (-e).toNat := Nat.mul_lt_mul_of_pos_right h2 (Nat.two_pow_pos _)
    _ = 2 ^ (nbits n + (-e).toNat) := (Nat.pow_add _ _ _).symm
    _ ≤ 2 ^ (k + (nbits d - 1) + e.toNat) := Nat.pow_le_pow_right (by decide) (by omega)
    _ = 2 ^ k * (2 ^ (nbits d - 1) * 2 ^ e.toNat) := by rw [← Nat.pow_add, ← Nat.pow_add, Nat.add_assoc]
    _ ≤ 2 ^ k * (d * 2 ^ e.toNat) := Nat.mul_le_mul_left _ (Nat.mul_le_mul_right _ h1)
/-- The least exponent, from -1074 on, at which the quotient has 53 bits at most. -/
structure IsE (n d : Nat) (e : Int) : Prop where
  lo : -1074 ≤ e
  fits : qQ n d e < 9007199254740992
  least : e = -1074 ∨ 9007199254740992 ≤ qQ n d (e - 1)
theorem IsE.unique {n d : Nat} (hd : 0 < d) {e f : Int} (h : IsE n d e) (k : IsE n d f) : e = f := by
  have key : ∀ {e f : Int}, IsE n d e → IsE n d f → ¬ e < f := by
    intro e f h k hlt
    rcases k.least with h1 | h1
    · have := h.lo; omega
    · have := qQ_le (n := n) hd (show e ≤ f - 1 by omega)
      have := h.fits
      omega
  rcases Int.lt_trichotomy e f with hl | hl | hl
  · exact absurd hl (key h k)
  · exact hl
  · exact absurd hl (key k h)
theorem IsE.mono {n n' d : Nat} (hd : 0 < d) (hn : n ≤ n') {e f : Int} (h : IsE n d e) (k : IsE n' d f) : e ≤ f := by
  rcases Int.lt_or_le f e with hl | hl
  · rcases h.least with h1 | h1
    · have := k.lo; omega
    · have h2 := qQ_le (n := n') hd (show f ≤ e - 1 by omega)
      have h3 := qQ_mono (d := d) hn (e - 1)
      have := k.fits
      omega
  · exact hl
theorem IsE.scale {n d g : Nat} (hg : 0 < g) {e : Int} (h : IsE n d e) : IsE (g * n) (g * d) e :=
  ⟨h.lo, by rw [qQ_scale hg]; exact h.fits, by rw [qQ_scale hg]; exact h.least⟩
theorem IsE.unscale {n d g : Nat} (hg : 0 < g) {e : Int} (h : IsE (g * n) (g * d) e) : IsE n d e :=
  ⟨h.lo, by rw [← qQ_scale hg]; exact h.fits, by rw [← qQ_scale hg]; exact h.least⟩
/-- A walk up from below. -/
def upE (n d : Nat) : Nat → Int → Int
  | 0, e => e
  | k + 1, e => if 9007199254740992 ≤ qQ n d e then upE n d k (e + 1) else e
theorem upE_is {n d : Nat} (hd : 0 < d) : ∀ (k : Nat) (e : Int), -1074 ≤ e → (e = -1074 ∨ 9007199254740992 ≤ qQ n d (e - 1)) → qQ n d e < 9007199254740992 * 2 ^ k → IsE n d (upE n d k e)
  | 0, e, h1, h2, h3 => ⟨h1, by simpa [upE] using h3, h2⟩
  | k + 1, e, h1, h2, h3 => by
    rw [upE]
    split
    · rename_i h
      refine upE_is hd k (e + 1) (by omega) (.inr (by rw [show e + 1 - 1 = e by omega]; exact h)) ?_
      rw [qQ_succ hd]
      rw [Nat.pow_succ] at h3
      omega
    · rename_i h
      exact ⟨h1, by omega, h2⟩
/-- The walk's first exponent: there are two steps at most. -/
def loE (n d : Nat) : Int := max ((nbits n : Int) - nbits d - 53) (-1074)
theorem loE_is {n d : Nat} (hn : n ≠ 0) (hd : 0 < d) : IsE n d (upE n d 1 (loE n d)) := by
  refine upE_is hd 1 _ (by unfold loE; omega) ?_ ?_
  · unfold loE
    by_cases h : (nbits n : Int) - nbits d - 53 ≤ -1074
    · left; omega
    · right
      exact qQ_ge (k := 53) hn hd (by omega)
  · have := qQ_lt (n := n) (d := d) (e := loE n d) (k := 54) hd (by unfold loE; omega)
    exact this
noncomputable def theE (n d : Nat) : Int := upE n d 1 (loE n d)
theorem theE_is {n d : Nat} (hn : n ≠ 0) (hd : 0 < d) : IsE n d (theE n d) := loE_is hn hd
/-- Above -1074 the quotient has 53 bits. -/
theorem theE_full {n d : Nat} (hd : 0 < d) {e : Int} (h : IsE n d e) (hlo : -1074 < e) : 4503599627370496 ≤ qQ n d e := by
  rcases h.least with h1 | h1
  · omega
  · have := qQ_succ (n := n) hd (e - 1)
    rw [show e - 1 + 1 = e by omega] at this
    omega
theorem theE_range {n d : Nat} (hd : 0 < d) {e : Int} (h : IsE n d e) : e ≤ max ((nbits n : Int) - nbits d - 52) (-1074) := by
  rcases Int.lt_or_le (max ((nbits n : Int) - nbits d - 52) (-1074)) e with hl | hl
  · rcases h.least with h1 | h1
    · omega
    · have := qQ_lt (n := n) (d := d) (e := e - 1) (k := 53) hd (by omega)
      have e53 : (2 : Nat) ^ 53 = 9007199254740992 := by decide
      omega
  · exact hl
/-- The mantissa, which may be 2^53. -/
def theM (n d : Nat) (e : Int) : Nat := rnd (qA n e) (qB d e)
theorem theM_le {n d : Nat} {e : Int} (h : IsE n d e) : theM n d e ≤ 9007199254740992 := by
  have h1 := rnd_le (qA n e) (qB d e)
  have h2 := h.fits
  unfold qQ at h2
  unfold theM
  omega
theorem theM_ge {n d : Nat} {e : Int} : qQ n d e ≤ theM n d e := rnd_ge _ _
/-- How many steps above nought: in units of the last bit. -/
def rung (n d : Nat) (e : Int) : Nat := (e + 1074).toNat * 4503599627370496 + theM n d e
theorem rung_mono {n n' d : Nat} (hd : 0 < d) (hn : n ≤ n') {e f : Int} (h : IsE n d e) (k : IsE n' d f) : rung n d e ≤ rung n' d f := by
  have hef := h.mono hd hn k
  have := h.lo
  unfold rung
  rcases Int.lt_or_eq_of_le hef with hl | rfl
  · have h1 := theM_le h
    have h2 := theE_full hd k (by omega)
    have h3 := theM_ge (n := n') (d := d) (e := f)
    have h4 : (f + 1074).toNat = (e + 1074).toNat + ((f - e - 1).toNat + 1) := by omega
    rw [h4, Nat.add_mul, Nat.add_mul]
    have : 0 ≤ (f - e - 1).toNat * 4503599627370496 := Nat.zero_le _
    omega
  · have h1 : theM n d e ≤ theM n' d e := rnd_mono (qB_pos hd e) (Nat.mul_le_mul_right _ hn)
    omega
theorem theM_scale {n d g : Nat} (hg : 0 < g) (e : Int) : theM (g * n) (g * d) e = theM n d e := by
  unfold theM qA qB
  rw [Nat.mul_assoc, Nat.mul_assoc, rnd_scale _ _ _ hg]
end Go.AM.F

/- Scaled numbers lie no further from the quotient than a half: plain law. No conditions. -/
namespace Go.AM.F
open Go Go.AM
set_option maxRecDepth 10000

theorem ngR_pos {x y z : Int} (h : 0 < z) : ngR x y z = !(decide (x < 0) == decide (y < 0)) := by
  unfold ngR
  rw [show decide (z < 0) = false from decide_eq_false (by omega)]
  cases decide (x < 0) <;> cases decide (y < 0) <;> rfl
theorem ngR_neg {x y z : Int} (h : z < 0) : ngR x y z = (decide (x < 0) == decide (y < 0)) := by
  unfold ngR
  rw [show decide (z < 0) = true from decide_eq_true h]
  cases decide (x < 0) <;> cases decide (y < 0) <;> rfl
theorem sg_of' (b : Bool) (z : Int) (h : b = decide (z < 0)) : z = sg b z.natAbs := by
  subst h
  unfold sg
  by_cases h : z < 0
  · simp [h]; omega
  · simp [h]; omega
theorem sg_prod (x y : Int) : x * y = sg (!(decide (x < 0) == decide (y < 0))) (x.natAbs * y.natAbs) := by
  obtain ⟨X, hX⟩ : ∃ X, x.natAbs = X := ⟨_, rfl⟩
  obtain ⟨Y, hY⟩ : ∃ Y, y.natAbs = Y := ⟨_, rfl⟩
  rw [hX, hY]
  by_cases h1 : x < 0
  · rw [decide_eq_true h1]
    obtain rfl : x = -(X : Int) := by omega
    by_cases h2 : y < 0
    · rw [decide_eq_true h2]
      obtain rfl : y = -(Y : Int) := by omega
      show _ = ((X * Y : Nat) : Int)
      rw [Int.neg_mul_neg, Int.natCast_mul]
    · rw [decide_eq_false h2]
      obtain rfl : y = (Y : Int) := by omega
      show _ = -((X * Y : Nat) : Int)
      rw [Int.neg_mul, Int.natCast_mul]
  · rw [decide_eq_false h1]
    obtain rfl : x = (X : Int) := by omega
    by_cases h2 : y < 0
    · rw [decide_eq_true h2]
      obtain rfl : y = -(Y : Int) := by omega
      show _ = -((X * Y : Nat) : Int)
      rw [Int.mul_neg, Int.natCast_mul]
    · rw [decide_eq_false h2]
      obtain rfl : y = (Y : Int) := by omega
      show _ = ((X * Y : Nat) : Int)
      rw [Int.natCast_mul]
theorem sg_opp (b : Bool) (n : Nat) : sg (!b) n = -sg b n := by cases b <;> simp [sg]
/-- The quotient over the amounts, with its sign. -/
theorem quot_sign {x y z y1 e1 : Int} (hz : z ≠ 0) (h : y1 * z = x * y * e1) : y1 * z.natAbs = sg (ngR x y z) (x.natAbs * y.natAbs) * e1 := by
  rw [sg_prod x y] at h
  rcases Int.lt_trichotomy z 0 with h1 | h1 | h1
  · rw [ngR_neg h1]
    rw [sg_opp, Int.neg_mul] at h
    have h2 : (z.natAbs : Int) = -z := by omega
    rw [h2, Int.mul_neg, h, Int.neg_neg]
  · exact (hz h1).elim
  · rw [ngR_pos h1, ← h]
    have h2 : (z.natAbs : Int) = z := by omega
    rw [h2]
/-- How far what is answered lies from the quotient. -/
theorem half_near {A B m : Nat} {y1 e1 : Int} {N : Bool} (hB : 0 < B) (he : 0 < e1) (hm : m = rnd A B) (h : y1 * B = sg N A * e1) :
    2 * ((y1 - sg N m * e1).natAbs : Int) < e1 ∨ (2 * ((y1 - sg N m * e1).natAbs : Int) = e1 ∧ m % 2 = 0) := by
  have h1 : (y1 - sg N m * e1) * B = e1 * sg N (1) * ((A : Int) - m * B) := by
    cases N <;> simp only [sg, if_true, if_false, Bool.false_eq_true] at h ⊢ <;> grind
  have n1 := rnd_near A B hB
  have n2 := rnd_even A B hB
  rw [← hm] at n1 n2
  obtain ⟨P, hP⟩ : ∃ P, m * B = P := ⟨_, rfl⟩
  rw [hP] at n1 n2
  have hPi : (m : Int) * B = P := by rw [← hP]; exact (Int.natCast_mul m B).symm
  rw [hPi] at h1
  obtain ⟨D, hD⟩ : ∃ D, y1 - sg N m * e1 = D := ⟨_, rfl⟩
  rw [hD] at h1 ⊢
  have h2 : D.natAbs * B = e1.natAbs * ((A : Int) - P).natAbs := by
    have := congrArg Int.natAbs h1
    rw [Int.natAbs_mul, Int.natAbs_mul, Int.natAbs_mul, sg_abs, Int.natAbs_natCast, Nat.mul_one] at this
    exact this
  obtain ⟨E, rfl⟩ : ∃ E : Nat, e1 = E := ⟨e1.toNat, by omega⟩
  rw [Int.natAbs_natCast] at h2
  have hE : 0 < E := by omega
  obtain ⟨K, hK⟩ : ∃ K, ((A : Int) - P).natAbs = K := ⟨_, rfl⟩
  rw [hK] at h2
  have hK2 : 2 * K ≤ B := by omega
  have h3 : 2 * D.natAbs * B = E * (2 * K) := by rw [Nat.mul_assoc, h2, Nat.mul_left_comm]
  by_cases hc : 2 * K = B
  · right
    rw [hc] at h3
    have h4 := Nat.eq_of_mul_eq_mul_right hB h3
    refine ⟨by omega, n2 ?_⟩
    omega
  · left
    have h4 : E * (2 * K) < E * B := Nat.mul_lt_mul_of_pos_left (by omega) hE
    rw [← h3] at h4
    have := Nat.lt_of_mul_lt_mul_right h4
    omega
/-- What is refused lies beyond. -/
theorem half_beyond {A B : Nat} {y1 e1 : Int} {N : Bool} (hB : 0 < B) (he : 0 < e1) (h : y1 * B = sg N A * e1) (hc : 9223372036854775808 < rnd A B ∨ (rnd A B = 9223372036854775808 ∧ N = false)) :
    (18446744073709551615 * e1 ≤ 2 * y1) ∨ (2 * y1 < -18446744073709551617 * e1) := by
  have n1 := rnd_near A B hB
  have n2 := rnd_even A B hB
  obtain ⟨m, hm⟩ : ∃ m, rnd A B = m := ⟨_, rfl⟩
  rw [hm] at n1 n2 hc
  have hBi : (0 : Int) < B := by omega
  cases N with
  | false =>
    left
    simp only [sg, Bool.false_eq_true, if_false] at h
    have hm1 : 9223372036854775808 ≤ m := by omega
    have hP : 9223372036854775808 * B ≤ m * B := Nat.mul_le_mul_right _ hm1
    have h1 : 18446744073709551615 * B ≤ 2 * A := by omega
    have h2 : (18446744073709551615 * e1) * B ≤ (2 * y1) * B := by
      have h3 : (18446744073709551615 : Int) * B ≤ 2 * A := by omega
      have h4 := Int.mul_le_mul_of_nonneg_right h3 (Int.le_of_lt he)
      have e1' : (2 * y1) * B = 2 * A * e1 := by rw [Int.mul_assoc, h, Int.mul_assoc]
      rw [e1', Int.mul_right_comm]
      exact h4
    exact Int.le_of_mul_le_mul_right h2 hBi
  | true =>
    right
    simp only [sg, if_true] at h
    have hm1 : 9223372036854775809 ≤ m := by
      rcases hc with hc | hc
      · exact hc
      · cases hc.2
    have hP : 9223372036854775809 * B ≤ m * B := Nat.mul_le_mul_right _ hm1
    have h1 : 18446744073709551617 * B < 2 * A := by
      obtain ⟨P, hPe⟩ : ∃ P, m * B = P := ⟨_, rfl⟩
      rw [hPe] at n1 n2 hP
      by_cases hm2 : m % 2 = 0
      · have hP2 : 9223372036854775810 * B ≤ m * B := Nat.mul_le_mul_right _ (by omega)
        rw [hPe] at hP2
        omega
      · have n3 : ¬ (2 * P = 2 * A + B) := fun h => hm2 (n2 (.inl h))
        omega
    have h2 : (2 * y1) * B < (-18446744073709551617 * e1) * B := by
      have h3 : (18446744073709551617 : Int) * B < 2 * A := by omega
      have h4 := Int.mul_lt_mul_of_pos_right h3 he
      have e1' : (2 * y1) * B = -(2 * A * e1) := by rw [Int.mul_assoc, h, Int.neg_mul, Int.mul_neg, Int.mul_assoc]
      rw [e1']
      have e2 : (-18446744073709551617 * e1) * B = -(18446744073709551617 * B * e1) := by rw [Int.neg_mul, Int.neg_mul, Int.mul_right_comm]
      rw [e2]
      exact Int.neg_lt_neg h4
    exact Int.lt_of_mul_lt_mul_right h2 (Int.le_of_lt hBi)
/-- By one over one a number is as it was. -/
theorem scR_one (v : Int) (h1 : -9223372036854775808 ≤ v) (h2 : v < 9223372036854775808) : scR v 1 1 = .tup [.v (.int .i64 v), .v (.int .i64 0)] := by
  unfold scR
  have e1 : rnd (v.natAbs * (1 : Int).natAbs) (1 : Int).natAbs = v.natAbs := by
    rw [show (1 : Int).natAbs = 1 from rfl, Nat.mul_one, rnd_one]
  rw [e1, if_neg (by decide)]
  have e2 : ngR v 1 1 = decide (v < 0) := by
    unfold ngR
    cases decide (v < 0) <;> rfl
  rw [e2]
  by_cases h : v < 0
  · rw [if_neg (by simp [h]; omega)]
    simp [h]
    omega
  · rw [if_neg (by omega)]
    simp [h]
    omega
theorem canA_abs (z : Int) (d : Nat) : ratA false (limbs (cnN z d)) (limbs (cdN z d)) = canA z.natAbs d := by
  unfold canA cbN cnN cdN
  rw [Int.natAbs_natCast, show decide ((z.natAbs : Int) < 0) = false from decide_eq_false (by omega)]
theorem rat_whole (v : Int) : rat (decide (v < 0)) v.natAbs 1 = canR v 1 := by
  unfold canR cbN cnN cdN
  rw [Nat.gcd_one_right, Nat.div_one, Nat.div_one]
end Go.AM.F

/- FixedHalf: it answers true at every input. No conditions. -/
namespace Go.AM.F
open Go Go.AM
set_option maxRecDepth 10000
set_option linter.unusedSimpArgs false
attribute [local simp] j0_thicketlaw04_FixedHalf j1_thicketlaw04_FixedHalf j2_thicketlaw04_FixedHalf j3_thicketlaw04_FixedHalf j4_thicketlaw04_FixedHalf b_thicketlaw04_FixedHalf a_thicketlaw04_FixedHalf
theorem sameL_ul : ∀ l : List Nat, PV.sameL (ul l) (ul l) = true
  | [] => rfl
  | x :: l => by
    have h := sameL_ul l
    simp only [ul] at h
    simp [ul, h]
theorem rt_int {v : Int} (h1 : -9223372036854775808 ≤ v) (h2 : v < 9223372036854775808) : Rt v 1 3 :=
  ⟨by decide, limbs_len_le (Nat.lt_of_le_of_lt (show v.natAbs ≤ 9223372036854775808 by omega) (by decide)), limbs_len_le (by decide)⟩
theorem sgnZ_nonneg {u : Int} (h : 0 ≤ u) : ¬ sgnZ u < 0 := by
  unfold sgnZ
  split
  · decide
  · split
    · omega
    · decide
theorem sgnZ_neg {u : Int} (h : u < 0) : sgnZ u = -1 := by
  unfold sgnZ
  rw [if_neg (by omega), if_pos h]
theorem sgnZ_zero : sgnZ 0 = 0 := rfl
theorem order_sgn {z z' : Int} {d d' k k' : Nat} (h : Rt z d k) (h' : Rt z' d' k') {w : Int} (hw : w * (d * d') = (z * d' - z' * d) * (cdN z d * cdN z' d')) : sgnZ w = sgnZ (z * d' - z' * d) :=
  sgn_of (Int.mul_pos (pos_cast h.pos) (pos_cast h'.pos)) (Int.mul_pos (pos_cast (can_val z h.pos).2) (pos_cast (can_val z' h'.pos).2)) hw
set_option maxHeartbeats 4000000 in
theorem half_walk (x y z : Int) (hz : ¬ z = 0)
    (sx sy sz sp sq sh st sl sw sa : Bool) (nx mx ny my nz mz np mp nq mq nh mh nt mt nl ml nw mw na ma : List Nat) (W c d g : Int) (ref : Bool)
    (s1 : Cinf T n_fixed_Scale [.v (.int .i64 x), .v (.int .i64 1), .v (.int .i64 1)] = some (.tup [.v (.int .i64 x), .v (.int .i64 0)], [.dead, .dead, .dead]))
    (s2 : Cinf T n_fixed_Scale [.v (.int .i64 x), .v (.int .i64 y), .v (.int .i64 z)] = some (if ref then .tup [.v (.int .i64 0), .v (.int .i64 41)] else .tup [.v (.int .i64 W), .v (.int .i64 0)], [.dead, .dead, .dead]))
    (w1 : Cinf T n_limbs_Whole [.v (.int .i64 x)] = some (.agg [.v (.bool sx), .own 1 (ul nx), .own 1 (ul mx)], [.dead]))
    (w2 : Cinf T n_limbs_Whole [.v (.int .i64 y)] = some (.agg [.v (.bool sy), .own 1 (ul ny), .own 1 (ul my)], [.dead]))
    (w3 : Cinf T n_limbs_Whole [.v (.int .i64 z)] = some (.agg [.v (.bool sz), .own 1 (ul nz), .own 1 (ul mz)], [.dead]))
    (t1 : Cinf T n_limbs_Times [.agg [.v (.bool sx), .ro 1 (ul nx), .ro 1 (ul mx)], .agg [.v (.bool sy), .ro 1 (ul ny), .ro 1 (ul my)]] = some (.tup [.agg [.v (.bool sp), .own 1 (ul np), .own 1 (ul mp)], .v (.int .i64 0)], [.dead, .dead]))
    (b1 : Cinf T n_limbs_By [.agg [.v (.bool sp), .ro 1 (ul np), .ro 1 (ul mp)], .agg [.v (.bool sz), .ro 1 (ul nz), .ro 1 (ul mz)]] = some (.tup [.agg [.v (.bool sq), .own 1 (ul nq), .own 1 (ul mq)], .v (.int .i64 0)], [.dead, .dead]))
    (h1 : Cinf T n_limbs_Over [.v (.bool false), .ro 1 [.v (.int .u32 1)], .ro 1 [.v (.int .u32 2)]] = some (.tup [.agg [.v (.bool sh), .own 1 (ul nh), .own 1 (ul mh)], .v (.int .i64 0)], [.dead, .dead, .dead]))
    (kr : ref = true → ∃ (su sv : Bool) (nu mu nv mv : List Nat),
      Cinf T n_limbs_Whole [.v (.int .i64 9223372036854775807)] = some (.agg [.v (.bool su), .own 1 (ul nu), .own 1 (ul mu)], [.dead]) ∧
      Cinf T n_limbs_Whole [.v (.int .i64 (-9223372036854775808))] = some (.agg [.v (.bool sv), .own 1 (ul nv), .own 1 (ul mv)], [.dead]) ∧
      Cinf T n_limbs_Plus [.agg [.v (.bool su), .ro 1 (ul nu), .ro 1 (ul mu)], .agg [.v (.bool sh), .ro 1 (ul nh), .ro 1 (ul mh)]] = some (.tup [.agg [.v (.bool st), .own 1 (ul nt), .own 1 (ul mt)], .v (.int .i64 0)], [.dead, .dead]) ∧
      Cinf T n_limbs_Minus [.agg [.v (.bool sv), .ro 1 (ul nv), .ro 1 (ul mv)], .agg [.v (.bool sh), .ro 1 (ul nh), .ro 1 (ul mh)]] = some (.tup [.agg [.v (.bool sl), .own 1 (ul nl), .own 1 (ul ml)], .v (.int .i64 0)], [.dead, .dead]) ∧
      Cinf T n_limbs_Order [.agg [.v (.bool sq), .ro 1 (ul nq), .ro 1 (ul mq)], .agg [.v (.bool st), .ro 1 (ul nt), .ro 1 (ul mt)]] = some (.tup [.v (.int .i64 c), .v (.int .i64 0)], [.dead, .dead]) ∧
      Cinf T n_limbs_Order [.agg [.v (.bool sq), .ro 1 (ul nq), .ro 1 (ul mq)], .agg [.v (.bool sl), .ro 1 (ul nl), .ro 1 (ul ml)]] = some (.tup [.v (.int .i64 d), .v (.int .i64 0)], [.dead, .dead]) ∧ (0 ≤ c ∨ d < 0))
    (kn : ref = false →
      Cinf T n_limbs_Whole [.v (.int .i64 W)] = some (.agg [.v (.bool sw), .own 1 (ul nw), .own 1 (ul mw)], [.dead]) ∧
      Cinf T n_limbs_Minus [.agg [.v (.bool sq), .ro 1 (ul nq), .ro 1 (ul mq)], .agg [.v (.bool sw), .ro 1 (ul nw), .ro 1 (ul mw)]] = some (.tup [.agg [.v (.bool sa), .own 1 (ul na), .own 1 (ul ma)], .v (.int .i64 0)], [.dead, .dead]) ∧
      Cinf T n_limbs_Order [.agg [.v (.bool false), .ro 1 (ul na), .ro 1 (ul ma)], .agg [.v (.bool sh), .ro 1 (ul nh), .ro 1 (ul mh)]] = some (.tup [.v (.int .i64 g), .v (.int .i64 0)], [.dead, .dead]) ∧ (g < 0 ∨ g = 0 ∧ W.tmod 2 = 0)) :
    ∃ backs, Cinf T n_thicketlaw04_FixedHalf [.v (.int .i64 x), .v (.int .i64 y), .v (.int .i64 z)] = some (.v (.bool true), backs) := by
  rw [run_thicketlaw04_FixedHalf]
  cases ref with
  | true =>
    obtain ⟨su, sv, nu, mu, nv, mv, u1, v1, p1, m1, o1, o2, ho⟩ := kr rfl
    rw [if_pos rfl] at s2
    rcases ho with ho | ho
    · exact ⟨_, by simp [Run, c_begins, s1, s2, hz, w1, w2, w3, t1, b1, h1, u1, v1, p1, m1, o1, o2, ho, sameL_ul]; rfl⟩
    · by_cases hc : 0 ≤ c
      · exact ⟨_, by simp [Run, c_begins, s1, s2, hz, w1, w2, w3, t1, b1, h1, u1, v1, p1, m1, o1, o2, hc, sameL_ul]; rfl⟩
      · exact ⟨_, by simp [Run, c_begins, s1, s2, hz, w1, w2, w3, t1, b1, h1, u1, v1, p1, m1, o1, o2, ho, hc, sameL_ul]; rfl⟩
  | false =>
    obtain ⟨u1, m1, o1, ho⟩ := kn rfl
    rw [if_neg (by decide)] at s2
    have hr : binInt .rem .i64 W 2 = some (.int .i64 (W.tmod 2)) := by rw [binInt_rem, if_neg (by decide)]
    rcases ho with ho | ⟨rfl, ho⟩
    · exact ⟨_, by simp [-binInt_rem, Run, c_begins, s1, s2, hz, w1, w2, w3, t1, b1, h1, u1, m1, o1, ho, hr, sameL_ul]; rfl⟩
    · exact ⟨_, by simp [-binInt_rem, Run, c_begins, s1, s2, hz, w1, w2, w3, t1, b1, h1, u1, m1, o1, ho, hr, sameL_ul]; rfl⟩
end Go.AM.F

/- FixedHalf: it answers true at every input. No conditions. -/
namespace Go.AM.F
open Go Go.AM
set_option maxRecDepth 10000
set_option linter.unusedSimpArgs false
attribute [local simp] j0_thicketlaw04_FixedHalf j1_thicketlaw04_FixedHalf j2_thicketlaw04_FixedHalf j3_thicketlaw04_FixedHalf j4_thicketlaw04_FixedHalf b_thicketlaw04_FixedHalf a_thicketlaw04_FixedHalf
theorem canR_eq (z : Int) (d : Nat) : canR z d = .agg [.v (.bool (cbN z)), .own 1 (ul (limbs (cnN z d))), .own 1 (ul (limbs (cdN z d)))] := rfl
theorem canA_eq' (z : Int) (d : Nat) : canA z d = .agg [.v (.bool (cbN z)), .ro 1 (ul (limbs (cnN z d))), .ro 1 (ul (limbs (cdN z d)))] := rfl
theorem c_FixedHalf (x y z : Int) (x1 : -9223372036854775808 ≤ x) (x2 : x < 9223372036854775808) (y1 : -9223372036854775808 ≤ y) (y2 : y < 9223372036854775808) (z1 : -9223372036854775808 ≤ z) (z2 : z < 9223372036854775808) :
    ∃ backs, Cinf T n_thicketlaw04_FixedHalf [.v (.int .i64 x), .v (.int .i64 y), .v (.int .i64 z)] = some (.v (.bool true), backs) := by
  have s1 := c_Scale x 1 1 x1 x2 (by decide) (by decide) (by decide) (by decide)
  rw [scR_one x x1 x2] at s1
  have s2 := c_Scale x y z x1 x2 y1 y2 z1 z2
  by_cases hz : z = 0
  · subst hz
    rw [scR, if_pos rfl] at s2
    rw [run_thicketlaw04_FixedHalf]
    exact ⟨_, by simp [Run, c_begins, s1, s2]; rfl⟩
  have rx := rt_int x1 x2
  have ry := rt_int y1 y2
  have rz := rt_int z1 z2
  have w1 := c_Whole x x1 x2
  have w2 := c_Whole y y1 y2
  have w3 := c_Whole z z1 z2
  rw [rat_whole] at w1 w2 w3
  have t1 := c_TimesC rx ry (by decide) (by decide)
  have rp := rx.times ry
  have b1 := c_ByC rp rz (by decide) (by decide)
  rw [if_neg hz] at b1
  obtain ⟨Y, e, b1, rq, hq⟩ := b1
  rw [show 1 * 1 = 1 from rfl] at t1 b1 hq
  have he : (0 : Int) < e := pos_cast rq.pos
  have hq2 : Y * z = x * y * e := by
    simp only [Int.natCast_one, Int.mul_one] at hq
    exact hq
  have hq3 := quot_sign hz hq2
  have h1 := c_Over false [1] [2] ⟨Lim.one (by decide), by decide⟩ ⟨Lim.one (by decide), by decide⟩
  have rh : Rt 1 2 1 := ⟨by decide, limbs_len_le (by decide), limbs_len_le (by decide)⟩
  have hh : overR false (val [1]) (val [2]) = .tup [canR 1 2, .v (.int .i64 0)] := by
    rw [overR, if_neg (by decide), rightR_can _ _ _ (by decide)]
    rfl
  rw [hh] at h1
  have hB : 0 < z.natAbs := by omega
  unfold scR at s2
  rw [if_neg hz] at s2
  obtain ⟨N, hN⟩ : ∃ N, ngR x y z = N := ⟨_, rfl⟩
  obtain ⟨A, hA⟩ : ∃ A, x.natAbs * y.natAbs = A := ⟨_, rfl⟩
  rw [hN, hA] at s2 hq3
  obtain ⟨m, hm⟩ : ∃ m, rnd A z.natAbs = m := ⟨_, rfl⟩
  by_cases hc : 9223372036854775808 < rnd A z.natAbs ∨ (rnd A z.natAbs = 9223372036854775808 ∧ N = false)
  · rw [if_pos hc] at s2
    have hb := half_beyond hB he hq3 hc
    have u1 := c_Whole 9223372036854775807 (by decide) (by decide)
    have v1 := c_Whole (-9223372036854775808) (by decide) (by decide)
    rw [rat_whole] at u1 v1
    have ru : Rt 9223372036854775807 1 3 := rt_int (by decide) (by decide)
    have rv : Rt (-9223372036854775808) 1 3 := rt_int (by decide) (by decide)
    have p1 := c_PlusC ru rh (by decide) (by decide)
    have m1 := c_MinusC rv rh (by decide) (by decide)
    have rt := ru.plus rh
    have rl := rv.plus rh.neg
    obtain ⟨c, o1, oc⟩ := c_OrderC rq rt (by decide) (by decide)
    obtain ⟨d, o2, od⟩ := c_OrderC rq rl (by decide) (by decide)
    have kc := order_sgn rq rt oc
    have kd := order_sgn rq rl od
    have ho : 0 ≤ sgnZ c ∨ sgnZ d < 0 := by
      rcases hb with hb | hb
      · left
        rw [kc]
        refine Int.not_lt.1 (sgnZ_nonneg ?_)
        rw [show (9223372036854775807 * ((2 : Nat) : Int) + 1 * ((1 : Nat) : Int)) = 18446744073709551615 from rfl, show ((1 * 2 : Nat) : Int) = 2 from rfl]
        omega
      · right
        rw [kd]
        rw [sgnZ_neg]
        · decide
        · rw [show (-9223372036854775808 * ((2 : Nat) : Int) + -1 * ((1 : Nat) : Int)) = -18446744073709551617 from rfl, show ((1 * 2 : Nat) : Int) = 2 from rfl]
          omega
    simp only [canR_eq] at w1 w2 w3 t1 b1 h1 u1 v1 p1 m1
    simp only [canA_eq'] at t1 b1 p1 m1 o1 o2
    exact half_walk x y z hz _ _ _ _ _ _ _ _ false false _ _ _ _ _ _ _ _ _ _ _ _ _ _ _ _ [] [] [] [] 0 _ _ 0 true s1 s2 w1 w2 w3 t1 b1 h1 (fun _ => ⟨_, _, _, _, _, _, u1, v1, p1, m1, o1, o2, ho⟩) (fun h => by cases h)
  · rw [if_neg hc] at s2
    have hn := half_near hB he rfl hq3
    rw [hm] at s2 hc hn
    have hW : (if N = true then -(m : Int) else m) = sg N m := by cases N <;> rfl
    rw [hW] at s2
    have hW1 : -9223372036854775808 ≤ sg N m ∧ sg N m < 9223372036854775808 := by
      cases N
      · simp only [sg, Bool.false_eq_true, if_false]
        have : ¬ (9223372036854775808 < m) := fun h => hc (.inl h)
        have : ¬ (m = 9223372036854775808) := fun h => hc (.inr ⟨h, rfl⟩)
        omega
      · simp only [sg, if_true]
        have : ¬ (9223372036854775808 < m) := fun h => hc (.inl h)
        omega
    have hpar : m % 2 = 0 → (sg N m).tmod 2 = 0 := by
      intro h
      have h3 : ((m : Int)).tmod 2 = 0 := by
        rw [show ((m : Int)).tmod 2 = ((m % 2 : Nat) : Int) from rfl, h]
        rfl
      cases N
      · exact h3
      · show (-(m : Int)).tmod 2 = 0
        rw [Int.neg_tmod, h3]
        rfl
    obtain ⟨W, hWe⟩ : ∃ W, sg N m = W := ⟨_, rfl⟩
    rw [hWe] at s2 hn hW1 hpar
    have u1 := c_Whole W hW1.1 hW1.2
    rw [rat_whole] at u1
    have rw_ := rt_int hW1.1 hW1.2
    have m1 := c_MinusC rq rw_ (by decide) (by decide)
    have ra := rq.plus rw_.neg
    have hD : Y * ((1 : Nat) : Int) + -W * (e : Int) = Y - W * e := by
      rw [Int.natCast_one, Int.mul_one, Int.neg_mul]
      rfl
    rw [hD, Nat.mul_one] at m1
    rw [hD, Nat.mul_one] at ra
    obtain ⟨D, hDe⟩ : ∃ D, Y - W * e = D := ⟨_, rfl⟩
    rw [hDe] at m1 ra hn
    have ra2 : Rt (D.natAbs : Int) e _ := ⟨ra.pos, by rw [Int.natAbs_natCast]; exact ra.num, ra.den⟩
    obtain ⟨g, o1, og⟩ := c_OrderC ra2 rh (by decide) (by decide)
    have kg := order_sgn ra2 rh og
    have ho : sgnZ g < 0 ∨ sgnZ g = 0 ∧ W.tmod 2 = 0 := by
      rw [kg, show ((2 : Nat) : Int) = 2 from rfl]
      rcases hn with hn | ⟨hn, h2⟩
      · left
        rw [sgnZ_neg (by omega)]
        decide
      · right
        refine ⟨?_, hpar h2⟩
        rw [show (D.natAbs : Int) * 2 - 1 * (e : Int) = 0 by omega]
        rfl
    rw [← canA_abs] at o1
    simp only [canR_eq] at w1 w2 w3 t1 b1 h1 u1 m1
    simp only [canA_eq', ratA] at t1 b1 m1 o1
    exact half_walk x y z hz _ _ _ _ _ _ false false _ _ _ _ _ _ _ _ _ _ _ _ _ _ [] [] [] [] _ _ _ _ W 0 0 _ false s1 s2 w1 w2 w3 t1 b1 h1 (fun h => by cases h) (fun _ => ⟨u1, m1, o1, ho⟩)
end Go.AM.F

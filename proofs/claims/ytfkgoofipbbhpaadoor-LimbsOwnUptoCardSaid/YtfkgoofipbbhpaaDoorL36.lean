/- Sums, products, quotients of quotients, by the program and by the document. No conditions. -/
import Derived.Test.YtfkgoofipbbhpaaDoorL35
namespace Go.AM.F
open Go Go.AM
set_option maxRecDepth 10000
set_option linter.unusedSimpArgs false
attribute [local simp] j0_limbs_both b_limbs_both a_limbs_both j0_limbs_Plus b_limbs_Plus a_limbs_Plus j0_thicketref01_Plus j1_thicketref01_Plus j2_thicketref01_Plus b_thicketref01_Plus a_thicketref01_Plus

theorem sg_add (s : Bool) (a b : Nat) : sg s (a + b) = sg s a + sg s b := by cases s <;> simp [sg] <;> omega
theorem sg_mul (s : Bool) (a b : Nat) : sg s (a * b) = sg s a * b := by cases s <;> simp [sg, Int.neg_mul]
theorem sg_sub (s : Bool) {a b : Nat} (h : b ≤ a) : sg s (a - b) = sg s a + sg (!s) b := by cases s <;> simp [sg] <;> omega
def ratF : PV := .agg [.v (.bool false), .ro 1 [], .ro 1 []]
def bothR (neg1 : Bool) (n1 d1 : Nat) (neg2 : Bool) (n2 d2 : Nat) : PV := if d1 = 0 then .tup [ratF, ratF, .v (.int .i64 11)] else if d2 = 0 then .tup [canR (sg neg1 n1) d1, rat false 0 0, .v (.int .i64 11)] else .tup [canR (sg neg1 n1) d1, canR (sg neg2 n2) d2, .v (.int .i64 0)]
theorem overR_pos (neg : Bool) (n : Nat) {d : Nat} (h : d ≠ 0) : overR neg n d = .tup [canR (sg neg n) d, .v (.int .i64 0)] := by
  unfold overR
  rw [if_neg h, rightR_can neg n d (by omega)]
theorem overR_zero (neg : Bool) (n : Nat) : overR neg n 0 = .tup [rat false 0 0, .v (.int .i64 11)] := rfl
theorem c_both (neg1 neg2 : Bool) (n1 d1 n2 d2 : List Nat) (h1 : Fit n1) (h2 : Fit d1) (h3 : Fit n2) (h4 : Fit d2) : Cinf T n_limbs_both [ratA neg1 n1 d1, ratA neg2 n2 d2] = some (bothR neg1 (val n1) (val d1) neg2 (val n2) (val d2), [.dead, .dead]) := by
  have o1 := c_Over neg1 n1 d1 h1 h2
  have o2 := c_Over neg2 n2 d2 h3 h4
  rw [run_limbs_both]
  unfold bothR
  by_cases e1 : val d1 = 0
  · rw [e1, overR_zero] at o1
    rw [if_pos e1]
    simp only [rat, limbs_zero, ul_nil] at o1
    simp [Run, ratA, ratF, o1]
  · rw [if_neg e1]
    rw [overR_pos _ _ e1] at o1
    by_cases e2 : val d2 = 0
    · rw [e2, overR_zero] at o2
      rw [if_pos e2]
      simp only [canR, rat, limbs_zero, ul_nil] at o1 o2 ⊢
      simp [Run, ratA, o1, o2]
    · rw [if_neg e2]
      rw [overR_pos _ _ e2] at o2
      simp only [canR, rat] at o1 o2 ⊢
      simp [Run, ratA, o1, o2]
/-- What Plus answers. -/
def plusR (neg1 : Bool) (n1 d1 : Nat) (neg2 : Bool) (n2 d2 : Nat) : PV := if d1 = 0 ∨ d2 = 0 then .tup [rat false 0 0, .v (.int .i64 11)] else .tup [canR (sg neg1 n1 * d2 + sg neg2 n2 * d1) (d1 * d2), .v (.int .i64 0)]
theorem fit_of {v k : Nat} (h : (limbs v).length ≤ k) (hk : k ≤ 1099511627776) : Fit (limbs v) := ⟨limbs_lim v, by omega⟩
theorem len_mul (a b : Nat) : (limbs (a * b)).length ≤ (limbs a).length + (limbs b).length := by
  have := limbs_mul_len (limbs_lim a) (limbs_lim b)
  rwa [val_limbs, val_limbs] at this
theorem len_add (a b : Nat) : (limbs (a + b)).length ≤ (limbs a).length + (limbs b).length + 1 := by
  have := limbs_add_len (limbs_lim a) (limbs_lim b)
  rwa [val_limbs, val_limbs] at this
theorem c_Plus (neg1 neg2 : Bool) (n1 d1 n2 d2 : List Nat) (h1 : Lim n1) (h2 : Lim d1) (h3 : Lim n2) (h4 : Lim d2) (l1 : n1.length ≤ 1073741824) (l2 : d1.length ≤ 1073741824) (l3 : n2.length ≤ 1073741824) (l4 : d2.length ≤ 1073741824) :
    Cinf T n_limbs_Plus [ratA neg1 n1 d1, ratA neg2 n2 d2] = some (plusR neg1 (val n1) (val d1) neg2 (val n2) (val d2), [.dead, .dead]) := by
  have hb := c_both neg1 neg2 n1 d1 n2 d2 ⟨h1, by omega⟩ ⟨h2, by omega⟩ ⟨h3, by omega⟩ ⟨h4, by omega⟩
  rw [run_limbs_Plus]
  unfold bothR at hb
  unfold plusR
  by_cases e1 : val d1 = 0
  · rw [if_pos e1] at hb
    rw [if_pos (.inl e1)]
    simp only [ratA, ratF] at hb ⊢
    simp [Run, rat, limbs_zero, hb]
  rw [if_neg e1] at hb
  by_cases e2 : val d2 = 0
  · rw [if_pos e2] at hb
    rw [if_pos (.inr e2)]
    simp only [ratA, canR, rat, limbs_zero, ul_nil] at hb ⊢
    simp [Run, hb]
  rw [if_neg e2] at hb
  rw [if_neg (by omega)]
  obtain ⟨v1, p1⟩ := can_val (sg neg1 (val n1)) (d := val d1) (by omega)
  obtain ⟨v2, p2⟩ := can_val (sg neg2 (val n2)) (d := val d2) (by omega)
  have b1 := limbs_le h1 (v := cnN (sg neg1 (val n1)) (val d1)) (by have := cnN_le (sg neg1 (val n1)) (val d1); rwa [sg_abs] at this)
  have b2 := limbs_le h2 (v := cdN (sg neg1 (val n1)) (val d1)) (cdN_le _ _)
  have b3 := limbs_le h3 (v := cnN (sg neg2 (val n2)) (val d2)) (by have := cnN_le (sg neg2 (val n2)) (val d2); rwa [sg_abs] at this)
  have b4 := limbs_le h4 (v := cdN (sg neg2 (val n2)) (val d2)) (cdN_le _ _)
  have key := plus_val v1 v2
  have hdd : 0 < val d1 * val d2 := Nat.mul_pos (by omega) (by omega)
  simp only [canR] at hb
  obtain ⟨s1, hs1⟩ : ∃ s, cbN (sg neg1 (val n1)) = s := ⟨_, rfl⟩
  obtain ⟨s2, hs2⟩ : ∃ s, cbN (sg neg2 (val n2)) = s := ⟨_, rfl⟩
  obtain ⟨n1', hn1⟩ : ∃ s, cnN (sg neg1 (val n1)) (val d1) = s := ⟨_, rfl⟩
  obtain ⟨n2', hn2⟩ : ∃ s, cnN (sg neg2 (val n2)) (val d2) = s := ⟨_, rfl⟩
  obtain ⟨q1, hq1⟩ : ∃ s, cdN (sg neg1 (val n1)) (val d1) = s := ⟨_, rfl⟩
  obtain ⟨q2, hq2⟩ : ∃ s, cdN (sg neg2 (val n2)) (val d2) = s := ⟨_, rfl⟩
  rw [hs1, hn1, hq1, hs2, hn2, hq2] at hb
  rw [hs1, hn1, hq1, hs2, hn2, hq2] at key
  rw [hq1] at p1 b2
  rw [hq2] at p2 b4
  rw [hn1] at b1
  rw [hn2] at b3
  have m1l := len_mul n1' q2
  have m2l := len_mul n2' q1
  have m3l := len_mul q1 q2
  have m1 := c_Mul (limbs n1') (limbs q2) (fit_of b1 (by omega)) (fit_of b4 (by omega))
  have m2 := c_Mul (limbs n2') (limbs q1) (fit_of b3 (by omega)) (fit_of b2 (by omega))
  have m3 := c_Mul (limbs q1) (limbs q2) (fit_of b2 (by omega)) (fit_of b4 (by omega))
  rw [val_limbs, val_limbs] at m1 m2 m3
  have hqq : 0 < q1 * q2 := Nat.mul_pos p1 p2
  have f1 : Fit (limbs (n1' * q2)) := fit_of (k := 2147483648) (by omega) (by omega)
  have f2 : Fit (limbs (n2' * q1)) := fit_of (k := 2147483648) (by omega) (by omega)
  have f3 : Fit (limbs (q1 * q2)) := fit_of (k := 2147483648) (by omega) (by omega)
  have hc := c_Cmp (limbs (n1' * q2)) (limbs (n2' * q1)) f1 f2
  rw [val_limbs, val_limbs] at hc
  have e3 : canR (sg neg1 (val n1) * (val d2 : Nat) + sg neg2 (val n2) * (val d1 : Nat)) (val d1 * val d2) = canR (sg s1 n1' * q2 + sg s2 n2' * q1) (q1 * q2) := (can_eq hqq hdd key).symm
  rw [e3]
  have hr : ∀ (s : Bool) (v : Nat), (limbs v).length ≤ 8589934592 → sg s v = sg s1 n1' * q2 + sg s2 n2' * q1 → Cinf T n_limbs_right [.v (.bool s), .ro 1 (ul (limbs v)), .ro 1 (ul (limbs (q1 * q2)))] = some (canR (sg s1 n1' * q2 + sg s2 n2' * q1) (q1 * q2), [.dead, .dead, .dead]) := by
    intro s v hv he
    have := c_right s (limbs v) (limbs (q1 * q2)) (fit_of hv (by omega)) f3 (by rw [val_limbs]; omega)
    rw [val_limbs, val_limbs, rightR_can _ _ _ hqq, he] at this
    exact this
  by_cases hss : s1 = s2
  · subst hss
    have ha := c_Add (limbs (n1' * q2)) (limbs (n2' * q1)) f1 f2
    rw [val_limbs, val_limbs] at ha
    have hal := len_add (n1' * q2) (n2' * q1)
    have h5 := hr s1 (n1' * q2 + n2' * q1) (by omega) (by rw [sg_add, sg_mul, sg_mul])
    simp only [ratA, canR, rat] at hb h5 ⊢
    simp [Run, hb, m1, m2, m3, hc, ha, h5]
  · have hs : s1 = !s2 := by cases s1 <;> cases s2 <;> simp at hss ⊢
    have hs' : s2 = !s1 := by cases s1 <;> cases s2 <;> simp at hss ⊢
    by_cases hlt : n1' * q2 < n2' * q1
    · rw [cmp_lt hlt] at hc
      have hsub := c_sub (limbs (n2' * q1)) (limbs (n1' * q2)) f2 f1 (limbs_mono (by omega)) (by rw [val_limbs, val_limbs]; omega)
      rw [val_limbs, val_limbs] at hsub
      have hml := limbs_mono (m := n2' * q1 - n1' * q2) (n := n2' * q1) (by omega)
      have h5 := hr s2 (n2' * q1 - n1' * q2) (by omega) (by rw [sg_sub s2 (by omega), sg_mul, sg_mul, ← hs, Int.add_comm])
      simp only [ratA, canR, rat] at hb h5 ⊢
      simp [Run, hb, m1, m2, m3, hc, hss, hsub, h5]
    · have hcn : ¬ cmpN (n1' * q2) (n2' * q1) < 0 := by
        unfold cmpN
        rw [if_neg hlt]
        split <;> decide
      have hsub := c_sub (limbs (n1' * q2)) (limbs (n2' * q1)) f1 f2 (limbs_mono (by omega)) (by rw [val_limbs, val_limbs]; omega)
      rw [val_limbs, val_limbs] at hsub
      have hml := limbs_mono (m := n1' * q2 - n2' * q1) (n := n1' * q2) (by omega)
      have h5 := hr s1 (n1' * q2 - n2' * q1) (by omega) (by rw [sg_sub s1 (by omega), sg_mul, sg_mul, ← hs'])
      simp only [ratA, canR, rat] at hb h5 ⊢
      simp [Run, hb, m1, m2, m3, hc, hcn, hss, hsub, h5]
end Go.AM.F

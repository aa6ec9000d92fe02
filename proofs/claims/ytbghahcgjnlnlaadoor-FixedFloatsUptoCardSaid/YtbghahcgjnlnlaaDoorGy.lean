/- FixedFloats: the document's words; the law. No conditions. -/
import Derived.Test.YtbghahcgjnlnlaaDoorFy
/- The document's binary64s: Of, Ratio, Rounded, Nearest (to fixed). No conditions. -/
namespace Go.AM.F
open Go Go.AM
set_option maxRecDepth 10000
set_option linter.unusedSimpArgs false
set_option exponentiation.threshold 110000
attribute [local simp] j0_thicketref02_Of j1_thicketref02_Of b_thicketref02_Of a_thicketref02_Of
attribute [local simp] b_thicketref02_Wide a_thicketref02_Wide
attribute [local simp] j0_thicketref02_Ratio w0_thicketref02_Ratio j1_thicketref02_Ratio j2_thicketref02_Ratio j3_thicketref02_Ratio b_thicketref02_Ratio a_thicketref02_Ratio
attribute [local simp] j0_fixed_rounded b_fixed_rounded a_fixed_rounded j0_thicketref04_Rounded j1_thicketref04_Rounded j2_thicketref04_Rounded b_thicketref04_Rounded a_thicketref04_Rounded
attribute [local simp] j0_thicketref04_Nearest j1_thicketref04_Nearest j2_thicketref04_Nearest b_thicketref04_Nearest a_thicketref04_Nearest
theorem c_Wide : Cinf T n_thicketref02_Wide [] = some (.agg wideB, []) := by
  rw [run_thicketref02_Wide]
  simp [Run, wideB]
def ofR (w : Nat) : List PV := [.v (.bool (sgn w)), .v (.bool (decide (fE w = 2047 ∧ fM w = 0))), .v (.bool (decide (fE w = 2047 ∧ fM w ≠ 0))), .v (.int .u64 (if fE w = 2047 then fM w else mW w : Nat)), .v (.int .i64 (if fE w = 2047 then 0 else qE w))]
theorem c_Of (w : Nat) (hw : w < 18446744073709551616) : Cinf T n_thicketref02_Of [.v (.int .u64 (w : Nat)), .agg wideB] = some (.agg (ofR w), [.dead, .dead]) := by
  have hs1 : binInt .shr .u64 (w : Int) 63 = some (.int .u64 (w / 9223372036854775808 : Nat)) := shr_64 w 63 (by decide)
  have hs2 : binInt .shr .u64 (w : Int) 52 = some (.int .u64 (w / 4503599627370496 : Nat)) := shr_64 w 52 (by decide)
  obtain ⟨q, hq⟩ : ∃ q, w / 9223372036854775808 = q := ⟨_, rfl⟩
  obtain ⟨p, hp⟩ : ∃ p, w / 4503599627370496 = p := ⟨_, rfl⟩
  have hq1 : q ≤ 1 := by omega
  rw [hq] at hs1
  rw [hp] at hs2
  have ha0 : binInt .and .u64 (q : Int) 1 = some (.int .u64 (q : Nat)) := by
    have := and1_64 q (by omega)
    rw [show q % 2 = q by omega] at this
    exact this
  have ha1 : binInt .and .u64 (p : Int) 2047 = some (.int .u64 (fE w : Nat)) := and64 (x := p) (y := 2047) (by omega) (by decide) (by unfold fE; rw [hp]; exact Nat.and_two_pow_sub_one_eq_mod p 11)
  have ha2 : binInt .and .u64 (w : Int) 4503599627370495 = some (.int .u64 (fM w : Nat)) := and64 (x := w) (y := 4503599627370495) hw (by decide) (by unfold fM; exact Nat.and_two_pow_sub_one_eq_mod w 52)
  have hq2 : (q = 1) = (sgn w = true) := propext (by unfold sgn; rw [hq, beq_iff_eq]; omega)
  have hsg : sgn w = decide (q = 1) := by cases h : sgn w <;> simp [hq2, h]
  obtain ⟨_, f1, f2⟩ := rg_fields w
  have hw1 : IntKind.i64.wrap (fE w : Int) = fE w := wrap_nat (by omega)
  have hw2 : fE w ≠ 0 → IntKind.i64.wrap ((fE w : Int) - 1) = (fE w : Int) - 1 := fun h => by rw [wrap_i64] <;> omega
  have hw3 : IntKind.i64.wrap ((fE w : Int) - 1 + -1074) = (fE w : Int) - 1075 := by rw [wrap_i64] <;> omega
  have hor : binInt .or .u64 (fM w : Nat) 4503599627370496 = some (.int .u64 (4503599627370496 + fM w : Nat)) :=
    or64 (y := 4503599627370496) (by omega) (by decide) ((or_low (x := 1) (r := 52) (by omega)).trans (by omega))
  have l1 : binInt .shl .u64 1 11 = some (.int .u64 2048) := by have := shl_64 1 11 (by decide) (by decide); simpa [-binInt_shl] using this
  have l2 : binInt .shl .u64 1 52 = some (.int .u64 4503599627370496) := by have := shl_64 1 52 (by decide) (by decide); simpa [-binInt_shl] using this
  have u1 : IntKind.u64.wrap 52 = 52 := wrap_u64 (by decide) (by decide)
  have u2 : IntKind.u64.wrap 63 = 63 := wrap_u64 (by decide) (by decide)
  have u3 : IntKind.u64.wrap 11 = 11 := wrap_u64 (by decide) (by decide)
  have u4 : IntKind.u64.wrap 2047 = 2047 := wrap_u64 (by decide) (by decide)
  have u5 : IntKind.u64.wrap 4503599627370495 = 4503599627370495 := wrap_u64 (by decide) (by decide)
  rw [run_thicketref02_Of]
  unfold ofR mW qE
  rw [hsg]
  obtain ⟨z, hz⟩ : ∃ z, 4503599627370496 + fM w = z := ⟨_, rfl⟩
  rw [hz] at hor ⊢
  generalize fE w = ee at *
  generalize fM w = mm at *
  by_cases h1 : ee = 2047
  · subst h1
    by_cases h2 : mm = 0
    · simp [-binInt_shr, -binInt_shl, -binInt_and, -binInt_or, Run, wideB, hs1, hs2, ha0, ha1, ha2, hw1, l1, l2, u1, u2, u3, u4, u5, h2]
    · simp [-binInt_shr, -binInt_shl, -binInt_and, -binInt_or, Run, wideB, hs1, hs2, ha0, ha1, ha2, hw1, l1, l2, u1, u2, u3, u4, u5, h2]
  · by_cases h3 : ee = 0
    · subst h3
      simp [-binInt_shr, -binInt_shl, -binInt_and, -binInt_or, Run, wideB, hs1, hs2, ha0, ha1, ha2, hw1, l1, l2, u1, u2, u3, u4, u5]
    · have h4 : ¬ (ee : Int) = 2047 := by omega
      have h5 : ¬ (ee : Int) = 0 := by omega
      have hw2 := hw2 h3
      simp [-binInt_shr, -binInt_shl, -binInt_and, -binInt_or, Run, wideB, hs1, hs2, ha0, ha1, ha2, hw1, hw2, hw3, l1, l2, u1, u2, u3, u4, u5, h1, h3, h4, h5, hor]
/-- The document's rounded quotient, of numbers of any size that fits. -/
theorem c4_RoundedF (A B : Nat) (hAf : Fit (limbs A)) (hBk : ∀ k, k ≤ 64 → Fit (limbs (B * 2 ^ k))) (hB0 : 0 < B) :
    Cinf T n_thicketref04_Rounded [.ro 1 (ul (limbs A)), .ro 1 (ul (limbs B))] = some (if nbits B + 64 ≤ nbits A ∨ 9223372036854775808 < A / B then .tup [.v (.int .u64 0), .v (.bool false)] else .tup [.v (.int .u64 (rnd A B : Nat)), .v (.bool true)], [.dead, .dead]) := by
  have hBf : Fit (limbs B) := by simpa using hBk 0 (by omega)
  have h1 := c2_Size A hAf
  have h2 := c2_Size B hBf
  have n1 : nbits A ≤ 35184372088832 := by have := nbits_val hAf.1; rw [val_limbs] at this; have := hAf.2; omega
  have n2 : nbits B ≤ 35184372088832 := by have := nbits_val hBf.1; rw [val_limbs] at this; have := hBf.2; omega
  have w1 : IntKind.i64.wrap ((nbits A : Int) - nbits B) = (nbits A : Int) - nbits B := by rw [wrap_i64] <;> omega
  rw [run_thicketref04_Rounded]
  by_cases hn : nbits B + 64 < nbits A
  · rw [if_pos (by omega)]
    have e : (64 : Int) < (nbits A : Int) - nbits B := by omega
    simp [Run, h1, h2, w1, e]
  · have e : ¬ (64 : Int) < (nbits A : Int) - nbits B := by omega
    have h3 := c2_Divide A B hAf hBk hB0 (by omega)
    have hrf : Fit (limbs (A % B)) := fit_mono hAf (Nat.mod_le _ _)
    have hm : A % B < B := Nat.mod_lt _ hB0
    by_cases hn2 : nbits A = nbits B + 64
    · rw [if_pos (by omega)]
      have e2 : (nbits A : Int) - nbits B = 64 := by omega
      obtain ⟨q, hq⟩ : ∃ q, A / B % 18446744073709551616 = q := ⟨_, rfl⟩
      obtain ⟨r, hr⟩ : ∃ r, A % B = r := ⟨_, rfl⟩
      rw [hq, hr] at h3
      rw [e2] at w1
      by_cases hg : 9223372036854775808 < q
      · simp [Run, h1, h2, e2, w1, h3, hg]
      · simp [Run, h1, h2, e2, w1, h3, hg]
    · have e2 : ¬ (nbits A : Int) - nbits B = 64 := by omega
      have hs := quot_small (A := A) (B := B) (by omega) hB0
      rw [Nat.mod_eq_of_lt hs] at h3
      have h4 := c2_Up (A % B) 1 hrf (by decide)
      have h5 := c2_Cmp (A % B * 2 ^ 1) B (fit_mono (hBk 1 (by decide)) (Nat.mul_le_mul_right _ (Nat.le_of_lt hm))) hBf
      rw [show A % B * 2 ^ 1 = 2 * (A % B) by omega] at h4 h5
      have hq0 := rnd_le A B
      unfold rnd at hq0 ⊢
      obtain ⟨q, hq⟩ : ∃ q, A / B = q := ⟨_, rfl⟩
      obtain ⟨r, hr⟩ : ∃ r, A % B = r := ⟨_, rfl⟩
      obtain ⟨d, hd⟩ : ∃ d, 2 * r = d := ⟨_, rfl⟩
      simp only [hq, hr, hd] at *
      simp only [Int.natCast_one] at h4
      by_cases hg : 9223372036854775808 < q
      · rw [if_pos (.inr hg)]
        simp [Run, h1, h2, e, e2, w1, h3, hg]
      · rw [if_neg (by omega)]
        have w2 : IntKind.u64.wrap ((q : Int) + 1) = (q : Int) + 1 := by rw [wrap_u64] <;> omega
        rcases Nat.lt_trichotomy d B with hl | hl | hl
        · rw [cmp_lt hl] at h5
          rw [if_neg (by omega)]
          simp [Run, h1, h2, e, e2, w1, h3, hg, h4, h5]
        · subst hl
          have e3 : cmpN d d = 0 := by simp [cmpN]
          rw [e3] at h5
          have q4 : binInt .rem .u64 q 2 = some (.int .u64 (q % 2 : Nat)) := by rw [binInt_rem, if_neg (by decide)]; rfl
          obtain ⟨o, ho⟩ : ∃ o, q % 2 = o := ⟨_, rfl⟩
          rw [ho] at q4
          by_cases ho1 : o = 1
          · subst ho1
            rw [if_pos (by omega)]
            simp [-binInt_rem, Run, h1, h2, e, e2, w1, h3, hg, h4, h5, q4, w2]
          · rw [if_neg (by omega)]
            have ho2 : ¬ (o : Int) = 1 := by omega
            simp [-binInt_rem, Run, h1, h2, e, e2, w1, h3, hg, h4, h5, q4, ho1, ho2]
        · rw [cmp_gt hl] at h5
          rw [if_pos (by omega)]
          simp [Run, h1, h2, e, e2, w1, h3, hg, h4, h5, w2]
/-- Twos are taken out. -/
def rtE (m : Nat) (e : Int) : Env := [(4, .v (.int .u64 (m : Nat))), (5, .v (.int .i64 e))]
theorem rt_loop : ∀ (k m : Nat) (e : Int), 0 < m → m < 2 ^ k → m < 18446744073709551616 → -4000 ≤ e → e + k ≤ 4000 → ∃ (j m' : Nat), m = m' * 2 ^ j ∧ j ≤ k ∧ Exec T l0_thicketref02_Ratio (rtE m e) = some (.exit 0, rtE m' (e + j)) := by
  intro k
  induction k with
  | zero => intro m e h1 h2; omega
  | succ k ih =>
    intro m e h1 h2 h3 h4 h5
    have q4 : binInt .rem .u64 (m : Nat) 2 = some (.int .u64 (m % 2 : Nat)) := by rw [binInt_rem, if_neg (by decide)]; rfl
    have hk : (rtE m e).keep [4, 5] = rtE m e := rfl
    by_cases ho : m % 2 = 0
    · have q5 : binInt .quo .u64 (m : Nat) 2 = some (.int .u64 (m / 2 : Nat)) := by
        have h6 : IntKind.u64.wrap ((m / 2 : Nat) : Int) = (m / 2 : Nat) := u64_nat (by omega)
        rw [binInt_quo, if_neg (by decide), show (m : Int).tdiv 2 = ((m / 2 : Nat) : Int) from rfl, h6]
      have w1 : IntKind.i64.wrap (e + 1) = e + 1 := by rw [wrap_i64] <;> omega
      rw [Nat.pow_succ] at h2
      obtain ⟨j, m', g1, g2, g3⟩ := ih (m / 2) (e + 1) (by omega) (by omega) (by omega) (by omega) (by omega)
      refine ⟨j + 1, m', by rw [Nat.pow_succ, ← Nat.mul_assoc, ← g1]; omega, by omega, ?_⟩
      rw [ho] at q4
      rw [ex0_thicketref02_Ratio, hk]
      have st : Exec T w0_thicketref02_Ratio (rtE m e) = some (.normal, rtE (m / 2) (e + 1)) := by
        simp only [rtE]
        simp [-binInt_rem, -binInt_quo, q4, q5, w1]
      rw [st]
      simp only [andThen_normal]
      rw [g3, show e + 1 + (j : Int) = e + ((j + 1 : Nat) : Int) by omega]
    · refine ⟨0, m, by rw [Nat.pow_zero, Nat.mul_one], Nat.zero_le _, ?_⟩
      rw [show m % 2 = 1 by omega] at q4
      rw [ex0_thicketref02_Ratio, hk]
      have st : Exec T w0_thicketref02_Ratio (rtE m e) = some (.exit 0, rtE m e) := by
        simp only [rtE]
        simp [-binInt_rem, q4]
      rw [st, show e + ((0 : Nat) : Int) = e by omega]
      rfl
end Go.AM.F

/- The document's Ratio and Nearest (to fixed): the same as the program's. No conditions. -/
namespace Go.AM.F
open Go Go.AM
set_option maxRecDepth 10000
set_option linter.unusedSimpArgs false
set_option exponentiation.threshold 110000
attribute [local simp] j0_thicketref02_Ratio w0_thicketref02_Ratio j1_thicketref02_Ratio j2_thicketref02_Ratio j3_thicketref02_Ratio b_thicketref02_Ratio a_thicketref02_Ratio
attribute [local simp] j0_thicketref04_Nearest j1_thicketref04_Nearest j2_thicketref04_Nearest b_thicketref04_Nearest a_thicketref04_Nearest
theorem one_row : ul (limbs 1) = [PV.v (.int .u32 1)] := by rw [limbs_one]; rfl
theorem c2_Ratio (a b c : Bool) (M : Nat) (e : Int) (hM : M < 18446744073709551616) (h1 : -1074 ≤ e) (h2 : e ≤ 1000) :
    ∃ n d j, Cinf T n_thicketref02_Ratio [.agg [.v (.bool a), .v (.bool b), .v (.bool c), .v (.int .u64 (M : Nat)), .v (.int .i64 e)]] = some (.tup [.own 1 (ul (limbs n)), .own 1 (ul (limbs d))], [.dead]) ∧ d = 2 ^ j ∧ j ≤ 1074 ∧ n < 2 ^ 1128 ∧ n * 2 ^ (-e).toNat = M * 2 ^ e.toNat * d := by
  rw [run_thicketref02_Ratio]
  by_cases h0 : M = 0
  · subst h0
    refine ⟨0, 1, 0, ?_, rfl, by decide, Nat.two_pow_pos _, by rw [Nat.zero_mul, Nat.zero_mul, Nat.zero_mul]⟩
    have e0 : ul (limbs 0) = [] := by rw [limbs_zero]; rfl
    rw [one_row, e0]
    simp [Run]
  · obtain ⟨j, m', g1, g2, g3⟩ := rt_loop 64 M e (by omega) hM hM (by omega) (by omega)
    have hm : m' < 18446744073709551616 := by
      rcases Nat.lt_or_ge m' 18446744073709551616 with h | h
      · exact h
      · have : m' * 1 ≤ m' * 2 ^ j := Nat.mul_le_mul_left _ (Nat.two_pow_pos j)
        omega
    have f := c2_from m' hm
    have fm : Fit (limbs m') := fit_bits (k := 64) hm (by decide)
    have f1 : Fit (limbs 1) := fit_bits (k := 64) (by decide) (by decide)
    unfold rtE at g3
    have hz : ¬ (M : Int) = 0 := by omega
    by_cases hp : 0 ≤ e + (j : Int)
    · obtain ⟨E, hE⟩ : ∃ E : Nat, e + (j : Int) = E := ⟨(e + (j : Int)).toNat, by omega⟩
      have u := c2_up m' E fm (by omega)
      rw [hE] at g3
      refine ⟨m' * 2 ^ E, 1, 0, ?_, rfl, by decide, ?_, ?_⟩
      · rw [one_row]
        simp [Run, h0, hz, g3, f, u]
      · rw [show 1128 = 64 + 1064 from rfl, Nat.pow_add]
        exact Nat.mul_lt_mul_of_lt_of_le hm (Nat.pow_le_pow_right (by decide) (by omega)) (Nat.two_pow_pos _)
      · rw [g1, Nat.mul_one, Nat.mul_assoc, Nat.mul_assoc, ← Nat.pow_add, ← Nat.pow_add, show E + (-e).toNat = j + e.toNat by omega]
    · obtain ⟨E, hE⟩ : ∃ E : Nat, -(e + (j : Int)) = E := ⟨(-(e + (j : Int))).toNat, by omega⟩
      have u := c2_up 1 E f1 (by omega)
      rw [one_row, Nat.one_mul] at u
      obtain ⟨x, hx⟩ : ∃ x : Int, e + (j : Int) = x := ⟨_, rfl⟩
      rw [hx] at g3 hp hE
      have wn : IntKind.i64.wrap (-x) = (E : Int) := by rw [hE, wrap_i64] <;> omega
      refine ⟨m', 2 ^ E, E, ?_, rfl, by omega, ?_, ?_⟩
      · simp [Run, h0, hz, g3, f, u, hp, wn]
      · exact Nat.lt_of_lt_of_le hm (show 2 ^ 64 ≤ 2 ^ 1128 from Nat.pow_le_pow_right (by decide) (by decide))
      · rw [g1, show e.toNat = 0 by omega, Nat.pow_zero, Nat.mul_one, Nat.mul_assoc, ← Nat.pow_add, show j + E = (-e).toNat by omega]
theorem quot_pow {A j : Nat} (hA0 : A ≠ 0) (h : nbits (2 ^ j) + 64 ≤ nbits A) : 9223372036854775808 < A / 2 ^ j := by
  have h1 := nbits_low hA0
  have h2 : j < nbits (2 ^ j) := by
    have := lt_nbits (2 ^ j)
    exact (Nat.pow_lt_pow_iff_right (by decide)).1 this
  have h3 : 2 ^ (j + 64) ≤ A := Nat.le_trans (Nat.pow_le_pow_right (by decide) (by omega)) h1
  rw [Nat.pow_add, Nat.mul_comm] at h3
  have := (Nat.le_div_iff_mul_le (Nat.two_pow_pos j)).2 h3
  have e : (2 : Nat) ^ 64 = 18446744073709551616 := by decide
  omega
theorem big_rr {w : Nat} (h : 4816244402031689728 < rg w) : 9223372036854775808 < rnd (qNum w * 1000000) (qDen w) := by
  obtain ⟨p1, p2, p3⟩ := rg_fields w
  have hge := rnd_ge (qNum w * 1000000) (qDen w)
  have key : 9223372036854775809 ≤ qNum w * 1000000 / qDen w := by
    refine (Nat.le_div_iff_mul_le (qDen_pos w)).2 ?_
    have m1 : mW w = 4503599627370496 + fM w := by unfold mW; rw [if_neg (by omega)]
    have m2 : qE w = (fE w : Int) - 1075 := by unfold qE; rw [if_neg (by omega)]
    unfold qNum qDen
    rw [m1, m2]
    by_cases h1 : fE w = 1069
    · rw [h1, show ((1069 : Nat) : Int) - 1075 = -6 by decide, show (-6 : Int).toNat = 0 by decide, show (-(-6) : Int).toNat = 6 by decide]
      omega
    · have d1 : 2 ^ (-((fE w : Int) - 1075)).toNat ≤ 2 ^ 5 := Nat.pow_le_pow_right (by decide) (by omega)
      have d2 := Nat.two_pow_pos ((fE w : Int) - 1075).toNat
      generalize 2 ^ (-((fE w : Int) - 1075)).toNat = P at *
      generalize 2 ^ ((fE w : Int) - 1075).toNat = Q at *
      have : 4503599627370496 * 1 ≤ (4503599627370496 + fM w) * Q := Nat.mul_le_mul (by omega) d2
      omega
  omega
theorem c4_Nearest (w : Nat) (hw : w < 18446744073709551616) : Cinf T n_thicketref04_Nearest [.v (.int .u64 (w : Nat))] = some (nearR w, [.dead]) := by
  have o := c_Of w hw
  have wd := c_Wide
  obtain ⟨p1, p2, p3⟩ := rg_fields w
  have hi : infR = 9218868437227405312 := rfl
  rw [run_thicketref04_Nearest]
  unfold ofR wideB at o
  unfold wideB at wd
  by_cases he : fE w = 2047
  · have z1 : (fE w = 2047) = True := eq_true he
    simp only [if_pos he] at o
    unfold nearR
    by_cases hm : fM w = 0
    · rw [decide_eq_true (p := fE w = 2047 ∧ fM w = 0) ⟨he, hm⟩, decide_eq_false (p := fE w = 2047 ∧ fM w ≠ 0) (fun h => h.2 hm)] at o
      rw [if_neg (by omega), if_pos (by omega)]
      simp [Run, wd, o]
    · rw [decide_eq_false (p := fE w = 2047 ∧ fM w = 0) (fun h => hm h.2), decide_eq_true (p := fE w = 2047 ∧ fM w ≠ 0) ⟨he, hm⟩] at o
      rw [if_pos (by omega)]
      simp [Run, wd, o]
  · rw [decide_eq_false (p := fE w = 2047 ∧ fM w = 0) (fun h => he h.1), decide_eq_false (p := fE w = 2047 ∧ fM w ≠ 0) (fun h => he h.1)] at o
    simp only [if_neg he] at o
    have hm := mW_lt w
    have hq := qE_range w
    obtain ⟨n, d, j, c1, hd, hj, hn, hnd⟩ := c2_Ratio (sgn w) false false (mW w) (qE w) (by omega) hq.1 hq.2
    have hd0 : 0 < d := by rw [hd]; exact Nat.two_pow_pos _
    have hnd' : n * qDen w = qNum w * d := hnd
    have hr : rnd (n * 1000000) d = rnd (qNum w * 1000000) (qDen w) := by
      rw [← rnd_scale (n * 1000000) d (qDen w) (qDen_pos w), ← rnd_scale (qNum w * 1000000) (qDen w) d hd0, Nat.mul_comm (qDen w) d,
        show qDen w * (n * 1000000) = d * (qNum w * 1000000) by rw [Nat.mul_comm, Nat.mul_right_comm, hnd', Nat.mul_right_comm, Nat.mul_comm d]]
    have fn : Fit (limbs n) := fit_bits hn (by decide)
    have f6 : Fit (limbs 1000000) := fit_bits (k := 64) (by decide) (by decide)
    have fA : Fit (limbs (n * 1000000)) := fit_bits (k := 1148) (by
      rw [show 1148 = 1128 + 20 from rfl, Nat.pow_add]
      exact Nat.mul_lt_mul_of_lt_of_le hn (by decide) (Nat.two_pow_pos _)) (by decide)
    have fB : ∀ k, k ≤ 64 → Fit (limbs (d * 2 ^ k)) := fun k hk => fit_bits (k := 1139) (by
      rw [hd, ← Nat.pow_add]
      exact Nat.pow_lt_pow_right (by decide) (by omega)) (by decide)
    have c2 := c2_From 1000000 (by decide)
    have c3 := c2_Product (limbs n) (limbs 1000000) fn f6
    rw [val_limbs, val_limbs] at c3
    have c4 := c4_RoundedF (n * 1000000) d fA fB hd0
    rw [hr] at c4
    have hge := rnd_ge (n * 1000000) d
    have hle := rnd_le (n * 1000000) d
    rw [hr] at hge hle
    simp at c2
    have hnear : nearR w = if 9223372036854775808 < rnd (qNum w * 1000000) (qDen w) ∨ (rnd (qNum w * 1000000) (qDen w) = 9223372036854775808 ∧ sgn w = false) then .tup [.v (.int .i64 0), .v (.int .i64 41)] else .tup [.v (.int .i64 (if sgn w = true then -(rnd (qNum w * 1000000) (qDen w) : Int) else rnd (qNum w * 1000000) (qDen w))), .v (.int .i64 0)] := by
      unfold nearR
      rw [if_neg (by omega)]
      by_cases hb : 4816244402031689728 < rg w
      · rw [if_pos hb, if_pos (.inl (big_rr hb))]
      · rw [if_neg hb]
    rw [hnear]
    obtain ⟨r, hrr⟩ : ∃ r, rnd (qNum w * 1000000) (qDen w) = r := ⟨_, rfl⟩
    rw [hrr] at c4 hge hle ⊢
    by_cases hbad : nbits d + 64 ≤ nbits (n * 1000000) ∨ 9223372036854775808 < n * 1000000 / d
    · have hx : 9223372036854775808 < n * 1000000 / d := by
        rcases hbad with h | h
        · rw [hd] at h ⊢
          refine quot_pow ?_ h
          intro h0
          rw [h0, nbits_zero] at h
          omega
        · exact h
      rw [if_pos hbad] at c4
      rw [if_pos (.inl (by omega))]
      obtain ⟨y, c5⟩ := c4_signed (sgn w) 0 (by decide)
      rw [if_neg (by omega)] at c5
      simp at c5
      simp [Run, wd, o, c1, c2, c3, c4, c5]
    · rw [if_neg hbad] at c4
      obtain ⟨y, c5⟩ := c4_signed (sgn w) r (by omega)
      by_cases hc : 9223372036854775808 < r ∨ (r = 9223372036854775808 ∧ sgn w = false)
      · rw [if_pos hc] at c5 ⊢
        simp [Run, wd, o, c1, c2, c3, c4, c5]
      · rw [if_neg hc] at c5 ⊢
        simp [Run, wd, o, c1, c2, c3, c4, c5]
end Go.AM.F

/- The document's Ratio of a fixed number; what the law reads of limbs. No conditions. -/
namespace Go.AM.F
open Go Go.AM
set_option maxRecDepth 10000
set_option linter.unusedSimpArgs false
attribute [local simp] j0_thicketref04_Ratio w0_thicketref04_Ratio j1_thicketref04_Ratio j2_thicketref04_Ratio b_thicketref04_Ratio a_thicketref04_Ratio
attribute [local simp] j0_thicketlaw04_number j1_thicketlaw04_number w0_thicketlaw04_number j2_thicketlaw04_number b_thicketlaw04_number a_thicketlaw04_number
attribute [local simp] b_thicketlaw04_right a_thicketlaw04_right
def rgE (a b x y : Nat) : Env := [(4, .v (.int .u64 (a : Nat))), (5, .v (.int .u64 (b : Nat))), (6, .v (.int .u64 (x : Nat))), (7, .v (.int .u64 (y : Nat)))]
theorem rg_loop (a b : Nat) : ∀ (k x y : Nat), y < k → Exec T l0_thicketref04_Ratio (rgE a b x y) = some (.exit 0, rgE a b (Nat.gcd y x) 0) := by
  intro k
  induction k with
  | zero => intro x y h; omega
  | succ k ih =>
    intro x y h
    have hk : (rgE a b x y).keep [4, 5, 6, 7] = rgE a b x y := rfl
    rw [ex0_thicketref04_Ratio, hk]
    by_cases h0 : y = 0
    · subst h0
      have st : Exec T w0_thicketref04_Ratio (rgE a b x 0) = some (.exit 0, rgE a b x 0) := by
        simp only [rgE]
        simp
      rw [st, Nat.gcd_zero_left]
      rfl
    · have q4 : binInt .rem .u64 (x : Nat) (y : Nat) = some (.int .u64 (x % y : Nat)) := by rw [binInt_rem, if_neg (by omega)]; rfl
      have hz : ¬ (y : Int) = 0 := by omega
      have st : Exec T w0_thicketref04_Ratio (rgE a b x y) = some (.normal, rgE a b y (x % y)) := by
        simp only [rgE]
        simp [-binInt_rem, h0, hz, q4]
      rw [st]
      simp only [andThen_normal]
      rw [ih y (x % y) (by have := Nat.mod_lt x (Nat.pos_of_ne_zero h0); omega), ← Nat.gcd_rec]
def ratR (v : Int) : PV := if v = 0 then .tup [.v (.int .u64 0), .v (.int .u64 1)] else .tup [.v (.int .u64 (v.natAbs / Nat.gcd v.natAbs 1000000 : Nat)), .v (.int .u64 (1000000 / Nat.gcd v.natAbs 1000000 : Nat))]
theorem c4_Ratio (v : Int) (h1 : -9223372036854775808 ≤ v) (h2 : v < 9223372036854775808) : Cinf T n_thicketref04_Ratio [.v (.int .i64 v)] = some (ratR v, [.dead]) := by
  have a1 := c4_amount v h1 h2
  rw [run_thicketref04_Ratio]
  unfold ratR
  by_cases h0 : v = 0
  · subst h0
    simp at a1
    simp [Run, a1]
  · have hn : v.natAbs ≠ 0 := by omega
    have lp := rg_loop v.natAbs 1000000 1000001 v.natAbs 1000000 (by decide)
    rw [Nat.gcd_comm] at lp
    have hg0 : 0 < Nat.gcd v.natAbs 1000000 := Nat.gcd_pos_of_pos_left _ (Nat.pos_of_ne_zero hn)
    rw [if_neg h0]
    obtain ⟨n, hnn⟩ : ∃ n, v.natAbs = n := ⟨_, rfl⟩
    have hn64 : n < 18446744073709551616 := by omega
    rw [hnn] at a1 lp hg0 hn ⊢
    obtain ⟨g, hg⟩ : ∃ g, Nat.gcd n 1000000 = g := ⟨_, rfl⟩
    rw [hg] at lp hg0 ⊢
    have q1 : binInt .quo .u64 (n : Nat) (g : Nat) = some (.int .u64 (n / g : Nat)) := by
      have h6 : IntKind.u64.wrap ((n / g : Nat) : Int) = (n / g : Nat) := u64_nat (Nat.lt_of_le_of_lt (Nat.div_le_self _ _) hn64)
      rw [binInt_quo, if_neg (by omega), show (n : Int).tdiv g = ((n / g : Nat) : Int) from rfl, h6]
    have q2 : binInt .quo .u64 1000000 (g : Nat) = some (.int .u64 (1000000 / g : Nat)) := by
      have h6 : IntKind.u64.wrap ((1000000 / g : Nat) : Int) = (1000000 / g : Nat) := u64_nat (Nat.lt_of_le_of_lt (Nat.div_le_self _ _) (by decide))
      rw [binInt_quo, if_neg (by omega), show (1000000 : Int).tdiv g = ((1000000 / g : Nat) : Int) from rfl, h6]
    obtain ⟨x, hx⟩ : ∃ x, n / g = x := ⟨_, rfl⟩
    obtain ⟨y, hy⟩ : ∃ y, 1000000 / g = y := ⟨_, rfl⟩
    rw [hx] at q1 ⊢
    rw [hy] at q2 ⊢
    unfold rgE at lp
    have hz : ¬ (n : Int) = 0 := by omega
    simp at lp
    simp [-binInt_quo, Run, a1, hn, hz, lp, q1, q2]
def nmE (l : List PV) (n : Nat) (i : Int) : Env := [(0, .ro 1 l), (3, .v (.int .u64 (n : Nat))), (4, .v (.int .i64 i))]
theorem nm_stop (l : List PV) (n : Nat) : Exec T l0_thicketlaw04_number (nmE l n (-1)) = some (.exit 0, nmE l n (-1)) := by
  have hk : (nmE l n (-1)).keep [0, 3, 4] = nmE l n (-1) := rfl
  have st : Exec T w0_thicketlaw04_number (nmE l n (-1)) = some (.exit 0, nmE l n (-1)) := by
    simp only [nmE]
    simp
  rw [ex0_thicketlaw04_number, hk, st]
  rfl
theorem nm_or {n x : Nat} (hn : n < 4294967296) (hx : x < 4294967296) : binInt .shl .u64 (n : Nat) 32 = some (.int .u64 (n * 4294967296 : Nat)) ∧ binInt .or .u64 (n * 4294967296 : Nat) (x : Nat) = some (.int .u64 (x + n * 4294967296 : Nat)) :=
  ⟨shl32_64 n hn, or64 (by omega) (by omega) (by rw [Nat.or_comm]; exact or_low (r := 32) hx)⟩
theorem c_lawnumber (n : Nat) (hn : n < 18446744073709551616) : Cinf T n_thicketlaw04_number [.ro 1 (ul (limbs n))] = some (.v (.int .u64 (n : Nat)), [.dead]) := by
  have w0 : IntKind.i64.wrap (-1) = -1 := wrap_i64 (by decide) (by decide)
  rw [run_thicketlaw04_number]
  rcases limbs_two (v := n) (limbs_len_le (k := 2) hn) with ⟨e, rfl⟩ | ⟨x, e, rfl, hx⟩ | ⟨x, y, e, rfl, hx, hy⟩
  · have s := nm_stop [] 0
    unfold nmE at s
    simp only [Int.natCast_zero] at s
    rw [e]
    simp [Run, ul, w0, s]
  · have s := nm_stop (ul [n]) n
    have hk : (nmE (ul [n]) 0 0).keep [0, 3, 4] = nmE (ul [n]) 0 0 := rfl
    obtain ⟨o1, o2⟩ := nm_or (n := 0) (x := n) (by decide) hx
    have u : IntKind.u64.wrap (n : Int) = n := u64_nat hn
    simp [-binInt_shl, -binInt_or] at o1 o2
    have p : Exec T w0_thicketlaw04_number (nmE (ul [n]) 0 0) = some (.normal, nmE (ul [n]) n (-1)) := by
      simp only [nmE, ul]
      simp [-binInt_shl, -binInt_or, o1, o2, u, w0]
    have lp : Exec T l0_thicketlaw04_number (nmE (ul [n]) 0 0) = some (.exit 0, nmE (ul [n]) n (-1)) := by
      rw [ex0_thicketlaw04_number, hk, p]
      simp only [andThen_normal]
      exact s
    simp only [nmE, ul] at lp
    rw [e]
    simp [-binInt_shl, -binInt_or] at lp
    simp [-binInt_shl, -binInt_or, Run, ul, lp]
  · obtain ⟨z, hz⟩ : ∃ z, x + y * 4294967296 = z := ⟨_, rfl⟩
    rw [hz] at e hn ⊢
    have s := nm_stop (ul [x, y]) z
    have hk1 : (nmE (ul [x, y]) 0 1).keep [0, 3, 4] = nmE (ul [x, y]) 0 1 := rfl
    have hk2 : (nmE (ul [x, y]) y 0).keep [0, 3, 4] = nmE (ul [x, y]) y 0 := rfl
    obtain ⟨o1, o2⟩ := nm_or (n := 0) (x := y) (by decide) hy
    obtain ⟨o3, o4⟩ := nm_or (n := y) (x := x) hy hx
    rw [hz] at o4
    obtain ⟨yy, hyy⟩ : ∃ yy, y * 4294967296 = yy := ⟨_, rfl⟩
    rw [hyy] at o3 o4
    have u1 : IntKind.u64.wrap (x : Int) = x := u64_nat (by omega)
    have u2 : IntKind.u64.wrap (y : Int) = y := u64_nat (by omega)
    simp [-binInt_shl, -binInt_or] at o1 o2
    have p1 : Exec T w0_thicketlaw04_number (nmE (ul [x, y]) 0 1) = some (.normal, nmE (ul [x, y]) y 0) := by
      simp only [nmE, ul]
      simp [-binInt_shl, -binInt_or, o1, o2, u2]
    have p2 : Exec T w0_thicketlaw04_number (nmE (ul [x, y]) y 0) = some (.normal, nmE (ul [x, y]) z (-1)) := by
      simp only [nmE, ul]
      simp [-binInt_shl, -binInt_or, o3, o4, u1, w0]
    have lp : Exec T l0_thicketlaw04_number (nmE (ul [x, y]) 0 1) = some (.exit 0, nmE (ul [x, y]) z (-1)) := by
      rw [ex0_thicketlaw04_number, hk1, p1]
      simp only [andThen_normal]
      rw [ex0_thicketlaw04_number, hk2, p2]
      simp only [andThen_normal]
      exact s
    simp only [nmE, ul] at lp
    rw [e]
    simp [-binInt_shl, -binInt_or] at lp
    simp [-binInt_shl, -binInt_or, Run, ul, lp]
theorem c_lawright (n : Nat) (hn : n < 18446744073709551616) : Cinf T n_thicketlaw04_right [.ro 1 (ul (limbs n))] = some (.v (.bool true), [.dead]) := by
  rw [run_thicketlaw04_right]
  rcases limbs_two (v := n) (limbs_len_le (k := 2) hn) with ⟨e, rfl⟩ | ⟨x, e, rfl, hx⟩ | ⟨x, y, e, hv, hx, hy⟩
  · rw [e]
    simp [Run, ul]
  · have h0 : ¬ n = 0 := by
      intro h
      subst h
      rw [limbs_zero] at e
      cases e
    have hz : ¬ (n : Int) = 0 := by omega
    rw [e]
    simp [Run, ul, h0, hz]
  · have h0 : ¬ y = 0 := by
      intro h
      have := limbs_len_le (n := n) (k := 1) (by omega)
      rw [e] at this
      simp at this
    have hz : ¬ (y : Int) = 0 := by omega
    rw [e]
    simp [Run, ul, h0, hz]
end Go.AM.F

/- The document's nearest binary64, its bits; Float. No conditions. -/
namespace Go.AM.F
open Go Go.AM
set_option maxRecDepth 10000
set_option linter.unusedSimpArgs false
set_option exponentiation.threshold 110000
attribute [local simp] j0_thicketref02_nearest j1_thicketref02_nearest j2_thicketref02_nearest j3_thicketref02_nearest j4_thicketref02_nearest j5_thicketref02_nearest w0_thicketref02_nearest j6_thicketref02_nearest b_thicketref02_nearest a_thicketref02_nearest
attribute [local simp] j0_thicketref02_Bits j1_thicketref02_Bits j2_thicketref02_Bits b_thicketref02_Bits a_thicketref02_Bits
attribute [local simp] j0_thicketref02_Nearest j1_thicketref02_Nearest b_thicketref02_Nearest a_thicketref02_Nearest
attribute [local simp] b_thicketref04_Float a_thicketref04_Float
theorem c2_Bits (neg : Bool) (m : Nat) (e : Int) (hm : m < 9007199254740992) (h1 : -1074 ≤ e) (h2 : e ≤ 971) :
    Cinf T n_thicketref02_Bits [.agg [.v (.bool neg), .v (.bool false), .v (.bool false), .v (.int .u64 (m : Nat)), .v (.int .i64 e)], .agg wideB] =
      some (.v (.int .u64 (wrd neg (if m < 4503599627370496 then m else (e + 1075).toNat * 4503599627370496 + (m - 4503599627370496)) : Nat)), [.dead, .dead]) := by
  have l2 : binInt .shl .u64 1 52 = some (.int .u64 4503599627370496) := by have := shl_64 1 52 (by decide) (by decide); simpa [-binInt_shl] using this
  have l3 : binInt .shl .u64 1 63 = some (.int .u64 9223372036854775808) := by have := shl_64 1 63 (by decide) (by decide); simpa [-binInt_shl] using this
  have l4 : binInt .shl .u64 2047 52 = some (.int .u64 9218868437227405312) := by have := shl_64 2047 52 (by decide) (by decide); simpa [-binInt_shl] using this
  have u1 : IntKind.u64.wrap 52 = 52 := wrap_u64 (by decide) (by decide)
  have u2 : IntKind.u64.wrap 63 = 63 := wrap_u64 (by decide) (by decide)
  have u4 : IntKind.u64.wrap 2047 = 2047 := wrap_u64 (by decide) (by decide)
  have u5 : IntKind.u64.wrap 4503599627370495 = 4503599627370495 := wrap_u64 (by decide) (by decide)
  rw [run_thicketref02_Bits]
  unfold wrd
  by_cases hb : m < 4503599627370496
  · rw [if_pos hb]
    have hb2 : ¬ 4503599627370496 ≤ m := by omega
    have hb3 : ¬ (4503599627370496 : Int) ≤ (m : Int) := by omega
    obtain ⟨x, hx⟩ : ∃ x, 9223372036854775808 + m = x := ⟨_, rfl⟩
    have hor : binInt .or .u64 (m : Nat) 9223372036854775808 = some (.int .u64 (x : Nat)) :=
      or64 (x := m) (y := 9223372036854775808) (by omega) (by decide) ((or_low (c := m) (x := 1) (r := 63) (by omega)).trans (by omega))
    cases neg with
    | true =>
      rw [if_pos rfl, hx]
      simp [-binInt_or, -binInt_shl, Run, wideB, l2, l3, l4, u1, u2, u4, u5, hb, hb2, hb3, hor]
    | false => simp [-binInt_or, -binInt_shl, Run, wideB, l2, l3, l4, u1, u2, u4, u5, hb, hb2, hb3]
  · rw [if_neg hb]
    have hb2 : 4503599627370496 ≤ m := by omega
    have hb3 : (4503599627370496 : Int) ≤ (m : Int) := by omega
    obtain ⟨k, hk⟩ : ∃ k : Nat, e + 1075 = k := ⟨(e + 1075).toNat, by omega⟩
    rw [hk, Int.toNat_natCast]
    obtain ⟨mm, hmm⟩ : ∃ mm, m - 4503599627370496 = mm := ⟨_, rfl⟩
    obtain ⟨kk, hkk⟩ : ∃ kk, k * 4503599627370496 = kk := ⟨_, rfl⟩
    obtain ⟨r, hr⟩ : ∃ r, kk + mm = r := ⟨_, rfl⟩
    have w0 : IntKind.i64.wrap (e + 1074) = e + 1074 := by rw [wrap_i64] <;> omega
    have w1 : IntKind.i64.wrap (e + 1074 + 1) = (k : Int) := by rw [wrap_i64] <;> omega
    have w2 : IntKind.u64.wrap (k : Int) = (k : Int) := u64_nat (by omega)
    have sh := shl52 hkk (by omega)
    have ha : binInt .and .u64 (m : Nat) 4503599627370495 = some (.int .u64 (mm : Nat)) := and64 (x := m) (y := 4503599627370495) (by omega) (by decide) ((Nat.and_two_pow_sub_one_eq_mod m 52).trans (by omega))
    have ho : binInt .or .u64 (kk : Nat) (mm : Nat) = some (.int .u64 (r : Nat)) := by
      refine or64 (x := kk) (y := mm) (by omega) (by omega) ?_
      rw [Nat.or_comm, ← hkk, ← hr, ← hkk]
      exact (or_low (c := mm) (x := k) (r := 52) (by omega)).trans (by omega)
    rw [hmm, hkk, hr]
    obtain ⟨x, hx⟩ : ∃ x, 9223372036854775808 + r = x := ⟨_, rfl⟩
    have hor : binInt .or .u64 (r : Nat) 9223372036854775808 = some (.int .u64 (x : Nat)) :=
      or64 (x := r) (y := 9223372036854775808) (by omega) (by decide) ((or_low (c := r) (x := 1) (r := 63) (by omega)).trans (by omega))
    cases neg with
    | true =>
      rw [if_pos rfl, hx]
      simp [-binInt_or, -binInt_and, -binInt_shl, Run, wideB, l2, l3, l4, u1, u2, u4, u5, hb, hb2, hb3, w0, w1, w2, sh, ha, ho, hor]
    | false => simp [-binInt_or, -binInt_and, -binInt_shl, Run, wideB, l2, l3, l4, u1, u2, u4, u5, hb, hb2, hb3, w0, w1, w2, sh, ha, ho]
def zeroB : List PV := [.v (.bool false), .v (.bool false), .v (.bool false), .v (.int .u64 0), .v (.int .i64 0)]
def numB (n d : Nat) (e : Int) : List PV := [.v (.bool false), .v (.bool false), .v (.bool false), .v (.int .u64 (endM n d e : Nat)), .v (.int .i64 (endE n d e))]
def ndE (n d : Nat) (e : Int) : Env := [(0, .ro 1 (ul (limbs n))), (1, .ro 1 (ul (limbs d))), (5, .box wideB), (6, .box zeroB), (7, .v (.int .i64 e))]
theorem nd_fin (n d : Nat) (e : Int) (h1 : -1074 ≤ e) (h2 : e ≤ 1000) (h3 : endE n d e ≤ 971) :
    Exec T j2_thicketref02_nearest [(5, .box wideB), (6, .box zeroB), (7, .v (.int .i64 e)), (10, .v (.int .u64 (theM n d e : Nat)))] = some (.ret, [(6, .box (numB n d e))]) := by
  have hw1 : IntKind.i64.wrap (e + 1) = e + 1 := by rw [wrap_i64] <;> omega
  have hsh : binInt .shl .u64 1 53 = some (.int .u64 9007199254740992) := by have := shl_64 1 53 (by decide) (by decide); simpa [-binInt_shl] using this
  have hw53 : IntKind.u64.wrap 53 = 53 := wrap_u64 (by decide) (by decide)
  unfold endE at h3
  unfold numB endM endE
  generalize theM n d e = m at *
  by_cases h : m = 9007199254740992
  · subst h
    rw [if_pos rfl] at h3
    have h4 : ¬ 971 < e + 1 := by omega
    have hs : binInt .shr .u64 9007199254740992 1 = some (.int .u64 4503599627370496) := by have := shr_64 9007199254740992 1 (by decide); simpa [-binInt_shr] using this
    simp [-binInt_shl, -binInt_shr, wideB, zeroB, hsh, hs, hw1, hw53, h4]
  · rw [if_neg h] at h3
    have h4 : ¬ 971 < e := by omega
    simp [-binInt_shl, -binInt_shr, wideB, zeroB, hsh, h, hw53, h4]
theorem nb_diff {A B : Nat} (hB : 0 < B) (hA : A ≠ 0) (h : A / B < 2 ^ 55) : nbits A ≤ nbits B + 55 := by
  rcases Nat.lt_or_ge (nbits B + 55) (nbits A) with hl | hl
  · have h1 := nbits_low hA
    have h2 := lt_nbits B
    have h3 : 2 ^ (nbits B + 55) ≤ A := Nat.le_trans (Nat.pow_le_pow_right (by decide) (by omega)) h1
    rw [Nat.pow_add] at h3
    have h4 : 2 ^ 55 * B ≤ A := Nat.le_trans (by rw [Nat.mul_comm]; exact Nat.mul_le_mul_right _ (Nat.le_of_lt h2)) h3
    have := (Nat.le_div_iff_mul_le hB).2 h4
    omega
  · exact hl
end Go.AM.F

/- The document's nearest binary64: the walk; Float. No conditions. -/
namespace Go.AM.F
open Go Go.AM
set_option maxRecDepth 10000
set_option linter.unusedSimpArgs false
set_option exponentiation.threshold 110000
attribute [local simp] j0_thicketref02_nearest j1_thicketref02_nearest j2_thicketref02_nearest j3_thicketref02_nearest j4_thicketref02_nearest j5_thicketref02_nearest w0_thicketref02_nearest j6_thicketref02_nearest b_thicketref02_nearest a_thicketref02_nearest
attribute [local simp] j0_thicketref02_Nearest j1_thicketref02_Nearest b_thicketref02_Nearest a_thicketref02_Nearest
attribute [local simp] b_thicketref04_Float a_thicketref04_Float
set_option maxHeartbeats 4000000 in
theorem nd_pass (n d : Nat) (hn : Big n) (hd : Big d) (hn0 : n ≠ 0) (hd0 : d ≠ 0) (e : Int) (h1 : -1074 ≤ e) (h2 : e ≤ 1000) (h55 : qQ n d e < 2 ^ 55) (hend : endE n d e ≤ 971) :
    Exec T w0_thicketref02_nearest (ndE n d e) = if 9007199254740992 ≤ qQ n d e then some (.normal, ndE n d (e + 1)) else some (.ret, [(6, .box (numB n d e))]) := by
  have fn : Fit (limbs n) := fit_bits hn.lt (by decide)
  have fd : Fit (limbs d) := fit_bits hd.lt (by decide)
  have hA : qA n e < 2 ^ 101074 := by
    unfold qA
    rw [show 101074 = 100000 + 1074 from rfl, Nat.pow_add]
    exact Nat.mul_lt_mul_of_lt_of_le hn.lt (Nat.pow_le_pow_right (by decide) (by omega)) (Nat.two_pow_pos _)
  have hB : qB d e < 2 ^ 101000 := by
    unfold qB
    rw [show 101000 = 100000 + 1000 from rfl, Nat.pow_add]
    exact Nat.mul_lt_mul_of_lt_of_le hd.lt (Nat.pow_le_pow_right (by decide) (by omega)) (Nat.two_pow_pos _)
  have fA : Fit (limbs (qA n e)) := fit_bits hA (by decide)
  have fB : Fit (limbs (qB d e)) := fit_bits hB (by decide)
  have hB0 : 0 < qB d e := qB_pos (Nat.pos_of_ne_zero hd0) e
  have hA0 : qA n e ≠ 0 := by
    have : 0 < qA n e := Nat.mul_pos (Nat.pos_of_ne_zero hn0) (Nat.two_pow_pos _)
    omega
  have fBk : ∀ k, k ≤ 64 → Fit (limbs (qB d e * 2 ^ k)) := fun k hk => fit_bits (k := 101064) (by
    rw [show 101064 = 101000 + 64 from rfl, Nat.pow_add]
    exact Nat.mul_lt_mul_of_lt_of_le hB (Nat.pow_le_pow_right (by decide) hk) (Nat.two_pow_pos _)) (by decide)
  have hdiff := nb_diff hB0 hA0 h55
  have bA : nbits (qA n e) ≤ 101074 := nbits_le hA
  have bB : nbits (qB d e) ≤ 101000 := nbits_le hB
  have v1 := c2_divide (qA n e) (qB d e) fA fBk hB0 (by omega)
  have e55 : (2 : Nat) ^ 55 = 36028797018963968 := by decide
  have hq : qQ n d e = qA n e / qB d e := rfl
  rw [← hq, Nat.mod_eq_of_lt (a := qQ n d e) (by omega)] at v1
  have s1 := c2_size (qA n e) fA
  have s2 := c2_size (qB d e) fB
  have fr : Fit (limbs (qA n e % qB d e)) := fit_mono fA (Nat.mod_le _ _)
  have v4 := c2_up (qA n e % qB d e) 1 fr (by decide)
  rw [show qA n e % qB d e * 2 ^ 1 = 2 * (qA n e % qB d e) by omega] at v4
  have f2r : Fit (limbs (2 * (qA n e % qB d e))) := fit_bits (k := 101001) (by
    have := Nat.mod_lt (qA n e) hB0
    rw [show 101001 = 101000 + 1 from rfl, Nat.pow_succ]
    omega) (by decide)
  have v5 := c2_cmp (2 * (qA n e % qB d e)) (qB d e) f2r fB
  simp only [Int.natCast_one] at v4
  have hw1 : IntKind.i64.wrap (e + 1) = e + 1 := by rw [wrap_i64] <;> omega
  have ws : IntKind.i64.wrap ((nbits (qA n e) : Int) - nbits (qB d e)) = (nbits (qA n e) : Int) - nbits (qB d e) := by rw [wrap_i64] <;> omega
  have hno : ¬ (55 : Int) < (nbits (qA n e) : Int) - nbits (qB d e) := by omega
  have hsh : binInt .shl .u64 1 53 = some (.int .u64 9007199254740992) := by have := shl_64 1 53 (by decide) (by decide); simpa [-binInt_shl] using this
  have hw53 : IntKind.u64.wrap 53 = 53 := wrap_u64 (by decide) (by decide)
  have hrem : binInt .rem .u64 (qQ n d e : Nat) 2 = some (.int .u64 (qQ n d e % 2 : Nat)) := by rw [binInt_rem, if_neg (by decide)]; rfl
  have hwm : ¬ 9007199254740992 ≤ qQ n d e → IntKind.u64.wrap ((qQ n d e : Int) + 1) = (qQ n d e : Int) + 1 := fun h => by rw [wrap_u64] <;> omega
  have hfin := nd_fin n d e h1 h2 hend
  have hth : theM n d e = qQ n d e + (if qB d e < 2 * (qA n e % qB d e) ∨ (qB d e = 2 * (qA n e % qB d e) ∧ qQ n d e % 2 = 1) then 1 else 0) := rfl
  have hnum : numB n d e = numB n d e := rfl
  obtain ⟨NB, hNB⟩ : ∃ x, numB n d e = x := ⟨_, rfl⟩
  rw [hNB] at hfin ⊢
  rw [hth] at hfin
  -- the numbers as names
  obtain ⟨q, hqq⟩ : ∃ q, qQ n d e = q := ⟨_, rfl⟩
  rw [hqq] at v1 hrem hwm hfin ⊢
  obtain ⟨o, ho⟩ : ∃ o, q % 2 = o := ⟨_, rfl⟩
  rw [ho] at hrem hfin
  unfold cmpN at v5
  have hneg : e < 0 ∨ ¬ e < 0 := by omega
  rcases hneg with hneg | hneg
  · have hBd : qB d e = d := by unfold qB; rw [show e.toNat = 0 by omega, Nat.pow_zero, Nat.mul_one]
    obtain ⟨k, hk⟩ : ∃ k : Nat, -e = k := ⟨(-e).toNat, by omega⟩
    have hAk : qA n e = n * 2 ^ k := by unfold qA; rw [hk, Int.toNat_natCast]
    have u1 := c2_up n k fn (by omega)
    rw [← hAk] at u1
    have wn : IntKind.i64.wrap (-e) = (k : Int) := by rw [hk, wrap_i64] <;> omega
    rw [hBd] at v1 v4 v5 s2 ws hno hfin
    obtain ⟨A, hAA⟩ : ∃ A, qA n e = A := ⟨_, rfl⟩
    rw [hAA] at v1 v4 v5 s1 ws hno hfin u1
    obtain ⟨r, hr⟩ : ∃ r, 2 * (A % d) = r := ⟨_, rfl⟩
    rw [hr] at v4 v5 hfin
    rcases Classical.propComplete (ul (limbs (A % d)) = []) with hemp | hemp
    all_goals
      by_cases hbig : 9007199254740992 ≤ q
      · rw [if_pos hbig]
        have hbig2 : (9007199254740992 : Int) ≤ (q : Int) := by omega
        simp [-binInt_shl, -binInt_rem, ndE, wideB, zeroB, hneg, wn, u1, s1, s2, ws, hno, v1, hemp, hsh, hw53, hbig, hbig2, hw1]
      · rw [if_neg hbig]
        replace hwm := hwm hbig
        have hbig2 : ¬ (9007199254740992 : Int) ≤ (q : Int) := by omega
        rcases Nat.lt_trichotomy r d with hc | hc | hc
        · rw [if_pos hc] at v5
          rw [if_neg (by omega), Nat.add_zero] at hfin
          simp [-binInt_shl, -binInt_rem, -j2_thicketref02_nearest, ndE, wideB, zeroB, hneg, wn, u1, s1, s2, ws, hno, v1, hemp, hsh, hw53, hbig, hbig2, v4, v5] at hfin ⊢
          rw [hfin]
          rfl
        · rw [if_neg (by omega), if_pos hc] at v5
          by_cases ho1 : o = 1
          · subst ho1
            rw [if_pos (.inr ⟨hc.symm, rfl⟩)] at hfin
            simp [-binInt_shl, -binInt_rem, -j2_thicketref02_nearest, ndE, wideB, zeroB, hneg, wn, u1, s1, s2, ws, hno, v1, hemp, hsh, hw53, hbig, hbig2, v4, v5, hrem, hwm] at hfin ⊢
            rw [hfin]
            rfl
          · have ho2 : ¬ (o : Int) = 1 := by omega
            rw [if_neg (by omega), Nat.add_zero] at hfin
            simp [-binInt_shl, -binInt_rem, -j2_thicketref02_nearest, ndE, wideB, zeroB, hneg, wn, u1, s1, s2, ws, hno, v1, hemp, hsh, hw53, hbig, hbig2, v4, v5, hrem, ho1, ho2] at hfin ⊢
            rw [hfin]
            rfl
        · rw [if_neg (by omega), if_neg (by omega)] at v5
          rw [if_pos (.inl hc)] at hfin
          simp [-binInt_shl, -binInt_rem, -j2_thicketref02_nearest, ndE, wideB, zeroB, hneg, wn, u1, s1, s2, ws, hno, v1, hemp, hsh, hw53, hbig, hbig2, v4, v5, hwm] at hfin ⊢
          rw [hfin]
          rfl
  · have hAn : qA n e = n := by unfold qA; rw [show (-e).toNat = 0 by omega, Nat.pow_zero, Nat.mul_one]
    obtain ⟨k, hk⟩ : ∃ k : Nat, e = k := ⟨e.toNat, by omega⟩
    have hBk : qB d e = d * 2 ^ k := by unfold qB; rw [hk, Int.toNat_natCast]
    have u1 := c2_up d k fd (by omega)
    rw [← hBk, ← hk] at u1
    rw [hAn] at v1 v4 v5 s1 ws hno hfin
    obtain ⟨B, hBB⟩ : ∃ B, qB d e = B := ⟨_, rfl⟩
    rw [hBB] at v1 v4 v5 s2 ws hno hfin u1
    obtain ⟨r, hr⟩ : ∃ r, 2 * (n % B) = r := ⟨_, rfl⟩
    rw [hr] at v4 v5 hfin
    rcases Classical.propComplete (ul (limbs (n % B)) = []) with hemp | hemp
    all_goals
      by_cases hbig : 9007199254740992 ≤ q
      · rw [if_pos hbig]
        have hbig2 : (9007199254740992 : Int) ≤ (q : Int) := by omega
        simp [-binInt_shl, -binInt_rem, ndE, wideB, zeroB, hneg, u1, s1, s2, ws, hno, v1, hemp, hsh, hw53, hbig, hbig2, hw1]
      · rw [if_neg hbig]
        replace hwm := hwm hbig
        have hbig2 : ¬ (9007199254740992 : Int) ≤ (q : Int) := by omega
        rcases Nat.lt_trichotomy r B with hc | hc | hc
        · rw [if_pos hc] at v5
          rw [if_neg (by omega), Nat.add_zero] at hfin
          simp [-binInt_shl, -binInt_rem, -j2_thicketref02_nearest, ndE, wideB, zeroB, hneg, u1, s1, s2, ws, hno, v1, hemp, hsh, hw53, hbig, hbig2, v4, v5] at hfin ⊢
          rw [hfin]
          rfl
        · rw [if_neg (by omega), if_pos hc] at v5
          by_cases ho1 : o = 1
          · subst ho1
            rw [if_pos (.inr ⟨hc.symm, rfl⟩)] at hfin
            simp [-binInt_shl, -binInt_rem, -j2_thicketref02_nearest, ndE, wideB, zeroB, hneg, u1, s1, s2, ws, hno, v1, hemp, hsh, hw53, hbig, hbig2, v4, v5, hrem, hwm] at hfin ⊢
            rw [hfin]
            rfl
          · have ho2 : ¬ (o : Int) = 1 := by omega
            rw [if_neg (by omega), Nat.add_zero] at hfin
            simp [-binInt_shl, -binInt_rem, -j2_thicketref02_nearest, ndE, wideB, zeroB, hneg, u1, s1, s2, ws, hno, v1, hemp, hsh, hw53, hbig, hbig2, v4, v5, hrem, ho1, ho2] at hfin ⊢
            rw [hfin]
            rfl
        · rw [if_neg (by omega), if_neg (by omega)] at v5
          rw [if_pos (.inl hc)] at hfin
          simp [-binInt_shl, -binInt_rem, -j2_thicketref02_nearest, ndE, wideB, zeroB, hneg, u1, s1, s2, ws, hno, v1, hemp, hsh, hw53, hbig, hbig2, v4, v5, hwm] at hfin ⊢
          rw [hfin]
          rfl
end Go.AM.F

/- The document's Float; FixedFloats. No conditions. -/
namespace Go.AM.F
open Go Go.AM
set_option maxRecDepth 10000
set_option linter.unusedSimpArgs false
set_option exponentiation.threshold 110000
attribute [local simp] j6_thicketref02_nearest b_thicketref02_nearest a_thicketref02_nearest
attribute [local simp] j0_thicketref02_Nearest j1_thicketref02_Nearest b_thicketref02_Nearest a_thicketref02_Nearest
attribute [local simp] b_thicketref04_Float a_thicketref04_Float
attribute [local simp] j0_thicketlaw04_FixedFloats b_thicketlaw04_FixedFloats a_thicketlaw04_FixedFloats
theorem theE_small' {n d : Nat} (hn0 : n ≠ 0) (hd0 : d ≠ 0) (hn : n < 18446744073709551616) : theE n d ≤ 20 := by
  have h := theE_is hn0 (Nat.pos_of_ne_zero hd0)
  have h1 := theE_range (Nat.pos_of_ne_zero hd0) h
  have b1 : nbits n ≤ 64 := nbits_le (by omega)
  omega
theorem nd_loop (n d : Nat) (hn : n < 18446744073709551616) (hd : Big d) (hn0 : n ≠ 0) (hd0 : d ≠ 0) : ∀ (k : Nat) (e : Int), k ≤ 2 → -1074 ≤ e → e + k ≤ 40 → qQ n d e < 9007199254740992 * 2 ^ k → Exec T l0_thicketref02_nearest (ndE n d e) = some (.ret, [(6, .box (numB n d (upE n d k e)))]) := by
  have bn : Big n := Big.of (k := 64) hn (by decide)
  intro k
  induction k with
  | zero =>
    intro e _ h1 h2 hq
    have hk : (ndE n d e).keep [0, 1, 5, 6, 7] = ndE n d e := rfl
    have hend : endE n d e ≤ 971 := by unfold endE; split <;> omega
    have p := nd_pass n d bn hd hn0 hd0 e h1 (by omega) (by have e55 : (2 : Nat) ^ 55 = 36028797018963968 := by decide
                                                            omega) hend
    rw [if_neg (by omega)] at p
    rw [ex0_thicketref02_nearest, hk, p]
    rfl
  | succ k ih =>
    intro e hk2 h1 h2 hq
    have hk : (ndE n d e).keep [0, 1, 5, 6, 7] = ndE n d e := rfl
    have hend : endE n d e ≤ 971 := by unfold endE; split <;> omega
    have hq55 : qQ n d e < 2 ^ 55 := by
      have : 2 ^ (k + 1) ≤ 2 ^ 2 := Nat.pow_le_pow_right (by decide) hk2
      have e55 : (2 : Nat) ^ 55 = 36028797018963968 := by decide
      generalize 2 ^ (k + 1) = P at *
      have h3 : 9007199254740992 * P ≤ 9007199254740992 * 4 := Nat.mul_le_mul_left _ this
      omega
    have p := nd_pass n d bn hd hn0 hd0 e h1 (by omega) hq55 hend
    rw [ex0_thicketref02_nearest, hk, p, upE]
    by_cases hb : 9007199254740992 ≤ qQ n d e
    · rw [if_pos hb, if_pos hb]
      simp only [andThen_normal]
      refine ih (e + 1) (by omega) (by omega) (by omega) ?_
      rw [qQ_succ (Nat.pos_of_ne_zero hd0)]
      rw [Nat.pow_succ] at hq
      omega
    · rw [if_neg hb, if_neg hb]
      rfl
theorem c2_nearest (n d : Nat) (hn : n < 18446744073709551616) (hd : d < 18446744073709551616) (hn0 : n ≠ 0) (hd0 : d ≠ 0) :
    Cinf T n_thicketref02_nearest [.ro 1 (ul (limbs n)), .ro 1 (ul (limbs d)), .agg wideB] = some (.agg (numB n d (theE n d)), [.dead, .dead, .dead]) := by
  have fn : Fit (limbs n) := fit_bits (k := 64) hn (by decide)
  have fd : Fit (limbs d) := fit_bits (k := 64) hd (by decide)
  have bd : Big d := Big.of (k := 64) hd (by decide)
  have hd' := Nat.pos_of_ne_zero hd0
  have s1 := c2_size n fn
  have s2 := c2_size d fd
  have b1 : nbits n ≤ 64 := nbits_le hn
  have b2 : nbits d ≤ 64 := nbits_le hd
  have w1 : IntKind.i64.wrap ((nbits n : Int) - nbits d) = (nbits n : Int) - nbits d := by rw [wrap_i64] <;> omega
  have w2 : IntKind.i64.wrap ((nbits n : Int) - nbits d - 53) = (nbits n : Int) - nbits d - 53 := by rw [wrap_i64] <;> omega
  have hq : qQ n d ((nbits n : Int) - nbits d - 54) < 9007199254740992 * 2 ^ 2 := by
    have := qQ_lt (n := n) (d := d) (e := (nbits n : Int) - nbits d - 54) (k := 55) hd' (by omega)
    exact this
  have hl := nd_loop n d hn bd hn0 hd0 2 ((nbits n : Int) - nbits d - 54) (by decide) (by omega) (by omega) hq
  have hE : upE n d 2 ((nbits n : Int) - nbits d - 54) = theE n d := by
    refine (upE_is hd' 2 _ (by omega) (.inr ?_) hq).unique hd' (theE_is hn0 hd')
    have := qQ_ge (n := n) (d := d) (e := (nbits n : Int) - nbits d - 54 - 1) (k := 53) hn0 hd' (by omega)
    exact this
  rw [hE] at hl
  obtain ⟨x, hx⟩ : ∃ x : Int, (nbits n : Int) - nbits d - 54 = x := ⟨_, rfl⟩
  have w3 : IntKind.i64.wrap ((nbits n : Int) - nbits d - 53 - 1) = x := by rw [wrap_i64] <;> omega
  rw [hx] at hl
  have hx2 : ¬ x < -1074 := by omega
  rw [run_thicketref02_nearest]
  unfold numB at hl ⊢
  simp only [ndE, wideB, zeroB] at hl
  simp [Run, wideB, s1, s2, w1, w2, w3, hx2, hl]
theorem limbs_some {n : Nat} (h : n ≠ 0) : ¬ (ul (limbs n)).length = 0 ∧ ¬ limbs n = [] := by
  have : limbs n ≠ [] := by
    rw [limbs_pos h]
    intro h
    cases h
  refine ⟨?_, this⟩
  unfold ul
  rw [List.length_map]
  intro h
  exact this (List.length_eq_zero_iff.1 h)
theorem c2_Nearest (neg : Bool) (n d : Nat) (hn : n < 18446744073709551616) (hd : d < 18446744073709551616) (hd0 : d ≠ 0) :
    Cinf T n_thicketref02_Nearest [.v (.bool neg), .own 1 (ul (limbs n)), .own 1 (ul (limbs d)), .agg wideB] =
      some (.tup [.agg (if n = 0 then zeroB else [.v (.bool neg), .v (.bool false), .v (.bool false), .v (.int .u64 (endM n d (theE n d) : Nat)), .v (.int .i64 (endE n d (theE n d)))]), .v (.bool true)], [.dead, .dead, .dead, .dead]) := by
  have fn : Fit (limbs n) := fit_bits (k := 64) hn (by decide)
  have fd : Fit (limbs d) := fit_bits (k := 64) hd (by decide)
  have m1 := c2_norm (limbs n) (by have := limbs_len_le (n := n) (k := 2) hn; omega) (limbs_lim n)
  have m2 := c2_norm (limbs d) (by have := limbs_len_le (n := d) (k := 2) hd; omega) (limbs_lim d)
  rw [val_limbs] at m1 m2
  obtain ⟨g1, g2⟩ := limbs_some hd0
  rw [run_thicketref02_Nearest]
  by_cases h0 : n = 0
  · subst h0
    have e0 : ul (limbs 0) = [] := by rw [limbs_zero]; rfl
    rw [e0] at m1 ⊢
    rw [if_pos rfl]
    unfold zeroB
    simp [Run, home, wideB, m1, m2, g1, g2]
  · obtain ⟨g3, g4⟩ := limbs_some h0
    have c := c2_nearest n d hn hd h0 hd0
    unfold numB wideB at c
    rw [if_neg h0]
    simp [Run, home, wideB, m1, m2, g1, g2, g3, g4, c]
end Go.AM.F

/- FixedFloats: what the law answers. No conditions. -/
namespace Go.AM.F
open Go Go.AM
set_option maxRecDepth 10000
set_option linter.unusedSimpArgs false
attribute [local simp] b_thicketref04_Float a_thicketref04_Float
attribute [local simp] j0_thicketlaw04_FixedFloats b_thicketlaw04_FixedFloats a_thicketlaw04_FixedFloats
theorem c4_Float (v : Int) (h1 : -9223372036854775808 ≤ v) (h2 : v < 9223372036854775808) : Cinf T n_thicketref04_Float [.v (.int .i64 v)] = some (.v (.int .u64 (fw v : Nat)), [.dead]) := by
  have a1 := c4_amount v h1 h2
  have f1 := c2_From v.natAbs (by omega)
  have f2 := c2_From 1000000 (by decide)
  have wd := c_Wide
  have c := c2_Nearest (decide (v < 0)) v.natAbs 1000000 (by omega) (by decide) (by decide)
  rw [run_thicketref04_Float]
  unfold fw
  simp at f2
  by_cases h0 : v = 0
  · subst h0
    rw [if_pos (by rfl)] at c
    rw [if_pos rfl]
    have b := c2_Bits false 0 0 (by decide) (by decide) (by decide)
    unfold zeroB wideB at c
    unfold wideB at wd b
    have e0 : wrd false (if 0 < 4503599627370496 then 0 else ((0 : Int) + 1075).toNat * 4503599627370496 + (0 - 4503599627370496)) = 0 := rfl
    rw [e0] at b
    simp at a1 f1 c b
    simp [Run, a1, f1, f2, wd, c, b]
  · have hn : v.natAbs ≠ 0 := by omega
    rw [if_neg hn] at c
    rw [if_neg h0]
    have his := theE_is hn (show 0 < 1000000 by decide)
    have hE := theE_small' hn (show 1000000 ≠ 0 by decide) (by omega)
    obtain ⟨e1, e2, e3⟩ := rung_end (by decide) his (by omega)
    have hm : endM v.natAbs 1000000 (theE v.natAbs 1000000) < 9007199254740992 := by
      have := theM_le his
      unfold endM
      split <;> omega
    have hlo := his.lo
    have hlo2 : -1074 ≤ endE v.natAbs 1000000 (theE v.natAbs 1000000) := by unfold endE; split <;> omega
    have b := c2_Bits (decide (v < 0)) _ _ hm hlo2 e1
    rw [← e3] at b
    generalize rung v.natAbs 1000000 (theE v.natAbs 1000000) = r at *
    generalize endM v.natAbs 1000000 (theE v.natAbs 1000000) = m at *
    generalize endE v.natAbs 1000000 (theE v.natAbs 1000000) = e at *
    unfold wideB at c wd b
    obtain ⟨ng, hng⟩ : ∃ ng, decide (v < 0) = ng := ⟨_, rfl⟩
    rw [hng] at c b ⊢
    simp [Run, a1, f1, f2, wd, hng, c, b]
theorem nearR_tup (w : Nat) : ∃ a e, nearR w = .tup [.v (.int .i64 a), .v (.int .i64 e)] := by
  unfold nearR
  split
  · exact ⟨_, _, rfl⟩
  · split
    · exact ⟨_, _, rfl⟩
    · split
      · exact ⟨_, _, rfl⟩
      · exact ⟨_, _, rfl⟩
theorem c_FixedFloats (w : Nat) (v : Int) (hw : w < 18446744073709551616) (hv : -9223372036854775808 ≤ v ∧ v < 9223372036854775808) :
    ∃ l, Cinf T n_thicketlaw04_FixedFloats [.v (.int .u64 (w : Nat)), .v (.int .i64 v)] = some (.v (.bool true), l) := by
  have c1 := c_fixNearest w hw
  have c2 := c4_Nearest w hw
  obtain ⟨a, e, hn⟩ := nearR_tup w
  rw [hn] at c1 c2
  have c3 := c_Float v hv.1 hv.2
  have c4 := c4_Float v hv.1 hv.2
  obtain ⟨f, hf⟩ : ∃ f, fw v = f := ⟨_, rfl⟩
  rw [hf] at c3 c4
  have c5 := c_fRatio v hv.1 hv.2
  have c6 := c4_Ratio v hv.1 hv.2
  unfold rightR at c5
  unfold ratR at c6
  rw [run_thicketlaw04_FixedFloats]
  by_cases h0 : v = 0
  · subst h0
    rw [if_pos (by rfl)] at c5 c6
    have m1 := c_lawnumber 0 (by decide)
    have m2 := c_lawnumber 1 (by decide)
    have m3 := c_lawright 0 (by decide)
    have m4 := c_lawright 1 (by decide)
    simp only [rat] at c5
    simp at m1 m2
    exact ⟨_, by simp [Run, c1, c2, c3, c4, c5, c6, m1, m2, m3, m4]; rfl⟩
  · have hz : v.natAbs ≠ 0 := by omega
    rw [if_neg hz] at c5
    rw [if_neg h0] at c6
    obtain ⟨g, hg⟩ : ∃ g, Nat.gcd v.natAbs 1000000 = g := ⟨_, rfl⟩
    rw [hg] at c5 c6
    have n1 : v.natAbs / g < 18446744073709551616 := Nat.lt_of_le_of_lt (Nat.div_le_self _ _) (by omega)
    have n2 : 1000000 / g < 18446744073709551616 := Nat.lt_of_le_of_lt (Nat.div_le_self _ _) (by decide)
    generalize v.natAbs / g = x at *
    generalize 1000000 / g = y at *
    have m1 := c_lawnumber x n1
    have m2 := c_lawnumber y n2
    have m3 := c_lawright x n1
    have m4 := c_lawright y n2
    simp only [rat] at c5
    exact ⟨_, by simp [Run, c1, c2, c3, c4, c5, c6, m1, m2, m3, m4]; rfl⟩
end Go.AM.F

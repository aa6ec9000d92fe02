/- FixedNear: what the law answers. No conditions. -/
import Derived.Test.YtbghahcgjnlnlaaDoorF8
namespace Go.AM.F
open Go Go.AM
set_option maxRecDepth 10000
set_option linter.unusedSimpArgs false
set_option exponentiation.threshold 110000

theorem quot_val {w : Nat} (hf : rg w < infR) : qNum w * U = dval (rg w) * qDen w := by
  obtain ⟨p1, p2, p3⟩ := rg_fields w
  have hi : infR = 9218868437227405312 := rfl
  unfold qNum qDen dval U
  by_cases h0 : fE w = 0
  · have e1 : mW w = fM w := by unfold mW; rw [if_pos h0]
    have e2 : qE w = -1074 := by unfold qE; rw [if_pos h0]
    have e3 : dmag (rg w) = fM w := by unfold dmag; rw [if_pos (by omega)]; omega
    have e4 : dexp (rg w) = 0 := by unfold dexp; omega
    rw [e1, e2, e3, e4, show (-1074 : Int).toNat = 0 by decide, Nat.pow_zero, Nat.mul_one, show (-(-1074) : Int).toNat = 1074 by decide]
  · have e1 : mW w = 4503599627370496 + fM w := by unfold mW; rw [if_neg h0]
    have e2 : qE w = (fE w : Int) - 1075 := by unfold qE; rw [if_neg h0]
    have e3 : dmag (rg w) = 4503599627370496 + fM w := by unfold dmag; rw [if_neg (by omega)]; omega
    have e4 : dexp (rg w) = fE w - 1 := by unfold dexp; omega
    rw [e1, e2, e3, e4, Nat.mul_assoc, ← Nat.pow_add, Nat.mul_assoc, ← Nat.pow_add]
    congr 2
    omega
def rr (w : Nat) : Nat := rnd (qNum w * 1000000) (qDen w)
theorem rr_bounds {w : Nat} (hf : rg w < infR) : 2 * (rr w * U) ≤ 2 * (dval (rg w) * 1000000) + U ∧ 2 * (dval (rg w) * 1000000) ≤ 2 * (rr w * U) + U := by
  have hq := quot_val hf
  have hd := qDen_pos w
  obtain ⟨h1, h2⟩ := rnd_near (qNum w * 1000000) (qDen w) hd
  change 2 * (rr w * qDen w) ≤ _ at h1
  change _ ≤ 2 * (rr w * qDen w) + _ at h2
  generalize rr w = r at *
  generalize qNum w = n at *
  generalize qDen w = d at *
  generalize dval (rg w) = D at *
  generalize U = u at *
  have e1 : 2 * (r * d) * u = 2 * (r * u) * d := by rw [Nat.mul_assoc 2 (r * d), Nat.mul_assoc 2 (r * u), Nat.mul_right_comm r]
  have e2 : 2 * (n * 1000000) * u = 2 * (D * 1000000) * d := by rw [Nat.mul_assoc 2 (n * 1000000), Nat.mul_assoc 2 (D * 1000000), Nat.mul_right_comm n, hq, Nat.mul_right_comm D]
  have g1 := Nat.mul_le_mul_right u h1
  have g2 := Nat.mul_le_mul_right u h2
  rw [Nat.add_mul, e1, e2, Nat.mul_comm d u, ← Nat.add_mul] at g1
  rw [Nat.add_mul, e1, e2, Nat.mul_comm d u, ← Nat.add_mul] at g2
  exact ⟨Nat.le_of_mul_le_mul_right g1 hd, Nat.le_of_mul_le_mul_right g2 hd⟩
/-- What fixed.Nearest can't answer. -/
def Ov (w : Nat) : Prop := 4816244402031689728 < rg w ∨ 9223372036854775808 < rr w ∨ (rr w = 9223372036854775808 ∧ sgn w = false)
theorem nearR_ov {w : Nat} (hf : rg w < infR) (h : Ov w) : nearR w = .tup [.v (.int .i64 0), .v (.int .i64 41)] := by
  unfold nearR
  rw [if_neg (by omega)]
  rcases h with h | h
  · rw [if_pos h]
  · split
    · rfl
    · exact if_pos h
theorem nearR_fine {w : Nat} (hf : rg w < infR) (h : ¬ Ov w) : nearR w = .tup [.v (.int .i64 (if sgn w = true then -(rr w : Int) else rr w)), .v (.int .i64 0)] := by
  unfold Ov at h
  unfold nearR
  rw [if_neg (by omega), if_neg (fun h1 => h (.inl h1))]
  exact if_neg (fun h1 => h (.inr h1))
theorem d14 : dval 4816244402031689728 = 100000000000000 * U := by decide +kernel
theorem d93 : dval 4801095203149578240 = 9300000000000 * U := by decide +kernel
theorem d92 : dval 4801044003149578240 = 9200000000000 * U := by decide +kernel
theorem d1e9 : dval 4741671816366391296 = 1000000000 * U := by decide +kernel
theorem d1 : dval 4607182418800017408 = U := by decide +kernel
theorem s93 : sv 4801095203149578240 = 9300000000000 * U := by
  have h := d93
  unfold sv
  rw [if_neg (by decide), show rg 4801095203149578240 = 4801095203149578240 by decide]
  omega
theorem s93n : sv 14024467240004354048 = -(9300000000000 * U) := by
  have h := d93
  unfold sv
  rw [if_pos (by decide), show rg 14024467240004354048 = 4801095203149578240 by decide]
  omega
theorem s92 : sv 4801044003149578240 = 9200000000000 * U := by
  have h := d92
  unfold sv
  rw [if_neg (by decide), show rg 4801044003149578240 = 4801044003149578240 by decide]
  omega
theorem s92n : sv 14024416040004354048 = -(9200000000000 * U) := by
  have h := d92
  unfold sv
  rw [if_pos (by decide), show rg 14024416040004354048 = 4801044003149578240 by decide]
  omega
theorem s1e9 : sv 4741671816366391296 = 1000000000 * U := by
  have h := d1e9
  unfold sv
  rw [if_neg (by decide), show rg 4741671816366391296 = 4741671816366391296 by decide]
  omega
theorem s1e9n : sv 13965043853221167104 = -(1000000000 * U) := by
  have h := d1e9
  unfold sv
  rw [if_pos (by decide), show rg 13965043853221167104 = 4741671816366391296 by decide]
  omega
theorem s1 : sv 4607182418800017408 = U := by
  have h := d1
  unfold sv
  rw [if_neg (by decide), show rg 4607182418800017408 = 4607182418800017408 by decide]
  omega
theorem ov_big {w : Nat} (hf : rg w < infR) (h : 9300000000000 * U < dval (rg w)) : Ov w := by
  obtain ⟨h1, h2⟩ := rr_bounds hf
  have hu := U_pos
  right; left
  rcases Nat.lt_or_ge 9223372036854775808 (rr w) with hl | hl
  · exact hl
  · have := Nat.mul_le_mul_right U hl
    omega
theorem ov_small {w : Nat} (hf : rg w < infR) (h : dval (rg w) < 9200000000000 * U) : ¬ Ov w := by
  obtain ⟨h1, h2⟩ := rr_bounds hf
  have hu := U_pos
  have h3 : rr w < 9223372036854775808 := by
    rcases Nat.lt_or_ge (rr w) 9223372036854775808 with hl | hl
    · exact hl
    · have := Nat.mul_le_mul_right U hl
      omega
  rintro (h4 | h4 | h4)
  · have := dval_lt h4
    rw [d14] at this
    omega
  · omega
  · omega
theorem sv_abs (w : Nat) : (sv w).natAbs = dval (rg w) := by
  unfold sv
  split <;> omega
/-- What the law asks of the number in floats: near by one. -/
theorem near_one {w : Nat} (hf : rg w < infR) (h : dval (rg w) ≤ 9300000000000 * U) : ∃ x1 x2 x3, FloatKind.f64.format.mul w 4696837146684686336 = some x1 ∧ FloatKind.f64.format.add x1 4607182418800017408 = some x2 ∧ FloatKind.f64.format.sub x1 4607182418800017408 = some x3 ∧
    rg x2 < infR ∧ rg x3 < infR ∧ (dval (rg w) ≤ 1000000000 * U → ∀ a : Int, a = (if sgn w = true then -(rr w : Int) else rr w) → rg (FloatKind.f64.nearest a) < infR ∧ sv (FloatKind.f64.nearest a) ≤ sv x2 ∧ sv x3 ≤ sv (FloatKind.f64.nearest a)) := by
  have hu := U_pos
  have hh := huge
  have h70 := d70
  obtain ⟨x1, e1, n1⟩ := f_mul hf
  have ha := sv_abs w
  have f1 : rg x1 ≤ 1093 * 4503599627370496 := n1.fin _ (by decide) (by rw [h70]; omega)
  have i1 : rg x1 < infR := Nat.lt_of_le_of_lt f1 (by decide)
  have b1 := dval_le.1 f1
  rw [h70, ← sv_abs] at b1
  obtain ⟨x2, e2, n2⟩ := f_add (y := 4607182418800017408) i1 (by decide)
  obtain ⟨x3, e3, n3⟩ := f_sub (y := 4607182418800017408) i1 (by decide)
  rw [s1] at n2 n3
  have i2 : rg x2 < infR := Nat.lt_of_le_of_lt (n2.fin (infR - 1) (by decide) (by omega)) (by decide)
  have i3 : rg x3 < infR := Nat.lt_of_le_of_lt (n3.fin (infR - 1) (by decide) (by omega)) (by decide)
  refine ⟨x1, x2, x3, e1, e2, e3, i2, i3, fun hD a ha => ?_⟩
  obtain ⟨r1, r2⟩ := rr_bounds hf
  have hr : rr w ≤ 1000000000000000 := by
    rcases Nat.lt_or_ge 1000000000000000 (rr w) with hl | hl
    · have := Nat.mul_le_mul_right U hl
      rw [Nat.succ_mul] at this
      omega
    · exact hl
  have hA : a.natAbs ≤ 1000000000000000 := by rw [ha]; split <;> omega
  -- the number and the whole one: half a unit
  have hS : 2 * (a * U) ≤ 2 * (sv w * 1000000) + U ∧ 2 * (sv w * 1000000) ≤ 2 * (a * U) + U := by
    rw [ha]
    unfold sv
    cases sgn w with
    | true =>
      rw [if_pos rfl, if_pos rfl, Int.neg_mul, Int.neg_mul]
      omega
    | false =>
      rw [if_neg Bool.false_ne_true, if_neg Bool.false_ne_true]
      omega
  obtain ⟨ua, va, wa⟩ := repI a (by omega)
  obtain ⟨um, vm, wm⟩ := repI (a - 1) (by omega)
  obtain ⟨up, vp, wp⟩ := repI (a + 1) (by omega)
  rw [Int.sub_mul, Int.one_mul] at wm
  rw [Int.add_mul, Int.one_mul] at wp
  have nc := f_conv a
  have c1 := nc.le ua va (by omega)
  have c2 := nc.ge ua va (by omega)
  have g1 := n1.ge um vm (by omega)
  have g2 := n1.le up vp (by omega)
  have g3 := n2.ge ua va (by omega)
  have g4 := n3.le ua va (by omega)
  refine ⟨?_, by omega, by omega⟩
  have ea := sv_abs ua
  exact Nat.lt_of_le_of_lt (nc.fin (rg ua) va (by omega)) va
/-- The number turned. -/
theorem negFloat_w {w : Nat} (hw : w < 18446744073709551616) : Op.negFloat .f64 w = wrd (!sgn w) (rg w) := by
  change w ^^^ 2 ^ 63 = _
  have h1 : (w ^^^ 2 ^ 63) % 2 ^ 63 = w % 2 ^ 63 := by rw [Nat.xor_mod_two_pow, Nat.mod_self, Nat.xor_zero]
  have h2 : (w ^^^ 2 ^ 63) / 2 ^ 63 = w / 2 ^ 63 ^^^ 1 := by rw [Nat.xor_div_two_pow, Nat.div_self (by decide)]
  have h3 := Nat.div_add_mod (w ^^^ 2 ^ 63) (2 ^ 63)
  rw [h1, h2] at h3
  rw [← h3]
  unfold wrd sgn rg
  rw [show (2 : Nat) ^ 63 = 9223372036854775808 by decide]
  have hx : w / 9223372036854775808 = 0 ∨ w / 9223372036854775808 = 1 := by omega
  rcases hx with hx | hx
  · rw [hx]; rfl
  · rw [hx]
    change 9223372036854775808 * 0 + _ = _
    rw [Nat.mul_zero, Nat.zero_add]
    rfl
theorem rr_rg {w v : Nat} (h : rg v = rg w) : rr v = rr w := by
  obtain ⟨p1, p2, p3⟩ := rg_fields w
  obtain ⟨q1, q2, q3⟩ := rg_fields v
  have e1 : fE v = fE w := by omega
  have e2 : fM v = fM w := by omega
  unfold rr qNum qDen mW qE
  rw [e1, e2]
attribute [local simp] j0_thicketlaw04_FixedNear j1_thicketlaw04_FixedNear j2_thicketlaw04_FixedNear j3_thicketlaw04_FixedNear j4_thicketlaw04_FixedNear b_thicketlaw04_FixedNear a_thicketlaw04_FixedNear
@[local simp] theorem bin_f64'' (op : BinOp) (a b : Nat) : bin op (.v (.float .f64 a)) (.v (.float .f64 b)) = (binFloat op .f64 a b).map .v := by simp [bin]
theorem b_lss {w v : Nat} (h1 : rg w < infR) (h2 : rg v < infR) : binFloat .lss .f64 w v = some (.bool (decide (sv w < sv v))) := by
  rw [← flt_lt h1 h2]; rfl
theorem b_gtr {w v : Nat} (h1 : rg w < infR) (h2 : rg v < infR) : binFloat .gtr .f64 w v = some (.bool (decide (sv v < sv w))) := by
  rw [← flt_gt h1 h2]; rfl
theorem b_leq {w v : Nat} (h1 : rg w < infR) (h2 : rg v < infR) : binFloat .leq .f64 w v = some (.bool (decide (sv w ≤ sv v))) := by
  have h : decide (sv w ≤ sv v) = (decide (sv w < sv v) || decide (sv w = sv v)) := by
    rw [← Bool.decide_or, decide_eq_decide]
    omega
  rw [h, ← flt_lt h1 h2, ← flt_eq h1 h2]; rfl
theorem b_geq {w v : Nat} (h1 : rg w < infR) (h2 : rg v < infR) : binFloat .geq .f64 w v = some (.bool (decide (sv v ≤ sv w))) := by
  have h : decide (sv v ≤ sv w) = (decide (sv v < sv w) || decide (sv w = sv v)) := by
    rw [← Bool.decide_or, decide_eq_decide]
    omega
  rw [h, ← flt_gt h1 h2, ← flt_eq h1 h2]; rfl
theorem b_neq (w : Nat) (h : rg w ≤ infR) : binFloat .neq .f64 w w = some (.bool false) := by
  have : FloatKind.f64.format.order w w = some .eq := by
    rcases Nat.lt_or_eq_of_le h with h | h
    · have := flt_eq h h
      rw [decide_eq_true rfl] at this
      simpa using this
    · exact order_self_inf h
  unfold binFloat
  simp only [this]
  rfl
theorem near_classes : ∀ ql qg g5 g6 : Bool, ((ql && qg) || g5 || g6) = true → (ql = true ∧ qg = true) ∨ (ql = true ∧ qg = false ∧ g5 = true) ∨ (ql = true ∧ qg = false ∧ g5 = false ∧ g6 = true) ∨ (ql = false ∧ g5 = true) ∨ (ql = false ∧ g5 = false ∧ g6 = true) := by decide
theorem near_ps : ∀ p3 p4 : Bool, p3 = false ∨ (p3 = true ∧ p4 = false) ∨ (p3 = true ∧ p4 = true) := by decide
set_option maxHeartbeats 4000000 in
theorem near_walk (w : Nat) (a a2 e2 : Int) (nv fa x1 x2 x3 : Nat) (p3 p4 ql qg g5 g6 : Bool)
    (n1 : Cinf T n_fixed_Nearest [.v (.float .f64 w)] = some (.tup [.v (.int .i64 a), .v (.int .i64 0)], [.dead]))
    (b0 : binFloat .neq .f64 w w = some (.bool false)) (b1 : binFloat .lss .f64 w 14024467240004354048 = some (.bool false)) (b2 : binFloat .gtr .f64 w 4801095203149578240 = some (.bool false))
    (b3 : binFloat .gtr .f64 w 14024416040004354048 = some (.bool p3)) (b4 : binFloat .lss .f64 w 4801044003149578240 = some (.bool p4)) (hnv : Op.negFloat .f64 w = nv)
    (n2 : Cinf T n_fixed_Nearest [.v (.float .f64 nv)] = some (.tup [.v (.int .i64 a2), .v (.int .i64 e2)], [.dead])) (hfa : FloatKind.f64.nearest a = fa)
    (k1 : binFloat .mul .f64 w 4696837146684686336 = some (.float .f64 x1)) (k2 : binFloat .add .f64 x1 4607182418800017408 = some (.float .f64 x2)) (k3 : binFloat .sub .f64 x1 4607182418800017408 = some (.float .f64 x3))
    (y1 : binFloat .leq .f64 fa x2 = some (.bool ql)) (y2 : binFloat .geq .f64 fa x3 = some (.bool qg)) (y3 : binFloat .gtr .f64 w 4741671816366391296 = some (.bool g5)) (y4 : binFloat .lss .f64 w 13965043853221167104 = some (.bool g6))
    (hneg : e2 = 0 → a2 = IntKind.i64.wrap (-a)) (hb : ((ql && qg) || g5 || g6) = true) : ∃ l, Run T a_thicketlaw04_FixedNear [.v (.int .u64 (w : Nat))] = some (.v (.bool true), l) := by
  by_cases he : e2 = 0
  · have z1 := hneg he
    subst he
    subst z1
    rcases near_ps p3 p4 with rfl | ⟨rfl, rfl⟩ | ⟨rfl, rfl⟩ <;> rcases near_classes ql qg g5 g6 hb with ⟨rfl, rfl⟩ | ⟨rfl, rfl, rfl⟩ | ⟨rfl, rfl, rfl, rfl⟩ | ⟨rfl, rfl⟩ | ⟨rfl, rfl, rfl⟩ <;>
      exact ⟨_, by simp [Run, c_begins, n1, b0, b1, b2, b3, b4, hnv, n2, hfa, k1, k2, k3, y1, y2, y3, y4]; rfl⟩
  · rcases near_ps p3 p4 with rfl | ⟨rfl, rfl⟩ | ⟨rfl, rfl⟩ <;> rcases near_classes ql qg g5 g6 hb with ⟨rfl, rfl⟩ | ⟨rfl, rfl, rfl⟩ | ⟨rfl, rfl, rfl, rfl⟩ | ⟨rfl, rfl⟩ | ⟨rfl, rfl, rfl⟩ <;>
      exact ⟨_, by simp [Run, c_begins, n1, b0, b1, b2, b3, b4, hnv, n2, he, hfa, k1, k2, k3, y1, y2, y3, y4]; rfl⟩
theorem c_FixedNear (w : Nat) (hw : w < 18446744073709551616) : ∃ l, Cinf T n_thicketlaw04_FixedNear [.v (.int .u64 (w : Nat))] = some (.v (.bool true), l) := by
  have n1 := c_fixNearest w hw
  rw [run_thicketlaw04_FixedNear]
  rcases Nat.lt_trichotomy (rg w) infR with hf | hf | hf
  · have hu := U_pos
    have b0 := b_neq w (Nat.le_of_lt hf)
    have b1 : binFloat .lss .f64 w 14024467240004354048 = some (.bool (decide (sv w < -(9300000000000 * U)))) := by rw [b_lss hf (by decide), s93n]
    have b2 : binFloat .gtr .f64 w 4801095203149578240 = some (.bool (decide ((9300000000000 * U : Int) < sv w))) := by rw [b_gtr hf (by decide), s93]
    have b3 : binFloat .gtr .f64 w 14024416040004354048 = some (.bool (decide (-(9200000000000 * U : Int) < sv w))) := by rw [b_gtr hf (by decide), s92n]
    have b4 : binFloat .lss .f64 w 4801044003149578240 = some (.bool (decide (sv w < (9200000000000 * U)))) := by rw [b_lss hf (by decide), s92]
    have b5 : binFloat .gtr .f64 w 4741671816366391296 = some (.bool (decide ((1000000000 * U : Int) < sv w))) := by rw [b_gtr hf (by decide), s1e9]
    have b6 : binFloat .lss .f64 w 13965043853221167104 = some (.bool (decide (sv w < -(1000000000 * U)))) := by rw [b_lss hf (by decide), s1e9n]
    have ha := sv_abs w
    by_cases hbig : 9300000000000 * U < dval (rg w)
    · rw [nearR_ov hf (ov_big hf hbig)] at n1
      by_cases hs : sv w < 0
      · rw [decide_eq_true (by omega)] at b1
        exact ⟨_, by simp [Run, c_begins, n1, b0, b1]; rfl⟩
      · rw [decide_eq_false (by omega)] at b1
        rw [decide_eq_true (by omega)] at b2
        exact ⟨_, by simp [Run, c_begins, n1, b0, b1, b2]; rfl⟩
    · rw [decide_eq_false (by omega)] at b1 b2
      by_cases hov : Ov w
      · rw [nearR_ov hf hov] at n1
        have hnot : ¬ dval (rg w) < 9200000000000 * U := fun h => ov_small hf h hov
        by_cases hs : sv w < 0
        · rw [decide_eq_false (by omega)] at b3
          exact ⟨_, by simp [Run, c_begins, n1, b0, b1, b2, b3]; rfl⟩
        · rw [decide_eq_true (by omega)] at b3
          rw [decide_eq_false (by omega)] at b4
          exact ⟨_, by simp [Run, c_begins, n1, b0, b1, b2, b3, b4]; rfl⟩
      · rw [nearR_fine hf hov] at n1
        obtain ⟨x1, x2, x3, m1, m2, m3, i2, i3, near⟩ := near_one hf (by omega)
        have near := fun h => near h _ rfl
        have hr : (if sgn w = true then -(rr w : Int) else rr w) ≤ 9223372036854775807 ∧ -9223372036854775808 ≤ (if sgn w = true then -(rr w : Int) else rr w) := by
          unfold Ov at hov
          cases hs : sgn w with
          | true => rw [if_pos rfl]; omega
          | false =>
            rw [if_neg Bool.false_ne_true]
            have : ¬ (rr w = 9223372036854775808) := fun h => hov (.inr (.inr ⟨h, hs⟩))
            omega
        -- the number turned
        have hng := negFloat_w hw
        obtain ⟨v1, v2, v3⟩ := wrd_fields (!sgn w) (rg w) (Nat.lt_trans hf infR_lt)
        rw [← hng] at v1 v2 v3
        have n2 := c_fixNearest _ v3
        have hrv := rr_rg v1
        have hn2 : ∃ a2 e2, nearR (Op.negFloat .f64 w) = .tup [.v (.int .i64 a2), .v (.int .i64 e2)] ∧ (e2 = 0 → a2 = IntKind.i64.wrap (0 - (if sgn w = true then -(rr w : Int) else rr w))) := by
          by_cases ho : Ov (Op.negFloat .f64 w)
          · exact ⟨_, _, nearR_ov (by rw [v1]; exact hf) ho, by intro h; cases h⟩
          · refine ⟨_, _, nearR_fine (by rw [v1]; exact hf) ho, fun _ => ?_⟩
            unfold Ov at ho
            rw [hrv, v2] at ho ⊢
            cases hs : sgn w with
            | true =>
              rw [hs] at ho hr
              rw [if_pos rfl] at hr ⊢
              have : ¬ (rr w = 9223372036854775808) := fun h => ho (.inr (.inr ⟨h, rfl⟩))
              rw [if_neg (by decide), wrap_i64] <;> omega
            | false =>
              rw [hs] at hr
              rw [if_neg Bool.false_ne_true] at hr ⊢
              rw [if_pos (by decide), wrap_i64] <;> omega
        obtain ⟨a2, e2, hn2, ha2⟩ := hn2
        rw [hn2] at n2
        obtain ⟨a, hA⟩ : ∃ a, (if sgn w = true then -(rr w : Int) else rr w) = a := ⟨_, rfl⟩
        rw [hA] at near n1 ha2
        obtain ⟨nv, hnv⟩ : ∃ nv, Op.negFloat .f64 w = nv := ⟨_, rfl⟩
        rw [hnv] at n2
        obtain ⟨fa, hfa⟩ : ∃ fa, FloatKind.f64.nearest a = fa := ⟨_, rfl⟩
        rw [hfa] at near
        have k1 : binFloat .mul .f64 w 4696837146684686336 = some (.float .f64 x1) := by unfold binFloat; simp only [m1]; rfl
        have k2 : binFloat .add .f64 x1 4607182418800017408 = some (.float .f64 x2) := by unfold binFloat; simp only [m2]; rfl
        have k3 : binFloat .sub .f64 x1 4607182418800017408 = some (.float .f64 x3) := by unfold binFloat; simp only [m3]; rfl
        obtain ⟨p4, hp4⟩ : ∃ p, decide (sv w < (9200000000000 * U)) = p := ⟨_, rfl⟩
        obtain ⟨p3, hp3⟩ : ∃ p, decide (-(9200000000000 * U : Int) < sv w) = p := ⟨_, rfl⟩
        rw [hp3] at b3
        rw [hp4] at b4
        have hneg : e2 = 0 → a2 = IntKind.i64.wrap (-a) := fun h => by rw [ha2 h, Int.zero_sub]
        obtain ⟨ql, y1⟩ : ∃ q, binFloat .leq .f64 fa x2 = some (.bool q) := ⟨_, rfl⟩
        obtain ⟨qg, y2⟩ : ∃ q, binFloat .geq .f64 fa x3 = some (.bool q) := ⟨_, rfl⟩
        refine near_walk w a a2 e2 nv fa x1 x2 x3 p3 p4 ql qg _ _ n1 b0 b1 b2 b3 b4 hnv n2 hfa k1 k2 k3 y1 y2 b5 b6 hneg ?_
        by_cases hD : dval (rg w) ≤ 1000000000 * U
        · obtain ⟨t1, t2, t3⟩ := near hD
          rw [b_leq t1 i2, decide_eq_true t2] at y1
          rw [b_geq t1 i3, decide_eq_true t3] at y2
          cases y1
          cases y2
          rfl
        · by_cases hs : sv w < 0
          · rw [decide_eq_true (p := sv w < -(1000000000 * U)) (by omega), Bool.or_true]
          · rw [decide_eq_true (p := 1000000000 * (U : Int) < sv w) (by omega), Bool.or_true, Bool.true_or]
  · have b0 := b_neq w (by omega)
    have hn : nearR w = .tup [.v (.int .i64 0), .v (.int .i64 41)] := by
      unfold nearR
      rw [if_neg (by omega), if_pos (by rw [hf]; decide)]
    rw [hn] at n1
    cases hs : sgn w with
    | true =>
      have b1 : binFloat .lss .f64 w 14024467240004354048 = some (.bool true) := by
        unfold binFloat
        simp only [order_inf_neg (v := 14024467240004354048) hf hs (by decide)]
        rfl
      exact ⟨_, by simp [Run, c_begins, n1, b0, b1]; rfl⟩
    | false =>
      have b1 : binFloat .lss .f64 w 14024467240004354048 = some (.bool false) := by
        unfold binFloat
        simp only [order_inf_pos (v := 14024467240004354048) hf hs (by decide)]
        rfl
      have b2 : binFloat .gtr .f64 w 4801095203149578240 = some (.bool true) := by
        unfold binFloat
        simp only [order_inf_pos (v := 4801095203149578240) hf hs (by decide)]
        rfl
      exact ⟨_, by simp [Run, c_begins, n1, b0, b1, b2]; rfl⟩
  · have b0 : binFloat .neq .f64 w w = some (.bool true) := by
      unfold binFloat
      simp only [order_nan (v := w) hf]
      rfl
    have hn : nearR w = .tup [.v (.int .i64 0), .v (.int .i64 60)] := by
      unfold nearR
      rw [if_pos hf]
    rw [hn] at n1
    exact ⟨_, by simp [Run, c_begins, n1, b0]; rfl⟩
end Go.AM.F

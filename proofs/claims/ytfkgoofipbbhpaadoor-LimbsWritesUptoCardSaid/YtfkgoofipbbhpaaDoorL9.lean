/- Differences of naturals, as the document has them. No conditions. -/
import Derived.Test.YtfkgoofipbbhpaaDoorL8
namespace Go.AM.F
open Go Go.AM
set_option maxRecDepth 10000
set_option linter.unusedSimpArgs false
attribute [local simp] j0_thicketref01_Sub j1_thicketref01_Sub j2_thicketref01_Sub j3_thicketref01_Sub w0_thicketref01_Sub j4_thicketref01_Sub j5_thicketref01_Sub b_thicketref01_Sub a_thicketref01_Sub
theorem rsub_loop (a b : List Nat) (ha : Fit a) (hb : Fit b) : ∀ (n k br : Nat) (out : List Nat), a.length - k = n → k ≤ a.length → br ≤ 1 → Lim out → out.length = k → val (a.take k) + 4294967296 ^ k * br = val out + val (b.take k) →
    ∃ (out' : List Nat) (br' : Nat), Exec T l0_thicketref01_Sub [(6, .own 1 (ul a)), (7, .own 1 (ul b)), (8, .own 1 (ul out)), (9, .v (.int .i64 br)), (17, .dead), (19, .dead), (21, .v (.int .i64 a.length)), (22, .v (.int .i64 k)), (51, .dead)] =
      some (.exit 0, [(6, .own 1 (ul a)), (7, .own 1 (ul b)), (8, .own 1 (ul out')), (9, .v (.int .i64 br')), (17, .dead), (19, .dead), (21, .v (.int .i64 a.length)), (22, .v (.int .i64 a.length)), (51, .dead)]) ∧ Lim out' ∧ out'.length = a.length ∧ br' ≤ 1 ∧ val a + 4294967296 ^ a.length * br' = val out' + val (b.take a.length) := by
  intro n
  induction n with
  | zero =>
    intro k br out hn hk hbr hl ho hv
    obtain rfl : k = a.length := by omega
    refine ⟨out, br, ?_, hl, ho, hbr, ?_⟩
    · rw [ex0_thicketref01_Sub]
      simp
    · rwa [List.take_of_length_le (Nat.le_refl _)] at hv
  | succ n ih =>
    intro k br out hn hk hbr hl ho hv
    have hal := ha.2
    have hlt : k < a.length := by omega
    have hw := wrap_succ hlt (by omega)
    obtain ⟨x, hx⟩ : ∃ x, a[k] = x := ⟨_, rfl⟩
    have hxl := ha.1.get hlt
    rw [hx] at hxl
    obtain ⟨y, hy⟩ : ∃ y, at0 b k = y := ⟨_, rfl⟩
    have hyl := at0_lt hb.1 k
    rw [hy] at hyl
    have w0 := wrap_nat (k := x) (by omega)
    have w1 : IntKind.i64.wrap ((x : Int) - br) = (x : Int) - br := by rw [wrap_i64] <;> omega
    have w2 := wrap_nat (k := y) (by omega)
    have w3 : IntKind.i64.wrap ((x : Int) - br - y) = (x : Int) - br - y := by rw [wrap_i64] <;> omega
    have w4 : IntKind.i64.wrap ((x : Int) - br - y + 4294967296) = (x : Int) - br - y + 4294967296 := by rw [wrap_i64] <;> omega
    have e1 : k ≤ 35184372088831 := by omega
    have e2 : k ≤ 4611686018427387903 := by omega
    have e3 : (k + 1) * 4 ≤ 140737488355328 := by omega
    have next : ∀ (d br' : Nat), d < 4294967296 → br' ≤ 1 → x + 4294967296 * br' = d + y + br → ∃ (out' : List Nat) (b2 : Nat), Exec T l0_thicketref01_Sub [(6, .own 1 (ul a)), (7, .own 1 (ul b)), (8, .own 1 (ul out ++ [.v (.int .u32 (d : Nat))])), (9, .v (.int .i64 (br' : Nat))), (17, .dead), (19, .dead), (21, .v (.int .i64 a.length)), (22, .v (.int .i64 ((k : Int) + 1))), (51, .dead)] =
      some (.exit 0, [(6, .own 1 (ul a)), (7, .own 1 (ul b)), (8, .own 1 (ul out')), (9, .v (.int .i64 b2)), (17, .dead), (19, .dead), (21, .v (.int .i64 a.length)), (22, .v (.int .i64 a.length)), (51, .dead)]) ∧ Lim out' ∧ out'.length = a.length ∧ b2 ≤ 1 ∧ val a + 4294967296 ^ a.length * b2 = val out' + val (b.take a.length) := by
      intro d br' hd hb2 hst
      have hxa : at0 a k = x := by rw [at0_in hlt, hx]
      have hv2 : val (a.take (k + 1)) + 4294967296 ^ (k + 1) * br' = val (out ++ [d]) + val (b.take (k + 1)) := by
        rw [val_snoc, ho, val_take_succ a, val_take_succ b, hxa, hy]
        exact sub_step hv hst
      have := ih (k + 1) br' (out ++ [d]) (by omega) (by omega) hb2 (hl.append (Lim.one hd)) (by simp [ho]) hv2
      rwa [succ_cast, ul_snoc] at this
    rw [ex0_thicketref01_Sub]
    by_cases hneg : x < y + br
    · obtain ⟨d, hd⟩ : ∃ d, d = x + 4294967296 - y - br := ⟨_, rfl⟩
      obtain ⟨out', b2, h0, h1⟩ := next d 1 (by omega) (by omega) (by omega)
      refine ⟨out', b2, ?_, h1⟩
      rw [Int.natCast_one] at h0
      rw [← h0]
      have q1 : (x : Int) - br - y < 0 := by omega
      have q2 : (x : Int) - br - y + 4294967296 = (d : Int) := by omega
      have q3 := u32_nat (k := d) (by omega)
      rw [q2] at w4
      have q6 := wrap_nat (k := d) (by omega)
      by_cases hkb : k < b.length
      · have hyb : b[k] = y := by rw [← hy, at0_in hkb]
        simp [hlt, hx, hw, hkb, hyb, w0, w1, w2, w3, w4, q1, q2, q3, q6, ho, e1, e2, e3]
      · have hyb : y = 0 := by rw [← hy, at0_out hkb]
        have q4 : (x : Int) - br < 0 := by omega
        have q5 : (x : Int) - br + 4294967296 = (d : Int) := by omega
        have w5 : IntKind.i64.wrap ((x : Int) - br + 4294967296) = (d : Int) := by rw [wrap_i64] <;> omega
        simp [hlt, hx, hw, hkb, w0, w1, w5, q4, q5, q3, q6, ho, e1, e2, e3]
    · obtain ⟨d, hd⟩ : ∃ d, d = x - y - br := ⟨_, rfl⟩
      obtain ⟨out', b2, h0, h1⟩ := next d 0 (by omega) (by omega) (by omega)
      refine ⟨out', b2, ?_, h1⟩
      rw [Int.natCast_zero] at h0
      rw [← h0]
      have q1 : ¬ (x : Int) - br - y < 0 := by omega
      have q2 : (x : Int) - br - y = (d : Int) := by omega
      have q3 := u32_nat (k := d) (by omega)
      by_cases hkb : k < b.length
      · have hyb : b[k] = y := by rw [← hy, at0_in hkb]
        rw [q2] at w3 q1
        simp [hlt, hx, hw, hkb, hyb, w0, w1, w2, q2, w3, q3, ho, e1, e2, e3]
      · have hyb : y = 0 := by rw [← hy, at0_out hkb]
        have q5 : (x : Int) - br = (d : Int) := by omega
        rw [q5] at w1
        simp [hlt, hx, hw, hkb, w0, q5, w1, q3, ho, e1, e2, e3]
theorem c_rSub (a b : List Nat) (ha : Fit a) (hb : Fit b) : Cinf T n_thicketref01_Sub [.ro 1 (ul a), .ro 1 (ul b)] = some (subR (val a) (val b), [.dead, .dead]) := by
  have t1 := c_rNorm a ha
  have t2 := c_rNorm b hb
  have hc := c_rCmp a b ha hb
  rw [run_thicketref01_Sub]
  unfold subR
  by_cases h : val a < val b
  · rw [cmp_lt h] at hc
    rw [if_pos h]
    simp [Run, hc]
  · have hcn : ¬ cmpN (val a) (val b) < 0 := by
      unfold cmpN
      rw [if_neg h]
      split <;> decide
    rw [if_neg h]
    obtain ⟨out, br, h0, h1, h2, h3, h4⟩ := rsub_loop (limbs (val a)) (limbs (val b)) ha.limbs hb.limbs (limbs (val a)).length 0 0 [] rfl (Nat.zero_le _) (by omega) Lim.nil rfl (by simp [val])
    rw [List.take_of_length_le (limbs_mono (by omega)), val_limbs, val_limbs] at h4
    have hlt := val_lt h1
    rw [h2] at hlt
    have hbr : br = 0 := by
      rcases Nat.lt_or_ge 0 br with h5 | h5
      · have : br = 1 := by omega
        rw [this] at h4
        omega
      · omega
    rw [hbr] at h4
    have t3 := c_rNorm out ⟨h1, by have := ha.limbs.2; omega⟩
    rw [show val out = val a - val b by omega] at t3
    simp only [ul_nil, Int.natCast_zero] at h0
    simp [Run, t1, t2, hc, eq_false hcn, h0, t3]
end Go.AM.F

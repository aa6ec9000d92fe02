import Derived.Test.YtbghahcgjnlnlaaT5
namespace Go.AM.F
open Go Go.AM
set_option maxRecDepth 10000

theorem pos_nonneg : ∀ l : List Int, 0 ≤ pos l
  | [] => Int.le_refl _
  | v :: r => by
    have := pos_nonneg r
    simp only [pos]
    split <;> omega
theorem neg_nonneg : ∀ l : List Int, 0 ≤ neg l
  | [] => Int.le_refl _
  | v :: r => by
    have := neg_nonneg r
    simp only [neg]
    split <;> omega
theorem ref_k6 (a b c d : Int) (a1 : 0 ≤ a) (a2 : a < 18446744073709551616) (b1 : 0 ≤ b) (b2 : b < 18446744073709551616) (c1 : 0 ≤ c) (c2 : c < 18446744073709551616) (d1 : 0 ≤ d) (d2 : d < 18446744073709551616) :
    Exec T j6_thicketref04_Sum [(4, .box [.v (.int .u64 a), .v (.int .u64 b)]), (5, .box [.v (.int .u64 c), .v (.int .u64 d)])] =
      saysTwo (decide (In64 (c * 18446744073709551616 + a - (d * 18446744073709551616 + b)))) (c * 18446744073709551616 + a - (d * 18446744073709551616 + b)) := by
  by_cases h1 : c < d
  · have := ref_k5 b a d c true b1 b2 a1 a2 d1 d2 c1 c2 (by omega) (by omega)
    simp only [if_true, Int.neg_sub] at this
    simp [j6_thicketref04_Sum, h1, this]
  · by_cases h2 : d = c
    · by_cases h3 : a < b
      · have := ref_k5 b a d c true b1 b2 a1 a2 d1 d2 c1 c2 (by omega) (by omega)
        subst h2
        simp only [if_true, Int.neg_sub] at this
        simp [j6_thicketref04_Sum, h3, this]
      · have := ref_k5 a b c d false a1 a2 b1 b2 c1 c2 d1 d2 (by omega) (by simp)
        subst h2
        simp [j6_thicketref04_Sum, h3, this]
    · have := ref_k5 a b c d false a1 a2 b1 b2 c1 c2 d1 d2 (by omega) (by simp)
      simp [j6_thicketref04_Sum, h1, h2, this]
theorem c_ref_Sum (l : List Int) (hl : l.length < 4611686018427387904) (hv : ∀ v ∈ l, In64 v) : Cinf T n_thicketref04_Sum [i64s l] = some (sumSays l, [.dead]) := by
  obtain ⟨a, b, c, d, k0, k1, k2, k3, k4, k5, k6, k7, k8, k9, k10⟩ := ref_loop l hl hv l.length 0 0 0 0 0 rfl (Nat.zero_le _) (by omega) (by omega) (by omega) (by omega) (by omega) (by omega) (by omega) (by omega)
  have h := ref_k6 a b c d k1 k2 k3 k4 k5 (by omega) k7 (by omega)
  simp only [List.drop_zero] at k9 k10
  have e : c * 18446744073709551616 + a - (d * 18446744073709551616 + b) = pos l - neg l := by omega
  rw [e] at h
  simp only [i64s, Int.natCast_zero] at k0
  simp only [saysTwo, sumSays] at h ⊢
  by_cases hin : In64 (pos l - neg l) <;> simp only [hin, decide_true, decide_false, if_true, if_false] at h ⊢ <;> simp [run_thicketref04_Sum, Run, a_thicketref04_Sum, b_thicketref04_Sum, i64s, k0, h]
theorem c_fixed_Add (a b : Int) (ha : In64 a) (hb : In64 b) : Cinf T n_fixed_Add [.v (.int .i64 a), .v (.int .i64 b)] = some (sumSays [a, b], [.dead, .dead]) := by
  have h := c_fixed_Sum' [a, b] (by simp) (by simp [ha, hb])
  simp only [i64s, List.map_cons, List.map_nil, sumSays] at h ⊢
  by_cases hin : In64 (pos [a, b] - neg [a, b])
  · rw [if_pos hin] at h ⊢
    simp [run_fixed_Add, Run, a_fixed_Add, b_fixed_Add, h]
  · rw [if_neg hin] at h ⊢
    simp [run_fixed_Add, Run, a_fixed_Add, b_fixed_Add, h]
theorem same_loop (l : List Int) (hl : l.length < 4611686018427387904) : ∀ (n k : Nat), l.length - k = n → k ≤ l.length →
    Exec T l0_thicketlaw04_same [(0, i64s l), (1, i64s l), (5, .v (.int .i64 k))] = some (.exit 0, [(0, i64s l), (1, i64s l), (5, .v (.int .i64 l.length))]) := by
  intro n
  induction n with
  | zero =>
    intro k hn hk
    obtain rfl : k = l.length := by omega
    rw [ex0_thicketlaw04_same]
    simp [i64s, w0_thicketlaw04_same]
  | succ n ih =>
    intro k hn hk
    have hlt : k < l.length := by omega
    have hkw : IntKind.i64.wrap ((k : Int) + 1) = (k : Int) + 1 := by rw [wrap_i64] <;> omega
    have k0 := ih (k + 1) (by omega) (by omega)
    have hks : ((k + 1 : Nat) : Int) = (k : Int) + 1 := Int.natCast_succ k
    rw [ex0_thicketlaw04_same]
    simp only [i64s, hks] at k0 ⊢
    simp [w0_thicketlaw04_same, hlt, hkw, k0, j0_thicketlaw04_same, j1_thicketlaw04_same]
theorem c_same (l : List Int) (hl : l.length < 4611686018427387904) : Cinf T n_thicketlaw04_same [i64s l, i64s l] = some (.v (.bool true), [.dead, .dead]) := by
  have h := same_loop l hl l.length 0 rfl (Nat.zero_le _)
  simp only [i64s, Int.natCast_zero] at h
  simp [run_thicketlaw04_same, Run, a_thicketlaw04_same, b_thicketlaw04_same, j2_thicketlaw04_same, j3_thicketlaw04_same, i64s, h]
/-- The law. -/
theorem c_law (l : List Int) (a b : Int) (hl : l.length < 1048577) (hv : ∀ v ∈ l, In64 v) (ha : In64 a) (hb : In64 b) : Cinf T n_thicketlaw04_FixedSums [i64s l, .v (.int .i64 a), .v (.int .i64 b)] = some (.v (.bool true), [.dead, .dead, .dead]) := by
  have h1 := c_fixed_Sum' l (by omega) hv
  have h2 := c_ref_Sum l (by omega) hv
  have h3 := c_fixed_Add a b ha hb
  have h4 := c_ref_Sum [a, b] (by simp) (by simp [ha, hb])
  have h5 := c_same l (by omega)
  have him : PV.immL (l.map fun v => .v (.int .i64 v)) = true := by
    clear h1 h2 h5 hl hv
    induction l with
    | nil => rfl
    | cons x r ih => simp [ih]
  simp only [i64s, List.map_cons, List.map_nil, sumSays] at h1 h2 h3 h4 h5 ⊢
  have e1 : l.length * 8 ≤ 140737488355328 := by omega
  have e2 : l.length ≤ 4611686018427387904 := by omega
  by_cases q1 : In64 (pos l - neg l) <;> by_cases q2 : In64 (pos [a, b] - neg [a, b]) <;> simp only [q1, q2, if_true, if_false] at h1 h2 h3 h4 <;>
    simp [run_thicketlaw04_FixedSums, Run, a_thicketlaw04_FixedSums, b_thicketlaw04_FixedSums, h1, h2, h3, h4, h5, e1, e2]
end Go.AM.F

import Derived.Test.YtbghahcgjnlnlaaT4
namespace Go.AM.F
open Go Go.AM
set_option maxRecDepth 10000

def saysTwo (t : Bool) (v : Int) : Option (Out × Env) := some (.ret, [(2, .v (.int .i64 (if t then v else 0))), (3, .v (.int .i64 (if t then 0 else 41)))])
theorem ref_k4 (a b d : Int) (ng : Bool) : Exec T j4_thicketref04_Sum [(4, .box [.v (.int .u64 a), .v (.int .u64 b)]), (9, .v (.bool ng)), (10, .v (.int .u64 d))] =
    if ng = true ∧ IntKind.u64.wrap (a - b) ≤ 9223372036854775808 then saysTwo (decide (d = 0)) (IntKind.i64.wrap (0 - IntKind.i64.wrap (IntKind.u64.wrap (a - b))))
    else saysTwo (decide (d = 0 ∧ IntKind.u64.wrap (a - b) < 9223372036854775808)) (IntKind.i64.wrap (IntKind.u64.wrap (a - b))) := by
  generalize hv : IntKind.u64.wrap (a - b) = v
  have hs := c_signed ng v
  by_cases h1 : ng = true ∧ v ≤ 9223372036854775808
  · rw [if_pos h1]
    obtain ⟨rfl, h1⟩ := h1
    rw [if_pos (by simp [h1])] at hs
    by_cases h0 : d = 0 <;> simp [j4_thicketref04_Sum, j3_thicketref04_Sum, hv, hs, h0, saysTwo]
  · rw [if_neg h1]
    rw [if_neg (by simpa using h1)] at hs
    by_cases h0 : d = 0 <;> by_cases h2 : v < 9223372036854775808 <;> simp [j4_thicketref04_Sum, j3_thicketref04_Sum, hv, hs, h0, h2, saysTwo]
theorem ref_k5 (a b c d : Int) (ng : Bool) (a1 : 0 ≤ a) (a2 : a < 18446744073709551616) (b1 : 0 ≤ b) (b2 : b < 18446744073709551616) (c1 : 0 ≤ c) (c2 : c < 18446744073709551616) (d1 : 0 ≤ d) (d2 : d < 18446744073709551616)
    (hD : d * 18446744073709551616 + b ≤ c * 18446744073709551616 + a) (hng : ng = true → d * 18446744073709551616 + b < c * 18446744073709551616 + a) :
    Exec T j5_thicketref04_Sum [(4, .box [.v (.int .u64 a), .v (.int .u64 b)]), (5, .box [.v (.int .u64 c), .v (.int .u64 d)]), (9, .v (.bool ng))] =
      saysTwo (decide (In64 (if ng then -(c * 18446744073709551616 + a - (d * 18446744073709551616 + b)) else c * 18446744073709551616 + a - (d * 18446744073709551616 + b)))) (if ng then -(c * 18446744073709551616 + a - (d * 18446744073709551616 + b)) else c * 18446744073709551616 + a - (d * 18446744073709551616 + b)) := by
  have e1 : IntKind.u64.wrap (c - d) = c - d := wrap_u64 (by omega) (by omega)
  -- what is left behind the second word
  have fin : ∀ x : Int, x = (if a < b then c - d - 1 else c - d) → Exec T j4_thicketref04_Sum [(4, .box [.v (.int .u64 a), .v (.int .u64 b)]), (9, .v (.bool ng)), (10, .v (.int .u64 x))] =
      saysTwo (decide (In64 (if ng then -(c * 18446744073709551616 + a - (d * 18446744073709551616 + b)) else c * 18446744073709551616 + a - (d * 18446744073709551616 + b)))) (if ng then -(c * 18446744073709551616 + a - (d * 18446744073709551616 + b)) else c * 18446744073709551616 + a - (d * 18446744073709551616 + b)) := by
    intro x hx
    rw [ref_k4]
    have hw : IntKind.u64.wrap (a - b) = if a < b then a - b + 18446744073709551616 else a - b := by
      split
      · exact wrap_u64_neg (by omega) (by omega)
      · exact wrap_u64 (by omega) (by omega)
    generalize IntKind.u64.wrap (a - b) = v at hw
    have hv1 : 0 ≤ v ∧ v < 18446744073709551616 := by split at hw <;> omega
    have hD' : c * 18446744073709551616 + a - (d * 18446744073709551616 + b) = x * 18446744073709551616 + v := by split at hw <;> simp_all <;> omega
    rw [hD'] 
    have hx0 : 0 ≤ x := by omega
    generalize hg : x * 18446744073709551616 + v = D
    cases ng with
    | true =>
      have hpos : 0 < D := by have := hng rfl; omega
      simp only [true_and, if_true]
      by_cases hv2 : v ≤ 9223372036854775808
      · rw [if_pos hv2]
        by_cases h0 : x = 0
        · have hDv : D = v := by omega
          rw [hDv]
          have hin : In64 (-v) := by unfold In64; omega
          rw [decide_eq_true h0, decide_eq_true hin]
          congr 1
          by_cases h8 : v = 9223372036854775808
          · subst h8; rfl
          · rw [wrap_i64 (v := v) (by omega) (by omega), wrap_i64 (by omega) (by omega)]
            omega
        · have hin : ¬ In64 (-D) := by unfold In64; omega
          simp [h0, hin, saysTwo]
      · rw [if_neg hv2]
        have hin : ¬ In64 (-D) := by unfold In64; omega
        have : ¬ v < 9223372036854775808 := by omega
        simp [hin, this, saysTwo]
    | false =>
      simp only [Bool.false_eq_true, false_and, if_false]
      by_cases h0 : x = 0 ∧ v < 9223372036854775808
      · have hDv : D = v := by omega
        rw [hDv]
        have hin : In64 v := by unfold In64; omega
        rw [decide_eq_true h0, decide_eq_true hin, wrap_i64 (by omega) (by omega)]
      · have hin : ¬ In64 D := by unfold In64; omega
        rw [decide_eq_false h0, decide_eq_false hin]
        rfl
  by_cases hab : a < b
  · have e2 : IntKind.u64.wrap (c - d - 1) = c - d - 1 := wrap_u64 (by omega) (by omega)
    have := fin (c - d - 1) (by rw [if_pos hab])
    simp [j5_thicketref04_Sum, e1, e2, hab, this]
  · have := fin (c - d) (by rw [if_neg hab])
    simp [j5_thicketref04_Sum, e1, hab, this]
end Go.AM.F

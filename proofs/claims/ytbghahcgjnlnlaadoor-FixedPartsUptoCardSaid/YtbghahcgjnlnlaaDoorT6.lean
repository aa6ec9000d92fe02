import Derived.Test.YtbghahcgjnlnlaaDoorT5
namespace Go.AM.F
open Go Go.AM
set_option maxRecDepth 10000

theorem pos_nonneg : ∀ l : List Int, 0 ≤ pos l
  | [] => Int.le_refl _
  | v :: r => by
    have := pos_nonneg r
    simp only [pos]
    split <;> omega
theorem neg_nonneg : ∀ l : List Int, 0 ≤ neg l
  | [] => Int.le_refl _
  | v :: r => by
    have := neg_nonneg r
    simp only [neg]
    split <;> omega
theorem c_fixed_Add (a b : Int) (ha : In64 a) (hb : In64 b) : Cinf T n_fixed_Add [.v (.int .i64 a), .v (.int .i64 b)] = some (sumSays [a, b], [.dead, .dead]) := by
  have h := c_fixed_Sum' [a, b] (by simp) (by simp [ha, hb])
  simp only [i64s, List.map_cons, List.map_nil, sumSays] at h ⊢
  by_cases hin : In64 (pos [a, b] - neg [a, b])
  · rw [if_pos hin] at h ⊢
    simp [run_fixed_Add, Run, a_fixed_Add, b_fixed_Add, h]
  · rw [if_neg hin] at h ⊢
    simp [run_fixed_Add, Run, a_fixed_Add, b_fixed_Add, h]
end Go.AM.F

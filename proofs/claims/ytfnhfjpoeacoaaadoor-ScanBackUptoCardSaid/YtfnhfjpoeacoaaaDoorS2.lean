/- The document's lines; lists of lines held against each other. No conditions. -/
import Derived.Test.YtfnhfjpoeacoaaaDoorS1
import Derived.Test.YtfnhfjpoeacoaaaDoorS0
namespace Go.AM.F
open Go Go.AM
set_option maxRecDepth 10000
set_option linter.unusedSimpArgs false

theorem rowsFrom_fuel (s : ByteArray) : ∀ (f g k c : Nat), s.size ≤ k + f → s.size ≤ k + g → rowsFrom s f k c = rowsFrom s g k c
  | 0, 0, _, _, _, _ => rfl
  | 0, g + 1, k, c, h, _ => by simp [rowsFrom, show ¬ k < s.size by omega]
  | f + 1, 0, k, c, _, h => by simp [rowsFrom, show ¬ k < s.size by omega]
  | f + 1, g + 1, k, c, h1, h2 => by
    simp only [rowsFrom]
    split
    · rename_i hk
      have he := rowEnd_le s k (by omega)
      have hn := rowNext_le s (rowEnd s k)
      rw [rowsFrom_fuel s f g _ _ (by omega) (by omega)]
    · rfl
def lastRow (s : ByteArray) (k c : Nat) : List PV := if k < s.size then [row (c + 1) k (s.extract k s.size)] else []
/-! ### Lists of lines held against each other -/
structure RowV where
  n : Nat
  at_ : Nat
  t : ByteArray
def RowV.pv (r : RowV) : PV := row r.n r.at_ r.t
theorem rowsFrom_pv (s : ByteArray) : ∀ (f k c : Nat), ∃ l : List RowV, rowsFrom s f k c = l.map RowV.pv ∧ (k ≤ s.size + 1 → l.length + k ≤ s.size + 1)
  | 0, k, c => ⟨[], rfl, fun h => by simpa using h⟩
  | f + 1, k, c => by
    by_cases h : k < s.size
    · obtain ⟨l, h1, h2⟩ := rowsFrom_pv s f (rowNext s (rowEnd s k)) (c + 1)
      refine ⟨⟨c + 1, k, s.extract k (rowEnd s k)⟩ :: l, by simp only [rowsFrom, if_pos h, h1]; rfl, fun _ => ?_⟩
      have he := rowEnd_le s k (by omega)
      have hn := rowNext_le s (rowEnd s k)
      have : rowNext s (rowEnd s k) ≤ s.size + 1 := by
        by_cases h : rowEnd s k < s.size
        · have := hn.2.1 h; omega
        · unfold rowNext; rw [if_neg (by omega)]; omega
      have := h2 this
      simp only [List.length_cons]
      omega
    · exact ⟨[], by simp [rowsFrom, h], fun h => by simpa using h⟩
end Go.AM.F

/- Every Norm, From, Small, Cmp, Len, Bit. No conditions. -/
import Derived.Test.YtfkgoofipbbhpaaDoorL12
import Derived.Test.YtfkgoofipbbhpaaDoorL15
namespace Go.AM.F
open Go Go.AM
set_option maxRecDepth 10000
set_option linter.unusedSimpArgs false
attribute [local simp] b_thicketlaw01_LimbsForms a_thicketlaw01_LimbsForms

theorem c_LimbsForms (a b : List Nat) (n : Nat) (k : Int) (ha : Lim a) (hb : Lim b) (la : a.length ≤ 16777216) (lb : b.length ≤ 16777216) (hn : n < 18446744073709551616) (_ : -9223372036854775808 ≤ k) (hk : k < 9223372036854775808) :
    ∃ backs, Cinf T n_thicketlaw01_LimbsForms [.ro 1 (ul a), .ro 1 (ul b), .v (.int .u64 n), .v (.int .i64 k)] = some (.v (.bool true), backs) := by
  have fa : Fit a := ⟨ha, by omega⟩
  have fb : Fit b := ⟨hb, by omega⟩
  have h1 := c_Small a fa
  have h2 := c_rSmall a fa
  have h3 := c_Norm a fa
  have h4 := c_rNorm a fa
  have h5 := c_From n hn
  have h6 := c_rFrom n hn
  have h7 := c_Cmp a b fa fb
  have h8 := c_rCmp a b fa fb
  have h9 := c_Len a fa
  have h10 := c_rLen a fa
  have h11 := c_Bit a fa k hk
  have h12 := c_rBit a fa k hk
  have s1 := c_Same (limbs (val a)) (by have := limbs_len ha; omega)
  have s2 := c_Same (limbs n) (by have := limbs_len_le (n := n) (k := 2) (by omega); omega)
  rw [run_thicketlaw01_LimbsForms]
  unfold smallR at h1 h2
  by_cases h : (limbs (val a)).length ≤ 2
  · rw [if_pos h] at h1 h2
    exact ⟨_, by simp [Run, c_lives, h1, h2, h3, h4, h5, h6, h7, h8, h9, h10, h11, h12, s1, s2]; rfl⟩
  · rw [if_neg h] at h1 h2
    exact ⟨_, by simp [Run, c_lives, h1, h2, h3, h4, h5, h6, h7, h8, h9, h10, h11, h12, s1, s2]; rfl⟩
end Go.AM.F

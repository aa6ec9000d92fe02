/- Long division: what the guess of a limb is good for, in plain numbers. No conditions. -/
import Derived.Test.YtlokekpiajholaaDoorL15
namespace Go.AM.F
open Go Go.AM
set_option maxRecDepth 10000

/-- The numbers of one step: V = (top B + next) N + vl, U = (head B + u2) N + ul. -/
structure Stp (N top next vl head u2 ul U V : Nat) : Prop where
  hV : V = (top * 4294967296 + next) * N + vl
  hU : U = (head * 4294967296 + u2) * N + ul
  vl : vl < N
  ul : ul < N
  nx : next < 4294967296
  u2 : u2 < 4294967296
  tp : 2147483648 ≤ top
  tl : top < 4294967296
  lt : U < 4294967296 * V
theorem Stp.head_lt {N top next vl head u2 ul U V : Nat} (h : Stp N top next vl head u2 ul U V) : head < (top + 1) * 4294967296 := by
  have h1 : (head * 4294967296) * N ≤ U := by rw [h.hU]; exact Nat.le_trans (Nat.mul_le_mul_right _ (Nat.le_add_right _ _)) (Nat.le_add_right _ _)
  have h2 : V < (top * 4294967296 + next + 1) * N := by rw [h.hV, Nat.add_mul _ 1]; have := h.vl; omega
  have h4 : (head * 4294967296) * N < (4294967296 * (top * 4294967296 + next + 1)) * N := by
    rw [Nat.mul_assoc 4294967296]
    have := h.lt
    omega
  have h5 := Nat.lt_of_mul_lt_mul_right h4
  have := h.nx
  omega
/-- A guess that is seen to be too great. -/
theorem Stp.too {N top next vl head u2 ul U V : Nat} (h : Stp N top next vl head u2 ul U V) {g r : Nat} (hg : g * top + r = head) (_ : U / V ≤ g) (ht : r * 4294967296 + u2 < g * next) : U / V ≤ g - 1 ∧ 0 < g := by
  have hVp : 0 < V := by
    rcases Nat.eq_zero_or_pos V with h0 | h0
    · have := h.lt; rw [h0] at this; omega
    · exact h0
  have hgp : 0 < g := by
    rcases Nat.eq_zero_or_pos g with h0 | h0
    · rw [h0] at ht; omega
    · exact h0
  refine ⟨?_, hgp⟩
  rcases Nat.lt_or_ge (U / V) g with h1 | h1
  · omega
  · exfalso
    have h2 : g * V ≤ U := by rw [← Nat.le_div_iff_mul_le hVp]; exact h1
    have h3 : g * ((top * 4294967296 + next) * N) ≤ g * V := by rw [h.hV]; exact Nat.mul_le_mul_left _ (Nat.le_add_right _ _)
    have h4 : U < (head * 4294967296 + u2 + 1) * N := by rw [h.hU, Nat.add_mul _ 1]; have := h.ul; omega
    have h5 : (g * (top * 4294967296 + next)) * N < (head * 4294967296 + u2 + 1) * N := by rw [Nat.mul_assoc]; omega
    have h6 := Nat.lt_of_mul_lt_mul_right h5
    rw [Nat.mul_add, ← Nat.mul_assoc, ← hg, Nat.add_mul] at h6
    omega
/-- A guess that is not seen to be too great is no more than one too great. -/
theorem Stp.good {N top next vl head u2 ul U V : Nat} (h : Stp N top next vl head u2 ul U V) {g r : Nat} (hg : g * top + r = head) (hgl : g < 4294967296) (ht : 4294967296 ≤ r ∨ g * next ≤ r * 4294967296 + u2) : g ≤ U / V + 1 := by
  have hVp : 0 < V := by
    rcases Nat.eq_zero_or_pos V with h0 | h0
    · have := h.lt; rw [h0] at this; omega
    · exact h0
  have h1 : V ≤ (top * 4294967296 + next + 1) * N := by rw [h.hV, Nat.add_mul _ 1]; have := h.vl; omega
  have h2 : g * V ≤ (g * (top * 4294967296 + next + 1)) * N := by rw [Nat.mul_assoc]; exact Nat.mul_le_mul_left _ h1
  have h3 : (head * 4294967296 + u2) * N ≤ U := by rw [h.hU]; exact Nat.le_add_right _ _
  have h4 : 4294967296 * N ≤ V := by
    rw [h.hV]
    refine Nat.le_trans (Nat.mul_le_mul_right _ ?_) (Nat.le_add_right _ _)
    have := h.tp
    omega
  have h5 : g * V ≤ U + V := by
    rcases ht with ht | ht
    · have h6 : g * (top * 4294967296 + next + 1) ≤ head * 4294967296 + u2 := by
        have h7 : g * (next + 1) ≤ g * 4294967296 := Nat.mul_le_mul_left _ h.nx
        have h8 : g * (top * 4294967296 + next + 1) = g * top * 4294967296 + g * (next + 1) := by rw [Nat.add_assoc, Nat.mul_add, Nat.mul_assoc]
        rw [h8, ← hg, Nat.add_mul]
        omega
      have := Nat.mul_le_mul_right N h6
      omega
    · have h6 : g * (top * 4294967296 + next + 1) ≤ head * 4294967296 + u2 + 4294967296 := by
        have h8 : g * (top * 4294967296 + next + 1) = g * top * 4294967296 + g * next + g := by rw [Nat.mul_add, Nat.mul_add, Nat.mul_assoc, Nat.mul_one]
        rw [h8, ← hg, Nat.add_mul]
        omega
      have h7 := Nat.mul_le_mul_right N h6
      rw [Nat.add_mul] at h7
      omega
  rcases Nat.eq_zero_or_pos g with h0 | h0
  · rw [h0]; exact Nat.zero_le _
  · have h6 : (g - 1) * V ≤ U := by rw [Nat.sub_mul, Nat.one_mul]; omega
    have := (Nat.le_div_iff_mul_le hVp).2 h6
    omega
/-- The first guess. -/
theorem Stp.first {N top next vl head u2 ul U V : Nat} (h : Stp N top next vl head u2 ul U V) : U / V ≤ head / top := by
  have htp : 0 < top := by have := h.tp; omega
  have hVp : 0 < V := by
    rcases Nat.eq_zero_or_pos V with h0 | h0
    · have := h.lt; rw [h0] at this; omega
    · exact h0
  have hN : 0 < N := by have := h.vl; omega
  rw [Nat.le_div_iff_mul_le htp]
  have h1 : U / V * V ≤ U := Nat.div_mul_le_self _ _
  have h2 : (top * 4294967296) * N ≤ V := by rw [h.hV]; exact Nat.le_trans (Nat.mul_le_mul_right _ (Nat.le_add_right _ _)) (Nat.le_add_right _ _)
  have h3 : U < (head * 4294967296 + 4294967296) * N := by
    rw [h.hU]
    have h4 := h.ul
    have h5 : (head * 4294967296 + u2 + 1) * N ≤ (head * 4294967296 + 4294967296) * N := Nat.mul_le_mul_right _ (by have := h.u2; omega)
    rw [Nat.add_mul _ 1] at h5
    omega
  have h4 : U / V * ((top * 4294967296) * N) ≤ U / V * V := Nat.mul_le_mul_left _ h2
  have h5 : (U / V * (top * 4294967296)) * N < (head * 4294967296 + 4294967296) * N := by rw [Nat.mul_assoc]; omega
  have h6 := Nat.lt_of_mul_lt_mul_right h5
  rw [← Nat.mul_assoc] at h6
  omega
theorem Stp.pos {N top next vl head u2 ul U V : Nat} (h : Stp N top next vl head u2 ul U V) : 0 < V := by
  rcases Nat.eq_zero_or_pos V with h0 | h0
  · have := h.lt; rw [h0] at this; omega
  · exact h0
/-- The loop that sets the guess right, as numbers: what it ends with. -/
theorem Stp.quo_lt {N top next vl head u2 ul U V : Nat} (h : Stp N top next vl head u2 ul U V) : U / V < 4294967296 := by
  rw [Nat.div_lt_iff_lt_mul h.pos]
  exact h.lt
/-- What is left behind the subtraction, without and with a borrow. -/
theorem rest_fits {U V W g : Nat} (hV : 0 < V) (hg : U / V ≤ g) (hg2 : g ≤ U / V + 1) (h : W + g * V = U) : g = U / V ∧ W = U % V := by
  have h1 : g * V ≤ U := by omega
  have h2 := (Nat.le_div_iff_mul_le hV).2 h1
  have h3 : g = U / V := by omega
  refine ⟨h3, ?_⟩
  have := Nat.div_add_mod U V
  rw [h3] at h
  rw [Nat.mul_comm V] at this
  omega
theorem rest_back {U V W g M : Nat} (hV : 0 < V) (hg2 : g ≤ U / V + 1) (_ : W < M) (h : W + g * V = U + M) : g = U / V + 1 ∧ W + V = U % V + M := by
  have h1 : U < g * V := by omega
  have h2 : U / V < g := by rw [Nat.div_lt_iff_lt_mul hV]; exact h1
  have h3 : g = U / V + 1 := by omega
  refine ⟨h3, ?_⟩
  have := Nat.div_add_mod U V
  rw [h3, Nat.add_mul, Nat.one_mul] at h
  rw [Nat.mul_comm V] at this
  omega
end Go.AM.F

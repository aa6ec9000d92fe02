/- Differences of naturals. No conditions. -/
import Derived.Test.YtlokekpiajholaaDoorL7
namespace Go.AM.F
open Go Go.AM
set_option maxRecDepth 10000
set_option linter.unusedSimpArgs false
theorem take_set_succ {l : List Nat} {k x : Nat} (h : k < l.length) : (l.set k x).take (k + 1) = l.take k ++ [x] := by
  rw [List.take_succ_eq_append_getElem (by simpa using h), List.take_set]
  rw [List.set_eq_of_length_le (by simp; omega)]
  simp
theorem drop_set_succ {l : List Nat} {k x : Nat} : (l.set k x).drop (k + 1) = l.drop (k + 1) := by
  rw [List.drop_set_of_lt (by omega)]
theorem Lim.set {l : List Nat} (h : Lim l) {k x : Nat} (hx : x < 4294967296) : Lim (l.set k x) := fun y hy => (List.mem_or_eq_of_mem_set hy).elim (h y) fun e => e ▸ hx
theorem sub_step {A P Q k x y br d br' : Nat} (hv : A + 4294967296 ^ k * br = P + Q) (h : x + 4294967296 * br' = d + y + br) : A + 4294967296 ^ k * x + 4294967296 ^ (k + 1) * br' = (P + 4294967296 ^ k * d) + (Q + 4294967296 ^ k * y) := by
  have h1 : 4294967296 ^ k * (x + 4294967296 * br') = 4294967296 ^ k * (d + y + br) := by rw [h]
  rw [Nat.mul_add, Nat.mul_add, Nat.mul_add] at h1
  rw [Nat.pow_succ, Nat.mul_assoc]
  omega
theorem Fit.limbs {l : List Nat} (h : Fit l) : Fit (limbs (val l)) := ⟨limbs_lim _, by have := limbs_len h.1; have := h.2; omega⟩
theorem limbs_mono {m n : Nat} (h : m ≤ n) : (limbs m).length ≤ (limbs n).length := by
  refine Nat.le_of_not_lt fun hlt => ?_
  have := limbs_lt hlt
  omega
def subR (m n : Nat) : PV := if m < n then .tup [.own 1 [], .v (.int .i64 12)] else .tup [.own 1 (ul (limbs (m - n))), .v (.int .i64 0)]
end Go.AM.F

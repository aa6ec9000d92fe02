/- Naturals without needless limbs. No conditions. -/
import Derived.Test.YtlokekpiajholaaDoorL1
namespace Go.AM.F
open Go Go.AM
set_option maxRecDepth 10000
set_option linter.unusedSimpArgs false
attribute [local simp] j0_limbs_trim w0_limbs_trim j1_limbs_trim b_limbs_trim a_limbs_trim b_limbs_Norm a_limbs_Norm
/-- Limbs that a machine can hold. -/
def Fit (l : List Nat) : Prop := Lim l ∧ l.length ≤ 1099511627776
theorem trim_loop (l : List Nat) (hl : l.length ≤ 2305843009213693952) (x100 : PV) (x0 : PV) (hx : (x0 = .ro 1 (ul l)) ∨ (x0 = .ref 100000 [] ∧ x100 = .own 1 (ul l))) : ∀ (k : Nat), k ≤ l.length → (∀ x ∈ l.drop k, x = 0) →
    Exec T l0_limbs_trim [(0, x0), (3, .v (.int .i64 k)), (100000, x100)] = some (.exit 0, [(0, x0), (3, .v (.int .i64 (nlen l : Nat))), (100000, x100)]) := by
  intro k
  induction k with
  | zero =>
    intro hk hz
    rw [ex0_limbs_trim, nlen_none hz]
    rcases hx with rfl | ⟨rfl, rfl⟩ <;> simp
  | succ k ih =>
    intro hk hz
    have hlt : k < l.length := by omega
    have hw := wrap_nat (k := k) (by omega)
    obtain ⟨x, hx0⟩ : ∃ x, l[k] = x := ⟨_, rfl⟩
    rw [ex0_limbs_trim]
    by_cases h0 : x = 0
    · have h1 := ih (by omega) (nlen_step hlt hz (by rw [hx0, h0]))
      rcases hx with rfl | ⟨rfl, rfl⟩ <;> simp [succ_cast, hlt, hx0, h0, hw, h1]
    · have hn := nlen_at hlt hz (by rw [hx0]; exact h0)
      rw [hn]
      rcases hx with rfl | ⟨rfl, rfl⟩ <;> simp [succ_cast, hlt, hx0, h0, hw]
theorem c_trim (l : List Nat) (hl : l.length ≤ 1099511627776) : Cinf T n_limbs_trim [.ro 1 (ul l)] = some (.ro 1 (ul (l.take (nlen l))), [.dead]) := by
  have h0 := trim_loop l (by omega) .dead (.ro 1 (ul l)) (.inl rfl) l.length (Nat.le_refl _) (by simp)
  have hn := nlen_le l
  rw [run_limbs_trim]
  simp [Run, h0, hn, ul_take]
theorem c_trimO (l : List Nat) (hl : l.length ≤ 2305843009213693952) : Cinf T n_limbs_trim [.own 1 (ul l)] = some (.own 1 (ul (l.take (nlen l))), [.dead]) := by
  have h0 := trim_loop l hl (.own 1 (ul l)) (.ref 100000 []) (.inr ⟨rfl, rfl⟩) l.length (Nat.le_refl _) (by simp)
  have hn := nlen_le l
  rw [run_limbs_trim]
  simp [Run, home, h0, hn, ul_take]
theorem c_Norm (l : List Nat) (h : Fit l) : Cinf T n_limbs_Norm [.ro 1 (ul l)] = some (.own 1 (ul (limbs (val l))), [.dead]) := by
  have h0 := c_trim l h.2
  have hn := nlen_le l
  have hlen : (l.take (nlen l)).length = nlen l := by simp; omega
  have hl := h.2
  rw [← limbs_val h.1] at h0 hlen
  have e1 : (limbs (val l)).length ≤ 35184372088832 := by omega
  have e2 : (limbs (val l)).length ≤ 4611686018427387904 := by omega
  have e3 : (limbs (val l)).length * 4 ≤ 140737488355328 := by omega
  rw [run_limbs_Norm]
  simp [Run, h0, e1, e2, e3]
end Go.AM.F

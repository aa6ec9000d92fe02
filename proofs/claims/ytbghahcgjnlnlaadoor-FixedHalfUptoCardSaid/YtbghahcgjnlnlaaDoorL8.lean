/- Differences of naturals. No conditions. -/
import Derived.Test.YtbghahcgjnlnlaaDoorL7
namespace Go.AM.F
open Go Go.AM
set_option maxRecDepth 10000
set_option linter.unusedSimpArgs false
attribute [local simp] j0_limbs_sub j1_limbs_sub j2_limbs_sub w0_limbs_sub j3_limbs_sub b_limbs_sub a_limbs_sub
theorem take_set_succ {l : List Nat} {k x : Nat} (h : k < l.length) : (l.set k x).take (k + 1) = l.take k ++ [x] := by
  rw [List.take_succ_eq_append_getElem (by simpa using h), List.take_set]
  rw [List.set_eq_of_length_le (by simp; omega)]
  simp
theorem drop_set_succ {l : List Nat} {k x : Nat} : (l.set k x).drop (k + 1) = l.drop (k + 1) := by
  rw [List.drop_set_of_lt (by omega)]
theorem Lim.set {l : List Nat} (h : Lim l) {k x : Nat} (hx : x < 4294967296) : Lim (l.set k x) := fun y hy => (List.mem_or_eq_of_mem_set hy).elim (h y) fun e => e ▸ hx
theorem sub_step {A P Q k x y br d br' : Nat} (hv : A + 4294967296 ^ k * br = P + Q) (h : x + 4294967296 * br' = d + y + br) : A + 4294967296 ^ k * x + 4294967296 ^ (k + 1) * br' = (P + 4294967296 ^ k * d) + (Q + 4294967296 ^ k * y) := by
  have h1 : 4294967296 ^ k * (x + 4294967296 * br') = 4294967296 ^ k * (d + y + br) := by rw [h]
  rw [Nat.mul_add, Nat.mul_add, Nat.mul_add] at h1
  rw [Nat.pow_succ, Nat.mul_assoc]
  omega
theorem sub_loop (a b : List Nat) (ha : Fit a) (hb : Fit b) : ∀ (n k br : Nat) (o : List Nat), a.length - k = n → k ≤ a.length → br ≤ 1 → Lim o → o.length = a.length → o.drop k = a.drop k → val (a.take k) + 4294967296 ^ k * br = val (o.take k) + val (b.take k) →
    ∃ (o' : List Nat) (br' : Nat), Exec T l0_limbs_sub [(1, .ro 1 (ul b)), (5, .own 1 (ul o)), (6, .v (.int .u32 br)), (10, .dead), (12, .v (.int .i64 a.length)), (13, .v (.int .i64 k))] =
      some (.exit 0, [(1, .ro 1 (ul b)), (5, .own 1 (ul o')), (6, .v (.int .u32 br')), (10, .dead), (12, .v (.int .i64 a.length)), (13, .v (.int .i64 a.length))]) ∧ Lim o' ∧ o'.length = a.length ∧ br' ≤ 1 ∧ val a + 4294967296 ^ a.length * br' = val o' + val (b.take a.length) := by
  intro n
  induction n with
  | zero =>
    intro k br o hn hk hbr hl ho hd hv
    obtain rfl : k = a.length := by omega
    refine ⟨o, br, ?_, hl, ho, hbr, ?_⟩
    · rw [ex0_limbs_sub]
      simp
    · rwa [List.take_of_length_le (Nat.le_refl _), List.take_of_length_le (Nat.le_of_eq ho)] at hv
  | succ n ih =>
    intro k br o hn hk hbr hl ho hd hv
    have hal := ha.2
    have hlt : k < a.length := by omega
    have hlo : k < o.length := by omega
    have hw := wrap_succ hlt (by omega)
    obtain ⟨x, hx⟩ : ∃ x, o[k] = x := ⟨_, rfl⟩
    have hxl := hl.get hlo
    rw [hx] at hxl
    have hxa : at0 a k = x := by
      have := congrArg List.head? hd
      rw [List.drop_eq_getElem_cons hlo, List.drop_eq_getElem_cons hlt] at this
      simp only [List.head?_cons, Option.some.injEq] at this
      rw [at0_in hlt, ← this, hx]
    obtain ⟨y, hy⟩ : ∃ y, at0 b k = y := ⟨_, rfl⟩
    have hyl := at0_lt hb.1 k
    rw [hy] at hyl
    have hc := c_Sub32 x y br hxl hyl hbr
    have hb2 : (if x < y + br then 1 else 0) ≤ 1 := by split <;> omega
    have hst : x + 4294967296 * (if x < y + br then 1 else 0) = (x + 8589934592 - y - br) % 4294967296 + y + br := by split <;> omega
    have hdl : (x + 8589934592 - y - br) % 4294967296 < 4294967296 := by omega
    generalize (if x < y + br then 1 else 0 : Nat) = br' at hc hb2 hst
    generalize (x + 8589934592 - y - br) % 4294967296 = d at hc hst hdl
    have hv2 : val (a.take (k + 1)) + 4294967296 ^ (k + 1) * br' = val ((o.set k d).take (k + 1)) + val (b.take (k + 1)) := by
      have h2 : (o.take k).length = k := by simp; omega
      rw [take_set_succ hlo, val_snoc, h2, val_take_succ a, val_take_succ b, hxa, hy]
      exact sub_step hv hst
    obtain ⟨o', b2, h0, h3, h4, h5, h6⟩ := ih (k + 1) br' (o.set k d) (by omega) (by omega) hb2 (hl.set hdl) (by simp [ho]) (by rw [drop_set_succ, ← List.drop_drop, hd, List.drop_drop]) hv2
    refine ⟨o', b2, ?_, h3, h4, h5, h6⟩
    rw [succ_cast] at h0
    rw [← h0, ex0_limbs_sub]
    by_cases hkb : k < b.length
    · have hyb : b[k] = y := by rw [← hy, at0_in hkb]
      simp [hlt, hlo, hx, hw, hkb, hyb, hc, ul_set]
    · have hyb : y = 0 := by rw [← hy, at0_out hkb]
      rw [hyb] at hc
      simp at hc
      simp [hlt, hlo, hx, hw, hkb, hc, ul_set]
theorem c_sub (a b : List Nat) (ha : Fit a) (hb : Fit b) (hab : b.length ≤ a.length) (hle : val b ≤ val a) : Cinf T n_limbs_sub [.ro 1 (ul a), .ro 1 (ul b)] = some (.own 1 (ul (limbs (val a - val b))), [.dead, .dead]) := by
  obtain ⟨o, br, h0, h1, h2, h3, h4⟩ := sub_loop a b ha hb a.length 0 0 a rfl (Nat.zero_le _) (by omega) ha.1 rfl rfl (by simp [val])
  rw [List.take_of_length_le hab] at h4
  have hlt := val_lt h1
  rw [h2] at hlt
  have hbr : br = 0 := by
    rcases Nat.lt_or_ge 0 br with h | h
    · have : br = 1 := by omega
      rw [this] at h4
      omega
    · omega
  rw [hbr] at h4
  simp only [Int.natCast_zero] at h0
  have hal := ha.2
  have t := c_trimO o (by omega)
  rw [← limbs_val h1, show val o = val a - val b by omega] at t
  have e1 : a.length ≤ 35184372088832 := by omega
  have e2 : a.length ≤ 4611686018427387904 := by omega
  have e3 : a.length * 4 ≤ 140737488355328 := by omega
  rw [run_limbs_sub]
  simp [Run, home, h0, t, e1, e2, e3]
theorem Fit.limbs {l : List Nat} (h : Fit l) : Fit (limbs (val l)) := ⟨limbs_lim _, by have := limbs_len h.1; have := h.2; omega⟩
theorem limbs_mono {m n : Nat} (h : m ≤ n) : (limbs m).length ≤ (limbs n).length := by
  refine Nat.le_of_not_lt fun hlt => ?_
  have := limbs_lt hlt
  omega
def subR (m n : Nat) : PV := if m < n then .tup [.own 1 [], .v (.int .i64 12)] else .tup [.own 1 (ul (limbs (m - n))), .v (.int .i64 0)]
end Go.AM.F

/- Naturals by a power of two. No conditions. -/
import Derived.Test.YtlokekpiajholaaDoorL17
namespace Go.AM.F
open Go Go.AM
set_option maxRecDepth 10000
set_option linter.unusedSimpArgs false
attribute [local simp] j0_limbs_down j1_limbs_down j2_limbs_down w0_limbs_down j3_limbs_down j4_limbs_down b_limbs_down a_limbs_down
/-- Limbs by a power of two that is less than a limb. -/
def downL (P : Nat) : List Nat → List Nat
  | [] => []
  | x :: r => (x + at0 r 0 * 4294967296) / P % 4294967296 :: downL P r
theorem downL_length (P : Nat) : ∀ l : List Nat, (downL P l).length = l.length
  | [] => rfl
  | _ :: r => by simp [downL, downL_length P r]
theorem downL_lim (P : Nat) : ∀ l : List Nat, Lim (downL P l)
  | [] => Lim.nil
  | x :: r => fun y hy => by
    rcases List.mem_cons.1 hy with rfl | hy
    · exact Nat.mod_lt _ (by decide)
    · exact downL_lim P r y hy
theorem at0_cons_zero (x : Nat) (r : List Nat) : at0 (x :: r) 0 = x := rfl
theorem at0_cons_succ (x : Nat) (r : List Nat) (k : Nat) : at0 (x :: r) (k + 1) = at0 r k := rfl
theorem downL_opt (P : Nat) (l : List Nat) : ∀ {k : Nat}, k < l.length → (downL P l)[k]? = some ((at0 l k + at0 l (k + 1) * 4294967296) / P % 4294967296) := by
  induction l with
  | nil => intro k h; simp at h
  | cons x r ih =>
    intro k h
    cases k with
    | zero => rw [at0_cons_zero, at0_cons_succ, downL, List.getElem?_cons_zero]
    | succ k =>
      have h1 := ih (k := k) (by simpa using h)
      rw [at0_cons_succ, at0_cons_succ, downL, List.getElem?_cons_succ, h1]
theorem downL_get (P : Nat) {l : List Nat} {k : Nat} (h : k < l.length) : (downL P l)[k]'(by rw [downL_length]; exact h) = (l[k] + at0 l (k + 1) * 4294967296) / P % 4294967296 := by
  have h1 := downL_opt P l h
  rw [List.getElem?_eq_getElem (by rw [downL_length]; exact h), at0_in h] at h1
  exact Option.some.inj h1
theorem down_step {x h t P Q : Nat} (hPQ : P * Q = 4294967296) (hx : x < 4294967296) : (x + h * 4294967296) / P % 4294967296 + 4294967296 * ((h + 4294967296 * t) / P) = (x + 4294967296 * (h + 4294967296 * t)) / P := by
  have hP : 0 < P := by
    rcases Nat.eq_zero_or_pos P with h0 | h0
    · rw [h0] at hPQ; omega
    · exact h0
  have e1 : (x + 4294967296 * (h + 4294967296 * t)) / P = x / P + Q * (h + 4294967296 * t) := by
    rw [← hPQ, show x + P * Q * (h + P * Q * t) = x + P * (Q * (h + P * Q * t)) by rw [Nat.mul_assoc], Nat.add_mul_div_left _ _ hP]
  have e2 : (x + h * 4294967296) / P = x / P + Q * h := by
    rw [← hPQ, show x + h * (P * Q) = x + P * (Q * h) by rw [Nat.mul_left_comm, Nat.mul_comm h Q], Nat.add_mul_div_left _ _ hP]
  have e3 : (h + 4294967296 * t) / P = h / P + Q * t := by
    rw [← hPQ, Nat.mul_assoc, Nat.add_mul_div_left _ _ hP]
  rw [e1, e2, e3]
  have e4 : h = P * (h / P) + h % P := (Nat.div_add_mod h P).symm
  have e5 : Q * h = 4294967296 * (h / P) + Q * (h % P) := by
    conv => lhs; rw [e4]
    rw [Nat.mul_add, ← hPQ, Nat.mul_left_comm, Nat.mul_assoc]
  have e6 : x / P + Q * (h % P) < 4294967296 := by
    have a1 : x / P < Q := Nat.div_lt_of_lt_mul (by rw [hPQ]; exact hx)
    have a2 : Q * (h % P + 1) ≤ Q * P := Nat.mul_le_mul_left _ (Nat.mod_lt _ hP)
    rw [Nat.mul_add, Nat.mul_comm Q P, hPQ] at a2
    omega
  have e7 : (x / P + Q * h) % 4294967296 = x / P + Q * (h % P) := by
    rw [e5, show x / P + (4294967296 * (h / P) + Q * (h % P)) = (x / P + Q * (h % P)) + 4294967296 * (h / P) by omega, Nat.add_mul_mod_self_left, Nat.mod_eq_of_lt e6]
  rw [e7, Nat.mul_add, Nat.mul_add, e5, ← Nat.mul_assoc, ← Nat.mul_assoc, Nat.mul_comm Q 4294967296]
  omega
theorem val_downL {P Q : Nat} (hPQ : P * Q = 4294967296) : ∀ {l : List Nat} (_ : Lim l), val (downL P l) = val l / P
  | [], _ => by simp [downL, val]
  | [x], h => by
    have := down_step (h := 0) (t := 0) hPQ h.head
    simp only [downL, val, at0]
    simpa using this
  | x :: y :: r, h => by
    have := val_downL hPQ h.tail
    simp only [downL, val] at this ⊢
    rw [this]
    exact down_step hPQ h.head
theorem val_drop {l : List Nat} (h : Lim l) (q : Nat) : val (l.drop q) = val l / 4294967296 ^ q := by
  by_cases hq : q ≤ l.length
  · have h1 : val l = val (l.take q) + 4294967296 ^ q * val (l.drop q) := by
      conv => lhs; rw [← List.take_append_drop q l]
      rw [val_append, List.length_take, Nat.min_eq_left hq]
    have h2 := val_lt (h.take q)
    rw [List.length_take, Nat.min_eq_left hq] at h2
    rw [h1, Nat.add_mul_div_left _ _ (Nat.pow_pos (by decide)), Nat.div_eq_of_lt h2, Nat.zero_add]
  · rw [List.drop_eq_nil_of_le (by omega), Nat.div_eq_of_lt]
    · rfl
    · exact Nat.lt_of_lt_of_le (val_lt h) (Nat.pow_le_pow_right (by decide) (by omega))
theorem pow_half {r : Nat} (h : r < 32) : 2 ^ r * 2 ^ (32 - r) = 4294967296 := by
  rw [← Nat.pow_add, show r + (32 - r) = 32 by omega]
theorem val_down {l : List Nat} (h : Lim l) (n : Nat) : val (downL (2 ^ (n % 32)) (l.drop (n / 32))) = val l / 2 ^ n := by
  rw [val_downL (pow_half (Nat.mod_lt _ (by decide))) (h.drop _), val_drop h, Nat.div_div_eq_div_mul, ← pow_split]
theorem down_loop (m l : List Nat) (h : Fit l) (n q r P : Nat) (hr : n % 32 = r) (hP : 2 ^ r = P) : ∀ (j k : Nat) (out : List Nat), l.length - k = j → k ≤ l.length → out.length = l.length → out.take k = (downL P l).take k →
    Exec T l0_limbs_down [(0, .ro 1 (ul l)), (1, .v (.int .i64 n)), (5, .own 1 (ul out)), (9, .ro 1 (ul m)), (15, .ro 1 (ul m)), (17, .v (.int .i64 q)), (18, .ro 1 (ul l)), (21, .dead), (23, .v (.int .i64 l.length)), (24, .v (.int .i64 k))] =
      some (.exit 0, [(0, .ro 1 (ul l)), (1, .v (.int .i64 n)), (5, .own 1 (ul (downL P l))), (9, .ro 1 (ul m)), (15, .ro 1 (ul m)), (17, .v (.int .i64 q)), (18, .ro 1 (ul l)), (21, .dead), (23, .v (.int .i64 l.length)), (24, .v (.int .i64 l.length))]) := by
  intro j
  induction j with
  | zero =>
    intro k out hn hk ho ht
    obtain rfl : k = l.length := by omega
    rw [List.take_of_length_le (by omega), List.take_of_length_le (by rw [downL_length]; omega)] at ht
    rw [ex0_limbs_down, ht]
    simp
  | succ j ih =>
    intro k out hn hk ho ht
    have hlt : k < l.length := by omega
    have hal := h.2
    have hw := wrap_succ hlt (by omega)
    have hxl := h.1.get hlt
    have hdl := downL_length P l
    have hg := downL_get P hlt
    obtain ⟨x, hx⟩ : ∃ x, l[k] = x := ⟨_, rfl⟩
    rw [hx] at hxl hg
    obtain ⟨y, hy⟩ : ∃ y, at0 l (k + 1) = y := ⟨_, rfl⟩
    have hyl := at0_lt h.1 (k + 1)
    rw [hy] at hyl hg
    obtain ⟨s, hs⟩ : ∃ s, x + y * 4294967296 = s := ⟨_, rfl⟩
    obtain ⟨z, hz⟩ : ∃ z, s / P = z := ⟨_, rfl⟩
    rw [hs, hz] at hg
    have hzl : z ≤ s := by rw [← hz]; exact Nat.div_le_self _ _
    have hsh := shr_64 s r (by omega)
    rw [hP, hz] at hsh
    have h1 := c_low z (by omega)
    obtain ⟨d, hd⟩ : ∃ d, z % 4294967296 = d := ⟨_, rfl⟩
    rw [hd] at h1 hg
    have w0 := u64_nat (k := x) (by omega)
    have q2 : (n : Int).tmod 32 = (r : Nat) := by rw [← hr]; rfl
    have h0 := ih (k + 1) (out.set k d) (by omega) (by omega) (by simpa using ho) (by
      rw [take_set_succ (by omega), ht, ← hg, ← List.take_succ_eq_append_getElem])
    rw [succ_cast] at h0
    have hko : k < out.length := by omega
    rw [ex0_limbs_down, ← h0]
    by_cases hk1 : k + 1 < l.length
    · have hyb : l[k + 1] = y := by rw [← hy, at0_in hk1]
      have w1 := u64_nat (k := y) (by omega)
      have q3 := shl32_64 y hyl
      obtain ⟨v, hv⟩ : ∃ v, y * 4294967296 = v := ⟨_, rfl⟩
      have q4 := or64 (x := x) (y := v) (e := s) (by omega) (by omega) (by rw [← hv, or_high hxl, hs])
      rw [hv] at q3
      simp [-binInt_shl, -binInt_or, -binInt_shr, hlt, hx, hw, hk1, hyb, q2, q3, q4, w0, w1, hsh, h1, hko, ul_set]
    · have hy0 : y = 0 := by rw [← hy, at0_out hk1]
      obtain rfl : s = x := by omega
      simp [-binInt_shl, -binInt_or, -binInt_shr, hlt, hx, hw, hk1, q2, w0, hsh, h1, hko, ul_set]
theorem c_down (l : List Nat) (h : Fit l) (n : Nat) (hn : n ≤ 1048576) : Cinf T n_limbs_down [.ro 1 (ul l), .v (.int .i64 n)] = some (.own 1 (ul (limbs (val l / 2 ^ n))), [.dead, .dead]) := by
  have h0 := c_trim l h.2
  have hl := h.2
  rw [← limbs_val h.1] at h0
  have hf := h.limbs
  have hvl := val_limbs (val l)
  obtain ⟨m, hm⟩ : ∃ m, limbs (val l) = m := ⟨_, rfl⟩
  rw [hm] at h0 hf hvl
  have hml := hf.2
  have hvd := val_down hf.1 n
  rw [hvl] at hvd
  obtain ⟨q, hq⟩ : ∃ q, n / 32 = q := ⟨_, rfl⟩
  rw [hq] at hvd
  have q1 : (n : Int) / 32 = (q : Nat) := by omega
  have w1 : IntKind.i64.wrap (q : Int) = q := by rw [wrap_i64] <;> omega
  rw [run_limbs_down]
  by_cases hqm : m.length ≤ q
  · rw [List.drop_eq_nil_of_le hqm] at hvd
    simp only [downL, val] at hvd
    rw [← hvd, limbs_zero]
    simp [Run, h0, q1, w1, hqm]
  · have hlt : q < m.length := by omega
    have hdf : Fit (m.drop q) := ⟨hf.1.drop q, by simp; omega⟩
    have k0 := down_loop m (m.drop q) hdf n q (n % 32) (2 ^ (n % 32)) rfl rfl (m.drop q).length 0 (List.replicate (m.drop q).length 0) rfl (Nat.zero_le _) (by simp) rfl
    simp only [Int.natCast_zero] at k0
    have hur : ul (List.replicate (m.drop q).length 0) = List.replicate (m.drop q).length (.v (.int .u32 0)) := by simp [ul]
    rw [hur] at k0
    have t := c_trimO (downL (2 ^ (n % 32)) (m.drop q)) (by rw [downL_length]; simp; omega)
    rw [← limbs_val (downL_lim _ _), hvd] at t
    obtain ⟨d, hd⟩ : ∃ d, (m.drop q).length = d := ⟨_, rfl⟩
    have hdl : d ≤ 1099511627776 := by rw [← hd]; exact hdf.2
    have hdm : m.length - q = d := by rw [← hd]; simp
    rw [hd] at k0
    have e1 : (d : Int) * 4 ≤ 281474976710656 := by omega
    have e2 : d ≤ 4611686018427387904 := by omega
    have e3 : q ≤ m.length := by omega
    have hT : (ul m).take m.length = ul m := List.take_of_length_le (by simp)
    simp [Run, home, h0, q1, w1, hqm, hlt, e3, hT, ul_drop, hd, hdm, e1, e2, k0, t]
/-- What Down answers. -/
def downR (v : Nat) (n : Int) : PV := if n < 0 ∨ 1048576 < n then .tup [.own 1 [], .v (.int .i64 2)] else .tup [.own 1 (ul (limbs (v / 2 ^ n.toNat))), .v (.int .i64 0)]
theorem at0_drop (l : List Nat) (q k : Nat) : at0 (l.drop q) k = at0 l (q + k) := by simp [at0]
end Go.AM.F

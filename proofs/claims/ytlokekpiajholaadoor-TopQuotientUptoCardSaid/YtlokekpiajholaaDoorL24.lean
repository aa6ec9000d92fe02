/- Long division. No conditions. -/
import Derived.Test.YtlokekpiajholaaDoorL23
namespace Go.AM.F
open Go Go.AM
set_option maxRecDepth 10000
set_option linter.unusedSimpArgs false
attribute [local simp] j12_limbs_long b_limbs_long a_limbs_long
theorem long_loop (v : List Nat) (hv : Fit v) {m top next : Nat} (hm : v.length = m + 2) (ht : v[m + 1] = top) (hn : v[m] = next) (htop : 2147483648 ≤ top) : ∀ (k : Nat) (u q : List Nat), Fit2 u → Lim q → q.length + v.length = u.length → k ≤ q.length → val (u.drop k) < val v → (∀ r, r < k → at0 q r = 0) →
    ∃ u' q', Exec T l0_limbs_long (lgE u v q top next ((k : Int) - 1)) = some (.exit 0, lgE u' v q' top next (-1)) ∧ Lim u' ∧ Lim q' ∧ u'.length = u.length ∧ q'.length = q.length ∧ val u' < val v ∧ val u + val v * val q = val u' + val v * val q' := by
  intro k
  induction k with
  | zero =>
    intro u q hu hq hl hk hd hz
    refine ⟨u, q, ?_, hu.1, hq, rfl, rfl, by simpa using hd, rfl⟩
    rw [ex0_limbs_long]
    simp [w0_limbs_long, lgE]
  | succ k ih =>
    intro u q hu hq hl hk hd hz
    obtain ⟨u1, h0, h1, h2, h3, h4, h5⟩ := long_step v hv hm ht hn htop u q hu k (by omega) (by omega) hd
    have hq1 := hq.set (k := k) h5
    have hkq : k < q.length := by omega
    have hset := val_set hkq (val (u.drop k) / val v)
    have hqk : q[k] = 0 := by
      have := hz k (by omega)
      rwa [at0_in hkq] at this
    rw [hqk, Nat.mul_zero, Nat.add_zero] at hset
    have hVp : 0 < val v := by omega
    obtain ⟨u', q', k0, k1, k2, k3, k4, k5, k6⟩ := ih u1 (q.set k (val (u.drop k) / val v)) ⟨h1, by have := hu.2; omega⟩ hq1 (by simp; omega) (by simp; omega) (by rw [h4]; exact Nat.mod_lt _ hVp) (fun r hr => by rw [at0_set_ne (by omega)]; exact hz r (by omega))
    refine ⟨u', q', ?_, k1, k2, by omega, by simp at k4; omega, k5, ?_⟩
    · rw [show ((k + 1 : Nat) : Int) - 1 = (k : Int) by omega, h0, k0]
    · rw [← k6, hset]
      have c1 := val_cut (l := u) (k := k) (by omega)
      have c2 := val_cut (l := u1) (k := k) (by omega)
      have c3 := Nat.div_add_mod (val (u.drop k)) (val v)
      rw [h3, h4] at c2
      have c4 : 4294967296 ^ k * (val v * (val (u.drop k) / val v)) + 4294967296 ^ k * (val (u.drop k) % val v) = 4294967296 ^ k * val (u.drop k) := by rw [← Nat.mul_add, c3]
      rw [Nat.mul_add, Nat.mul_left_comm (val v)]
      omega
theorem c_long (u v : List Nat) (hu : Fit2 u) (hv : Fit v) {m top : Nat} (hm : v.length = m + 2) (ht : v[m + 1] = top) (htop : 2147483648 ≤ top) (hl : v.length < u.length) (hd : val (u.drop (u.length - v.length)) < val v) :
    ∃ u' q', Cinf T n_limbs_long [.own 1 (ul u), .ro 1 (ul v)] = some (.own 1 (ul q'), [.own 1 (ul u'), .dead]) ∧ Lim u' ∧ Lim q' ∧ u'.length = u.length ∧ q'.length + v.length = u.length ∧ val u' = val u % val v ∧ val q' = val u / val v := by
  obtain ⟨next, hn⟩ : ∃ x, v[m] = x := ⟨_, rfl⟩
  obtain ⟨d, hdd⟩ : ∃ d, u.length - v.length = d := ⟨_, rfl⟩
  rw [hdd] at hd
  have hzl : Lim (List.replicate d 0) := fun y hy => by rw [(List.mem_replicate.1 hy).2]; omega
  obtain ⟨u', q', k0, k1, k2, k3, k4, k5, k6⟩ := long_loop v hv hm ht hn htop d u (List.replicate d 0) hu hzl (by simp; omega) (by simp) hd (fun r hr => by unfold at0; rw [List.getElem?_replicate]; split <;> rfl)
  rw [val_zeros, Nat.mul_zero, Nat.add_zero] at k6
  have hul := hu.2
  have hvl := hv.2
  have htl : top < 4294967296 := by rw [← ht]; exact hv.1.get _
  have hnl : next < 4294967296 := by rw [← hn]; exact hv.1.get _
  refine ⟨u', q', ?_, k1, k2, k3, by simp at k4; omega, ?_, ?_⟩
  · have q1 : IntKind.i64.wrap ((u.length : Int) - v.length) = (d : Int) := by rw [wrap_i64] <;> omega
    have q2 : IntKind.i64.wrap ((v.length : Int) - 1) = ((m + 1 : Nat) : Int) := by rw [wrap_i64] <;> omega
    have q3 : IntKind.i64.wrap ((v.length : Int) - 2) = (m : Int) := by rw [wrap_i64] <;> omega
    have q4 : IntKind.i64.wrap ((d : Int) - 1) = (d : Int) - 1 := by rw [wrap_i64] <;> omega
    obtain ⟨m1, hm1⟩ : ∃ m1, m + 1 = m1 := ⟨_, rfl⟩
    rw [hm1] at q2
    simp only [hm1] at ht
    have w0 := u64_nat (k := top) (by omega)
    have w1 := u64_nat (k := next) (by omega)
    have e1 : (d : Int) * 4 ≤ 281474976710656 := by omega
    have e2 : d ≤ 4611686018427387904 := by omega
    have e3 : m1 < v.length := by omega
    have e4 : m < v.length := by omega
    have hur : ul (List.replicate d 0) = List.replicate d (.v (.int .u32 0)) := by simp [ul]
    simp only [lgE, hur] at k0
    rw [run_limbs_long]
    simp [Run, home, q1, q2, q3, q4, e1, e2, e3, e4, ht, hn, w0, w1, k0]
  · rw [k6, Nat.add_mul_mod_self_left, Nat.mod_eq_of_lt k5]
  · rw [k6, Nat.add_mul_div_left _ _ (by omega), Nat.div_eq_of_lt k5, Nat.zero_add]
theorem nbits_low {v : Nat} (h : v ≠ 0) : 2 ^ (nbits v - 1) ≤ v := by
  induction v using Nat.strongRecOn with
  | _ v ih =>
    rw [nbits_pos h, Nat.add_sub_cancel]
    by_cases h2 : v / 2 = 0
    · rw [h2, nbits_zero]; omega
    · have := ih (v / 2) (by omega) h2
      obtain ⟨k, hk⟩ : ∃ k, nbits (v / 2) = k + 1 := ⟨nbits (v / 2 / 2), nbits_pos h2⟩
      rw [hk, Nat.add_sub_cancel] at this
      rw [hk, Nat.pow_succ]
      omega
end Go.AM.F

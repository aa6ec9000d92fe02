/- Long division, step by step. No conditions. -/
import Derived.Test.YtlokekpiajholaaDoorL18
import Derived.Test.YtlokekpiajholaaDoorL21
namespace Go.AM.F
open Go Go.AM
set_option maxRecDepth 10000
set_option linter.unusedSimpArgs false
attribute [local simp] w0_limbs_long j6_limbs_long j7_limbs_long j8_limbs_long j9_limbs_long j10_limbs_long j11_limbs_long j12_limbs_long b_limbs_long a_limbs_long
theorem val_drop_cons {l : List Nat} {k : Nat} (h : k < l.length) : val (l.drop k) = l[k] + 4294967296 * val (l.drop (k + 1)) := by rw [List.drop_eq_getElem_cons h, val]
theorem val_cut {l : List Nat} {k : Nat} (h : k ≤ l.length) : val l = val (l.take k) + 4294967296 ^ k * val (l.drop k) := by
  have h1 : (l.take k).length = k := by simp; omega
  have h2 := val_append (l.take k) (l.drop k)
  rwa [h1, List.take_append_drop] at h2
theorem val_cut2 {l : List Nat} {j n : Nat} (h : j + n ≤ l.length) : val (l.drop j) = val ((l.drop j).take n) + 4294967296 ^ n * val (l.drop (j + n)) := by
  rw [val_cut (l := l.drop j) (k := n) (by simp; omega), List.drop_drop]
theorem take_at0 {a b : List Nat} {k : Nat} (hl : a.length = b.length) (h : ∀ r, r < k → at0 a r = at0 b r) : a.take k = b.take k := by
  apply List.ext_getElem
  · simp [hl]
  · intro i h1 h2
    simp only [List.length_take] at h1 h2
    have := h i (by omega)
    rw [at0_in (by omega), at0_in (by omega)] at this
    simpa using this
theorem drop_at0 {a b : List Nat} {k : Nat} (hl : a.length = b.length) (h : ∀ r, k ≤ r → at0 a r = at0 b r) : a.drop k = b.drop k := by
  apply List.ext_getElem
  · simp [hl]
  · intro i h1 h2
    simp only [List.length_drop] at h1 h2
    have := h (k + i) (by omega)
    rw [at0_in (by omega), at0_in (by omega)] at this
    simpa using this
/-- The limbs of one step, told as numbers. -/
theorem step_numbers {u v : List Nat} (hu : Lim u) (hv : Lim v) {m j top next x1 x0 u2 : Nat} (hm : v.length = m + 2) (hj : j + v.length < u.length) (ht : v[m + 1] = top) (hn : v[m] = next) (htop : 2147483648 ≤ top) (hx1 : u[j + (m + 2)] = x1) (hx0 : u[j + (m + 1)] = x0) (hu2 : u[j + m] = u2) (hlt : val (u.drop (j + 1)) < val v) :
    Stp (4294967296 ^ m) top next (val (v.take m)) (x1 * 4294967296 + x0) u2 (val ((u.drop j).take m)) (val (u.drop j)) (val v) ∧ val (u.drop (j + (m + 3))) = 0 := by
  have hz : val (u.drop (j + (m + 3))) = 0 := by
    have h1 := val_cut2 (l := u) (j := j + 1) (n := m + 2) (by omega)
    have h2 := val_lt hv
    rw [hm] at h2
    rw [show j + 1 + (m + 2) = j + (m + 3) by omega] at h1
    rcases Nat.eq_zero_or_pos (val (u.drop (j + (m + 3)))) with h0 | h0
    · exact h0
    · have : 4294967296 ^ (m + 2) * 1 ≤ 4294967296 ^ (m + 2) * val (u.drop (j + (m + 3))) := Nat.mul_le_mul_left _ h0
      omega
  have hV : val v = (top * 4294967296 + next) * 4294967296 ^ m + val (v.take m) := by
    have h1 := val_split (l := v) (k := m) (by omega)
    have h2 := val_drop_cons (l := v) (k := m + 1) (by omega)
    rw [List.drop_eq_nil_of_le (i := m + 1 + 1) (by omega), ht] at h2
    rw [hn, h2] at h1
    simp only [val] at h1
    rw [h1, Nat.mul_comm (4294967296 ^ m), Nat.add_comm]
    congr 2
    omega
  have hU : val (u.drop j) = ((x1 * 4294967296 + x0) * 4294967296 + u2) * 4294967296 ^ m + val ((u.drop j).take m) := by
    have h1 := val_cut2 (l := u) (j := j) (n := m) (by omega)
    have h2 := val_drop_cons (l := u) (k := j + m) (by omega)
    have h3 := val_drop_cons (l := u) (k := j + (m + 1)) (by omega)
    have h4 := val_drop_cons (l := u) (k := j + (m + 2)) (by omega)
    rw [show j + m + 1 = j + (m + 1) by omega, h3, show j + (m + 1) + 1 = j + (m + 2) by omega, h4, show j + (m + 2) + 1 = j + (m + 3) by omega, hz, hx0, hx1, hu2] at h2
    rw [h1, h2, Nat.mul_comm (4294967296 ^ m), Nat.add_comm]
    congr 2
    omega
  refine ⟨⟨hV, hU, ?_, ?_, ?_, ?_, htop, ?_, ?_⟩, hz⟩
  · have := val_lt (hv.take m)
    rwa [List.length_take, Nat.min_eq_left (by omega)] at this
  · have := val_lt ((hu.drop j).take m)
    rwa [List.length_take, List.length_drop, Nat.min_eq_left (by omega)] at this
  · rw [← hn]; exact hv.get _
  · rw [← hu2]; exact hu.get _
  · rw [← ht]; exact hv.get _
  · have h1 := val_drop_cons (l := u) (k := j) (by omega)
    have h2 := hu.get (i := j) (by omega)
    omega
/-- The limb that the subtraction ends with. -/
theorem last_step {V2 V1 V0 P J x d c b b' : Nat} (hset : V2 + P * x = V1 + P * d) (hst : x + 4294967296 * b' = d + c + b) (h : V1 + J = V0 + P * (b + c)) : V2 + J = V0 + P * 4294967296 * b' := by
  have e1 : P * x + P * (4294967296 * b') = P * d + P * c + P * b := by rw [← Nat.mul_add, ← Nat.mul_add, ← Nat.mul_add, hst]
  rw [Nat.mul_add] at h
  rw [Nat.mul_assoc]
  omega
theorem last_add {V2 V1 V0 P J x d c e : Nat} (hset : V2 + P * x = V1 + P * d) (hst : x + c = d + 4294967296 * e) (h : V1 + P * c = V0 + J) : V2 + P * 4294967296 * e = V0 + J := by
  have e1 : P * x + P * c = P * d + P * (4294967296 * e) := by rw [← Nat.mul_add, ← Nat.mul_add, hst]
  rw [Nat.mul_assoc]
  omega
/-- What a change within one step's limbs leaves of the rest. -/
theorem within {u u' : List Nat} (hu' : Lim u') (hl : u'.length = u.length) {j n : Nat} (hj : j + n < u.length) (h : ∀ r, r < j ∨ j + n + 1 ≤ r → at0 u' r = at0 u r) (hz : val (u.drop (j + n + 1)) = 0) :
    val u' = val (u.take j) + 4294967296 ^ j * val (u'.drop j) ∧ val (u'.drop j) < 4294967296 ^ (n + 1) := by
  have h1 := take_at0 (k := j) hl fun r hr => h r (.inl hr)
  have h2 := drop_at0 (k := j + n + 1) hl fun r hr => h r (.inr hr)
  refine ⟨?_, ?_⟩
  · rw [val_cut (l := u') (k := j) (by omega), h1]
  · have h3 := val_cut2 (l := u') (j := j) (n := n + 1) (by omega)
    rw [← Nat.add_assoc, h2, hz] at h3
    have h4 := val_lt ((hu'.drop j).take (n + 1))
    rw [List.length_take, List.length_drop, Nat.min_eq_left (by omega)] at h4
    omega
def lgE (u v q : List Nat) (top next : Nat) (j : Int) : Env := [(0, .ref 100000 []), (1, .ro 1 (ul v)), (5, .v (.int .i64 v.length)), (6, .own 1 (ul q)), (7, .v (.int .u64 top)), (8, .v (.int .u64 next)), (9, .v (.int .i64 j)), (24, .dead), (100000, .own 1 (ul u))]
/-- The pieces of a step, run. -/
theorem p7_long (u u3 v q : List Nat) (top next j p g Q c3 y d3 : Nat) (hjq : j < q.length) (hq : q[j] = g) (wq : IntKind.u32.wrap ((g : Int) - 1) = (Q : Int)) (k3 : Exec T l3_limbs_long (addE u v (q.set j Q) top next 0 j 0) = some (.exit 7, addE u3 v (q.set j Q) top next c3 j v.length))
    (q1 : IntKind.i64.wrap ((j : Int) + v.length) = (p : Int)) (hp : p < u3.length) (hy : u3[p] = y) (wy : IntKind.u32.wrap ((y : Int) + c3) = (d3 : Int)) :
    Exec T k7_limbs_long (lgE u v q top next j) = some (.normal, lgE (u3.set p d3) v (q.set j Q) top next j) := by
  simp only [addE, Int.natCast_zero] at k3
  simp [lgE, hjq, hq, wq, ul_set, k3, q1, hp, hy, wy]
theorem p8_long (u v q : List Nat) (top next j p g c b x d b' : Nat) (hjq : j < q.length) (hp : p < u.length) (hx : u[p] = x) (wg : IntKind.u32.wrap (g : Int) = g) (wc : IntKind.u32.wrap (c : Int) = c) (q1 : IntKind.i64.wrap ((j : Int) + v.length) = (p : Int))
    (hs : Cinf T n_bits_Sub32 [.v (.int .u32 x), .v (.int .u32 c), .v (.int .u32 b)] = some (.tup [.v (.int .u32 d), .v (.int .u32 b')], [.dead, .dead, .dead])) :
    Exec T k8_limbs_long (subE u v q top next g c b j v.length) = if b' = 0 then some (.exit 1, lgE (u.set p d) v (q.set j g) top next j) else Exec T k7_limbs_long (lgE (u.set p d) v (q.set j g) top next j) := by
  by_cases h : b' = 0
  · simp [-tl7_limbs_long, subE, lgE, hjq, hp, hx, wg, wc, q1, hs, h, ul_set]
  · simp [-tl7_limbs_long, subE, lgE, hjq, hp, hx, wg, wc, q1, hs, h, ul_set]
theorem p9_long (u u1 v q : List Nat) (top next j g r c b : Nat) (k1 : Exec T l2_limbs_long (subE u v q top next g 0 0 j 0) = some (.exit 5, subE u1 v q top next g c b j v.length)) :
    Exec T k9_limbs_long (gsE u v q top next g r j) = Exec T k8_limbs_long (subE u1 v q top next g c b j v.length) := by
  simp only [subE, Int.natCast_zero] at k1
  simp [-tl8_limbs_long, gsE, subE, k1]
theorem p10_long (u v q : List Nat) (top next j : Nat) (q7 : IntKind.i64.wrap ((j : Int) - 1) = (j : Int) - 1) : Exec T k10_limbs_long (lgE u v q top next j) = some (.normal, lgE u v q top next ((j : Int) - 1)) := by
  simp [lgE, q7]
end Go.AM.F

/- Products of naturals. No conditions. -/
import Derived.Test.YtlokekpiajholaaDoorL9
namespace Go.AM.F
open Go Go.AM
set_option maxRecDepth 10000
set_option linter.unusedSimpArgs false
attribute [local simp] j0_limbs_Mul j1_limbs_Mul w1_limbs_Mul j2_limbs_Mul j3_limbs_Mul j4_limbs_Mul w0_limbs_Mul j5_limbs_Mul b_limbs_Mul a_limbs_Mul
theorem val_set {l : List Nat} {j : Nat} (h : j < l.length) (x : Nat) : val (l.set j x) + 4294967296 ^ j * l[j] = val l + 4294967296 ^ j * x := by
  have h1 : j < (l.set j x).length := by simpa using h
  rw [val_split h1, val_split h, List.take_set, drop_set_succ, List.getElem_set_self]
  rw [List.set_eq_of_length_le (by simp; omega)]
  rw [Nat.mul_add, Nat.mul_add]
  omega
theorem val_take_succ' {l : List Nat} {k y : Nat} (h : k < l.length) (hy : l[k] = y) : val (l.take (k + 1)) = val (l.take k) + 4294967296 ^ k * y := by rw [val_take_succ, at0_in h, hy]
theorem at0_set_ne {l : List Nat} {j r x : Nat} (h : j ≠ r) : at0 (l.set j x) r = at0 l r := by simp [at0, List.getElem?_set_ne h]
theorem mul_step {V V' W i k c o x y s : Nat} (hset : V' + 4294967296 ^ (i + k) * o = V + 4294967296 ^ (i + k) * (s % 4294967296)) (hs : s = c + (x * y + o)) (hv : V + 4294967296 ^ (i + k) * c = W) :
    V' + 4294967296 ^ (i + (k + 1)) * (s / 4294967296) = W + 4294967296 ^ i * (x * (4294967296 ^ k * y)) := by
  have h1 : 4294967296 ^ (i + k) * s = 4294967296 ^ (i + k) * (s % 4294967296) + 4294967296 ^ (i + k) * (4294967296 * (s / 4294967296)) := by
    rw [← Nat.mul_add, Nat.mod_add_div]
  have h2 : 4294967296 ^ (i + k) * s = 4294967296 ^ (i + k) * c + 4294967296 ^ (i + k) * (x * y) + 4294967296 ^ (i + k) * o := by
    rw [hs, Nat.mul_add, Nat.mul_add]; omega
  have h3 : 4294967296 ^ i * (x * (4294967296 ^ k * y)) = 4294967296 ^ (i + k) * (x * y) := by
    rw [Nat.pow_add]
    simp only [Nat.mul_assoc, Nat.mul_left_comm, Nat.mul_comm]
  have h4 : 4294967296 ^ (i + (k + 1)) * (s / 4294967296) = 4294967296 ^ (i + k) * (4294967296 * (s / 4294967296)) := by
    rw [← Nat.add_assoc, Nat.pow_succ, Nat.mul_assoc]
  rw [h3, h4]
  omega
theorem mul_inner (a b : List Nat) (ha : Fit a) (hb : Fit b) (i x : Nat) (hi : i < a.length) (hx : a[i] = x) (x10 x12 : PV) (m10 : ∀ s t, PV.ment s t x10 = false) (m12 : ∀ s t, PV.ment s t x12 = false) (la : Int) (xi : PV) (mi : ∀ s t, PV.ment s t xi = false) (out0 : List Nat) : ∀ (n k c : Nat) (out : List Nat), b.length - k = n → k ≤ b.length → c < 4294967296 → Lim out → out.length = a.length + b.length → (∀ j, i + b.length ≤ j → at0 out j = at0 out0 j) → val out + 4294967296 ^ (i + k) * c = val out0 + 4294967296 ^ i * (x * val (b.take k)) →
    ∃ (out' : List Nat) (c' : Nat), Exec T l1_limbs_Mul [(0, .ro 1 (ul a)), (1, .ro 1 (ul b)), (5, .own 1 (ul out)), (6, .v (.int .i64 i)), (7, .v (.int .u64 c)), (10, x10), (12, x12), (18, .dead), (20, .v (.int .i64 la)), (21, xi), (25, .v (.int .i64 b.length)), (26, .v (.int .i64 k))] =
      some (.exit 2, [(0, .ro 1 (ul a)), (1, .ro 1 (ul b)), (5, .own 1 (ul out')), (6, .v (.int .i64 i)), (7, .v (.int .u64 c')), (10, x10), (12, x12), (18, .dead), (20, .v (.int .i64 la)), (21, xi), (25, .v (.int .i64 b.length)), (26, .v (.int .i64 b.length))]) ∧
      c' < 4294967296 ∧ Lim out' ∧ out'.length = a.length + b.length ∧ (∀ j, i + b.length ≤ j → at0 out' j = at0 out0 j) ∧ val out' + 4294967296 ^ (i + b.length) * c' = val out0 + 4294967296 ^ i * (x * val b) := by
  intro n
  induction n with
  | zero =>
    intro k c out hn hk hc hl ho hz hv
    obtain rfl : k = b.length := by omega
    refine ⟨out, c, ?_, hc, hl, ho, hz, ?_⟩
    · rw [ex1_limbs_Mul]
      simp
    · rwa [List.take_of_length_le (Nat.le_refl _)] at hv
  | succ n ih =>
    intro k c out hn hk hc hl ho hz hv
    have hal := ha.2
    have hbl := hb.2
    have hlt : k < b.length := by omega
    have hw := wrap_succ hlt (by omega)
    have hxl := ha.1.get hi
    rw [hx] at hxl
    obtain ⟨y, hy⟩ : ∃ y, b[k] = y := ⟨_, rfl⟩
    have hyl := hb.1.get hlt
    rw [hy] at hyl
    obtain ⟨j, hj⟩ : ∃ j, j = i + k := ⟨_, rfl⟩
    have hjo : j < out.length := by omega
    have hji : IntKind.i64.wrap ((i : Int) + k) = (j : Int) := by rw [wrap_i64] <;> omega
    obtain ⟨o, hoj⟩ : ∃ o, out[j] = o := ⟨_, rfl⟩
    have hol := hl.get hjo
    rw [hoj] at hol
    have hp : x * y ≤ 4294967295 * 4294967295 := Nat.mul_le_mul (by omega) (by omega)
    obtain ⟨p, hpp⟩ : ∃ p, p = x * y := ⟨_, rfl⟩
    rw [← hpp] at hp
    have hpi : (x : Int) * (y : Int) = (p : Int) := by rw [hpp]; exact (Int.natCast_mul x y).symm
    obtain ⟨q, hq⟩ : ∃ q, q = p + o := ⟨_, rfl⟩
    obtain ⟨s, hs⟩ : ∃ s, s = c + q := ⟨_, rfl⟩
    have w0 := u64_nat (k := x) (by omega)
    have w1 := u64_nat (k := y) (by omega)
    have w2 := u64_nat (k := p) (by omega)
    have w3 := u64_nat (k := o) (by omega)
    have w4 : IntKind.u64.wrap ((p : Int) + o) = (q : Int) := by rw [wrap_u64] <;> omega
    have w5 : IntKind.u64.wrap ((c : Int) + q) = (s : Int) := by rw [wrap_u64] <;> omega
    have h1 := c_low s (by omega)
    have h2 := c_high s
    have hset : val (out.set j (s % 4294967296)) + 4294967296 ^ (i + k) * o = val out + 4294967296 ^ (i + k) * (s % 4294967296) := by
      have := val_set hjo (s % 4294967296)
      rw [hoj] at this
      rw [← hj]
      exact this
    have hv2 := mul_step (x := x) (y := y) hset (by rw [hs, hq, hpp]) hv
    obtain ⟨lo, hlo⟩ : ∃ lo, lo = s % 4294967296 := ⟨_, rfl⟩
    obtain ⟨hi', hhi⟩ : ∃ hi, hi = s / 4294967296 := ⟨_, rfl⟩
    rw [← hlo] at h1 hv2
    rw [← hhi] at h2 hv2
    rw [Nat.add_assoc, ← Nat.mul_add, ← Nat.mul_add, ← val_take_succ' hlt hy] at hv2
    obtain ⟨out', c', h0, h3⟩ := ih (k + 1) hi' (out.set j lo) (by omega) (by omega) (by omega) (hl.set (by omega)) (by simp [ho]) (fun r hr => by rw [at0_set_ne (by omega)]; exact hz r hr) hv2
    refine ⟨out', c', ?_, h3⟩
    rw [succ_cast] at h0
    rw [← h0, ex1_limbs_Mul]
    simp [hlt, hi, hx, hy, hw, hji, hjo, hoj, w0, w1, hpi, w2, w3, w4, w5, h1, h2, ul_set, m10, m12, mi]
theorem mul_outer (a b : List Nat) (ha : Fit a) (hb : Fit b) (x10 x12 : PV) (m10 : ∀ s t, PV.ment s t x10 = false) (m12 : ∀ s t, PV.ment s t x12 = false) : ∀ (n i : Nat) (out : List Nat), a.length - i = n → i ≤ a.length → Lim out → out.length = a.length + b.length → (∀ j, i + b.length ≤ j → at0 out j = 0) → val out = val (a.take i) * val b →
    ∃ out' : List Nat, Exec T l0_limbs_Mul [(0, .ro 1 (ul a)), (1, .ro 1 (ul b)), (5, .own 1 (ul out)), (10, x10), (12, x12), (18, .dead), (20, .v (.int .i64 a.length)), (21, .v (.int .i64 i))] =
      some (.exit 0, [(0, .ro 1 (ul a)), (1, .ro 1 (ul b)), (5, .own 1 (ul out')), (10, x10), (12, x12), (18, .dead), (20, .v (.int .i64 a.length)), (21, .v (.int .i64 a.length))]) ∧ Lim out' ∧ out'.length = a.length + b.length ∧ val out' = val a * val b := by
  intro n
  induction n with
  | zero =>
    intro i out hn hi hl ho hz hv
    obtain rfl : i = a.length := by omega
    refine ⟨out, ?_, hl, ho, ?_⟩
    · rw [ex0_limbs_Mul]
      simp
    · rwa [List.take_of_length_le (Nat.le_refl _)] at hv
  | succ n ih =>
    intro i out hn hi hl ho hz hv
    have hal := ha.2
    have hbl := hb.2
    have hlt : i < a.length := by omega
    have hw := wrap_succ hlt (by omega)
    obtain ⟨x, hx⟩ : ∃ x, a[i] = x := ⟨_, rfl⟩
    have hxl := ha.1.get hlt
    rw [hx] at hxl
    obtain ⟨out1, c, h0, h1, h2, h3, h4, h5⟩ := mul_inner a b ha hb i x hlt hx x10 x12 m10 m12 a.length (.v (.int .i64 i)) (fun _ _ => rfl) out b.length 0 0 out rfl (Nat.zero_le _) (by omega) hl ho (fun _ _ => rfl) (by simp [val])
    simp only [Int.natCast_zero] at h0
    obtain ⟨j, hj⟩ : ∃ j, j = i + b.length := ⟨_, rfl⟩
    have hjo : j < out1.length := by omega
    have hji : IntKind.i64.wrap ((i : Int) + b.length) = (j : Int) := by rw [wrap_i64] <;> omega
    have hoj : out1[j] = 0 := by
      have := h4 j (by omega)
      rw [hz j (by omega), at0_in hjo] at this
      exact this
    have hset := val_set hjo c
    rw [hoj] at hset
    have hv2 : val (out1.set j c) = val (a.take (i + 1)) * val b := by
      rw [val_take_succ' hlt hx, Nat.add_mul, Nat.mul_assoc, ← hv, ← h5, ← hj]
      omega
    obtain ⟨out', k0, k1⟩ := ih (i + 1) (out1.set j c) (by omega) (by omega) (h2.set h1) (by simp [h3]) (fun r hr => by rw [at0_set_ne (by omega), h4 r (by omega)]; exact hz r (by omega)) hv2
    refine ⟨out', ?_, k1⟩
    rw [succ_cast] at k0
    have w := u32_nat (k := c) h1
    rw [← k0, ex0_limbs_Mul]
    simp [hlt, hw, h0, hji, hjo, w, ul_set, m10, m12]
theorem c_Mul (a b : List Nat) (ha : Fit a) (hb : Fit b) : Cinf T n_limbs_Mul [.ro 1 (ul a), .ro 1 (ul b)] = some (.own 1 (ul (limbs (val a * val b))), [.dead, .dead]) := by
  have t1 := c_trim a ha.2
  have t2 := c_trim b hb.2
  rw [← limbs_val ha.1] at t1
  rw [← limbs_val hb.1] at t2
  have fa := ha.limbs
  have fb := hb.limbs
  obtain ⟨a', hA⟩ : ∃ a', limbs (val a) = a' := ⟨_, rfl⟩
  obtain ⟨b', hB⟩ : ∃ b', limbs (val b) = b' := ⟨_, rfl⟩
  have va := val_limbs (val a)
  have vb := val_limbs (val b)
  rw [hA] at t1 fa va
  rw [hB] at t2 fb vb
  have hzl : Lim (List.replicate (a'.length + b'.length) 0) := fun y hy => by rw [(List.mem_replicate.1 hy).2]; omega
  obtain ⟨out, h0, h1, h2, h3⟩ := mul_outer a' b' fa fb (.ro 1 (ul a')) (.ro 1 (ul b')) (fun _ _ => rfl) (fun _ _ => rfl) a'.length 0 (List.replicate (a'.length + b'.length) 0) rfl (Nat.zero_le _) hzl (by simp) (fun j _ => by unfold at0; rw [List.getElem?_replicate]; split <;> rfl) (by rw [val_zeros]; simp [val])
  simp only [Int.natCast_zero] at h0
  have fal := fa.2
  have fbl := fb.2
  have t := c_trimO out (by omega)
  rw [← limbs_val h1, h3, va, vb] at t
  have hur : ul (List.replicate (a'.length + b'.length) 0) = List.replicate (a'.length + b'.length) (.v (.int .u32 0)) := by simp [ul]
  rw [hur] at h0
  have hw : IntKind.i64.wrap ((a'.length : Int) + b'.length) = ((a'.length + b'.length : Nat) : Int) := by rw [wrap_i64] <;> omega
  obtain ⟨m, hm⟩ : ∃ m, m = a'.length + b'.length := ⟨_, rfl⟩
  rw [← hm] at h0 hw
  have e1 : (m : Int) * 4 ≤ 281474976710656 := by omega
  have e2 : m ≤ 4611686018427387904 := by omega
  rw [run_limbs_Mul]
  simp [Run, home, t1, t2, hw, e1, e2, h0, t]
end Go.AM.F

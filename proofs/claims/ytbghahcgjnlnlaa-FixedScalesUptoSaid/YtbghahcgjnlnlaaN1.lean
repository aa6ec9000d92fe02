/- The document's naturals: what the layers above need of them. No conditions. -/
import Derived.Test.YtbghahcgjnlnlaaL10
import Derived.Test.YtbghahcgjnlnlaaL17
namespace Go.AM.F
open Go Go.AM
set_option maxRecDepth 10000
set_option linter.unusedSimpArgs false
attribute [local simp] j0_thicketref02_norm w0_thicketref02_norm j1_thicketref02_norm b_thicketref02_norm a_thicketref02_norm b_thicketref02_from a_thicketref02_from b_thicketref02_From a_thicketref02_From
attribute [local simp] j0_thicketref02_Product j1_thicketref02_Product w1_thicketref02_Product j2_thicketref02_Product j3_thicketref02_Product j4_thicketref02_Product w0_thicketref02_Product j5_thicketref02_Product b_thicketref02_Product a_thicketref02_Product
attribute [local simp] j0_thicketref02_cmp j1_thicketref02_cmp j2_thicketref02_cmp j3_thicketref02_cmp w0_thicketref02_cmp j4_thicketref02_cmp j5_thicketref02_cmp b_thicketref02_cmp a_thicketref02_cmp b_thicketref02_Cmp a_thicketref02_Cmp
attribute [local simp] j0_thicketref02_size j1_thicketref02_size w0_thicketref02_size j2_thicketref02_size j3_thicketref02_size b_thicketref02_size a_thicketref02_size b_thicketref02_Size a_thicketref02_Size
theorem norm_loop (l : List Nat) (hl : l.length ≤ 2305843009213693952) : ∀ (k : Nat), k ≤ l.length → (∀ x ∈ l.drop k, x = 0) →
    Exec T l0_thicketref02_norm [(0, .ref 100000 []), (3, .v (.int .i64 k)), (100000, .own 1 (ul l))] = some (.exit 0, [(0, .ref 100000 []), (3, .v (.int .i64 (nlen l : Nat))), (100000, .own 1 (ul l))]) := by
  intro k
  induction k with
  | zero =>
    intro hk hz
    rw [ex0_thicketref02_norm, nlen_none hz]
    simp
  | succ k ih =>
    intro hk hz
    have hlt : k < l.length := by omega
    have hw := wrap_nat (k := k) (by omega)
    obtain ⟨x, hx0⟩ : ∃ x, l[k] = x := ⟨_, rfl⟩
    rw [ex0_thicketref02_norm]
    by_cases h0 : x = 0
    · have h1 := ih (by omega) (nlen_step hlt hz (by rw [hx0, h0]))
      simp [succ_cast, hlt, hx0, h0, hw, h1]
    · have hn := nlen_at hlt hz (by rw [hx0]; exact h0)
      rw [hn]
      simp [succ_cast, hlt, hx0, h0, hw]
theorem c2_norm (l : List Nat) (hl : l.length ≤ 2305843009213693952) (hm : Lim l) : Cinf T n_thicketref02_norm [.own 1 (ul l)] = some (.own 1 (ul (limbs (val l))), [.dead]) := by
  have h0 := norm_loop l hl l.length (Nat.le_refl _) (by simp)
  have hn := nlen_le l
  rw [limbs_val hm, run_thicketref02_norm]
  simp [Run, home, h0, hn, ul_take]
theorem c2_from (n : Nat) (h : n < 18446744073709551616) : Cinf T n_thicketref02_from [.v (.int .u64 n)] = some (.own 1 (ul (limbs n)), [.dead]) := by
  have h0 := c2_norm [n % 4294967296, n / 4294967296] (by simp) (two_lim n h)
  rw [two_val] at h0
  obtain ⟨lo, hlo⟩ : ∃ x, n % 4294967296 = x := ⟨_, rfl⟩
  obtain ⟨hi, hhi⟩ : ∃ x, n / 4294967296 = x := ⟨_, rfl⟩
  have h1 := shr32_64 hhi
  have h2 := mod_u32 n
  have h3 := u32_nat (k := hi) (by omega)
  rw [hlo] at h2
  rw [hlo, hhi] at h0
  simp at h0
  rw [run_thicketref02_from]
  simp [-binInt_shr, Run, h0, h1, h2, h3]
theorem c2_From (n : Nat) (h : n < 18446744073709551616) : Cinf T n_thicketref02_From [.v (.int .u64 n)] = some (.own 1 (ul (limbs n)), [.dead]) := by
  have h0 := c2_from n h
  rw [run_thicketref02_From]
  simp [Run, h0]
theorem prod_inner (a b : List Nat) (ha : Fit a) (hb : Fit b) (i x : Nat) (hi : i < a.length) (hx : a[i] = x) (out0 : List Nat) : ∀ (n k c : Nat) (out : List Nat), b.length - k = n → k ≤ b.length → c < 4294967296 → Lim out → out.length = a.length + b.length → (∀ j, i + b.length ≤ j → at0 out j = at0 out0 j) → val out + 4294967296 ^ (i + k) * c = val out0 + 4294967296 ^ i * (x * val (b.take k)) →
    ∃ (out' : List Nat) (c' : Nat), Exec T l1_thicketref02_Product [(0, .ro 1 (ul a)), (1, .ro 1 (ul b)), (5, .own 1 (ul out)), (6, .v (.int .i64 i)), (7, .v (.int .u64 c)), (8, .v (.int .i64 k)), (14, .dead)] =
      some (.exit 2, [(0, .ro 1 (ul a)), (1, .ro 1 (ul b)), (5, .own 1 (ul out')), (6, .v (.int .i64 i)), (7, .v (.int .u64 c')), (8, .v (.int .i64 b.length)), (14, .dead)]) ∧
      c' < 4294967296 ∧ Lim out' ∧ out'.length = a.length + b.length ∧ (∀ j, i + b.length ≤ j → at0 out' j = at0 out0 j) ∧ val out' + 4294967296 ^ (i + b.length) * c' = val out0 + 4294967296 ^ i * (x * val b) := by
  intro n
  induction n with
  | zero =>
    intro k c out hn hk hc hl ho hz hv
    obtain rfl : k = b.length := by omega
    refine ⟨out, c, ?_, hc, hl, ho, hz, ?_⟩
    · rw [ex1_thicketref02_Product]
      simp
    · rwa [List.take_of_length_le (Nat.le_refl _)] at hv
  | succ n ih =>
    intro k c out hn hk hc hl ho hz hv
    have hal := ha.2
    have hbl := hb.2
    have hlt : k < b.length := by omega
    have hw := wrap_succ hlt (by omega)
    have hxl := ha.1.get hi
    rw [hx] at hxl
    obtain ⟨y, hy⟩ : ∃ y, b[k] = y := ⟨_, rfl⟩
    have hyl := hb.1.get hlt
    rw [hy] at hyl
    obtain ⟨j, hj⟩ : ∃ j, j = i + k := ⟨_, rfl⟩
    have hjo : j < out.length := by omega
    have hji : IntKind.i64.wrap ((i : Int) + k) = (j : Int) := by rw [wrap_i64] <;> omega
    obtain ⟨o, hoj⟩ : ∃ o, out[j] = o := ⟨_, rfl⟩
    have hol := hl.get hjo
    rw [hoj] at hol
    have hp : x * y ≤ 4294967295 * 4294967295 := Nat.mul_le_mul (by omega) (by omega)
    obtain ⟨p, hpp⟩ : ∃ p, p = x * y := ⟨_, rfl⟩
    rw [← hpp] at hp
    have hpi : (x : Int) * (y : Int) = (p : Int) := by rw [hpp]; exact (Int.natCast_mul x y).symm
    obtain ⟨q, hq⟩ : ∃ q, q = c + p := ⟨_, rfl⟩
    obtain ⟨s, hs⟩ : ∃ s, s = q + o := ⟨_, rfl⟩
    have w0 := u64_nat (k := x) (by omega)
    have w1 := u64_nat (k := y) (by omega)
    have w2 := u64_nat (k := p) (by omega)
    have w3 := u64_nat (k := o) (by omega)
    have w4 : IntKind.u64.wrap ((c : Int) + p) = (q : Int) := by rw [wrap_u64] <;> omega
    have w5 : IntKind.u64.wrap ((q : Int) + o) = (s : Int) := by rw [wrap_u64] <;> omega
    have hset : val (out.set j (s % 4294967296)) + 4294967296 ^ (i + k) * o = val out + 4294967296 ^ (i + k) * (s % 4294967296) := by
      have := val_set hjo (s % 4294967296)
      rw [hoj] at this
      rw [← hj]
      exact this
    have hv2 := mul_step (x := x) (y := y) hset (by omega) hv
    obtain ⟨lo, hlo⟩ : ∃ lo, s % 4294967296 = lo := ⟨_, rfl⟩
    obtain ⟨hi', hhi⟩ : ∃ hi, s / 4294967296 = hi := ⟨_, rfl⟩
    have h1 := mod_u32 s
    have h2 := shr32_64 hhi
    rw [hlo] at h1 hv2
    rw [hhi] at hv2
    rw [Nat.add_assoc, ← Nat.mul_add, ← Nat.mul_add, ← val_take_succ' hlt hy] at hv2
    obtain ⟨out', c', h0, h3⟩ := ih (k + 1) hi' (out.set j lo) (by omega) (by omega) (by omega) (hl.set (by omega)) (by simp [ho]) (fun r hr => by rw [at0_set_ne (by omega)]; exact hz r hr) hv2
    refine ⟨out', c', ?_, h3⟩
    rw [succ_cast] at h0
    rw [← h0, ex1_thicketref02_Product]
    simp [-binInt_shr, hlt, hi, hx, hy, hw, hji, hjo, hoj, w0, w1, hpi, w2, w3, w4, w5, h1, h2, ul_set]
theorem prod_outer (a b : List Nat) (ha : Fit a) (hb : Fit b) : ∀ (n i : Nat) (out : List Nat), a.length - i = n → i ≤ a.length → Lim out → out.length = a.length + b.length → (∀ j, i + b.length ≤ j → at0 out j = 0) → val out = val (a.take i) * val b →
    ∃ out' : List Nat, Exec T l0_thicketref02_Product [(0, .ro 1 (ul a)), (1, .ro 1 (ul b)), (5, .own 1 (ul out)), (6, .v (.int .i64 i)), (14, .dead)] =
      some (.exit 0, [(0, .ro 1 (ul a)), (1, .ro 1 (ul b)), (5, .own 1 (ul out')), (6, .v (.int .i64 a.length)), (14, .dead)]) ∧ Lim out' ∧ out'.length = a.length + b.length ∧ val out' = val a * val b := by
  intro n
  induction n with
  | zero =>
    intro i out hn hi hl ho hz hv
    obtain rfl : i = a.length := by omega
    refine ⟨out, ?_, hl, ho, ?_⟩
    · rw [ex0_thicketref02_Product]
      simp
    · rwa [List.take_of_length_le (Nat.le_refl _)] at hv
  | succ n ih =>
    intro i out hn hi hl ho hz hv
    have hal := ha.2
    have hbl := hb.2
    have hlt : i < a.length := by omega
    have hw := wrap_succ hlt (by omega)
    obtain ⟨x, hx⟩ : ∃ x, a[i] = x := ⟨_, rfl⟩
    obtain ⟨out1, c, h0, h1, h2, h3, h4, h5⟩ := prod_inner a b ha hb i x hlt hx out b.length 0 0 out rfl (Nat.zero_le _) (by omega) hl ho (fun _ _ => rfl) (by simp [val])
    simp only [Int.natCast_zero] at h0
    obtain ⟨j, hj⟩ : ∃ j, j = i + b.length := ⟨_, rfl⟩
    have hjo : j < out1.length := by omega
    have hji : IntKind.i64.wrap ((i : Int) + b.length) = (j : Int) := by rw [wrap_i64] <;> omega
    have hoj : out1[j] = 0 := by
      have := h4 j (by omega)
      rw [hz j (by omega), at0_in hjo] at this
      exact this
    have hset := val_set hjo c
    rw [hoj] at hset
    have hv2 : val (out1.set j c) = val (a.take (i + 1)) * val b := by
      rw [val_take_succ' hlt hx, Nat.add_mul, Nat.mul_assoc, ← hv, ← h5, ← hj]
      omega
    obtain ⟨out', k0, k1⟩ := ih (i + 1) (out1.set j c) (by omega) (by omega) (h2.set h1) (by simp [h3]) (fun r hr => by rw [at0_set_ne (by omega), h4 r (by omega)]; exact hz r (by omega)) hv2
    refine ⟨out', ?_, k1⟩
    rw [succ_cast] at k0
    have w := u32_nat (k := c) h1
    rw [← k0, ex0_thicketref02_Product]
    simp [hlt, hw, h0, hji, hjo, w, ul_set]
theorem c2_Product (a b : List Nat) (ha : Fit a) (hb : Fit b) : Cinf T n_thicketref02_Product [.ro 1 (ul a), .ro 1 (ul b)] = some (.own 1 (ul (limbs (val a * val b))), [.dead, .dead]) := by
  have hzl : Lim (List.replicate (a.length + b.length) 0) := fun y hy => by rw [(List.mem_replicate.1 hy).2]; omega
  obtain ⟨out, h0, h1, h2, h3⟩ := prod_outer a b ha hb a.length 0 (List.replicate (a.length + b.length) 0) rfl (Nat.zero_le _) hzl (by simp) (fun j _ => by unfold at0; rw [List.getElem?_replicate]; split <;> rfl) (by rw [val_zeros]; simp [val])
  simp only [Int.natCast_zero] at h0
  have fal := ha.2
  have fbl := hb.2
  have t := c2_norm out (by omega) h1
  rw [h3] at t
  have hur : ul (List.replicate (a.length + b.length) 0) = List.replicate (a.length + b.length) (.v (.int .u32 0)) := by simp [ul]
  rw [hur] at h0
  have hw : IntKind.i64.wrap ((a.length : Int) + b.length) = ((a.length + b.length : Nat) : Int) := by rw [wrap_i64] <;> omega
  obtain ⟨m, hm⟩ : ∃ m, m = a.length + b.length := ⟨_, rfl⟩
  rw [← hm] at h0 hw
  have e1 : (m : Int) * 4 ≤ 281474976710656 := by omega
  have e2 : m ≤ 4611686018427387904 := by omega
  rw [run_thicketref02_Product]
  simp [Run, hw, e1, e2, h0, t]
theorem cmp2_loop (a b : List Nat) (ha : Lim a) (hb : Lim b) (hl : a.length ≤ 1099511627776) (hab : a.length = b.length) : ∀ (k : Nat), k ≤ a.length → a.drop k = b.drop k →
    andThen (inBlock 0 (Exec T l0_thicketref02_cmp [(0, .ro 1 (ul a)), (1, .ro 1 (ul b)), (5, .v (.int .i64 ((k : Int) - 1)))])) (Exec T k4_thicketref02_cmp) = cR (cmpN (val a) (val b)) := by
  intro k
  induction k with
  | zero =>
    intro _ hd
    have : a = b := by simpa using hd
    subst this
    rw [ex0_thicketref02_cmp]
    simp [cR, cmpN]
  | succ k ih =>
    intro hk hd
    have hka : k < a.length := by omega
    have hkb : k < b.length := by omega
    rw [ex0_thicketref02_cmp]
    obtain ⟨x, hx⟩ : ∃ x, a[k] = x := ⟨_, rfl⟩
    obtain ⟨y, hy⟩ : ∃ y, b[k] = y := ⟨_, rfl⟩
    have hw : IntKind.i64.wrap ((k : Int) - 1) = (k : Int) - 1 := by rw [wrap_i64] <;> omega
    rw [show ((k + 1 : Nat) : Int) - 1 = (k : Int) by omega]
    by_cases h1 : x < y
    · have hv := cmp_at ha hka hkb hd (by rw [hx, hy]; exact h1)
      have hne : ¬ (x : Int) = y := by omega
      simp [cR, cmpN, hka, hkb, hx, hy, h1, hne, hv]
    · by_cases h2 : y < x
      · have hv := cmp_at hb hkb hka hd.symm (by rw [hx, hy]; exact h2)
        have n1 : ¬ val a < val b := by omega
        have n2 : ¬ val a = val b := by omega
        have hne : ¬ (x : Int) = y := by omega
        simp [cR, cmpN, hka, hkb, hx, hy, h1, hne, n1, n2]
      · have hxy : x = y := by omega
        have h0 := ih (by omega) (by rw [List.drop_eq_getElem_cons hka, List.drop_eq_getElem_cons hkb, hd, hx, hy, hxy])
        rw [← h0]
        simp [-tl4_thicketref02_cmp, hka, hkb, hx, hy, hxy, hw]
theorem c2_cmp (m n : Nat) (ha : Fit (limbs m)) (_ : Fit (limbs n)) : Cinf T n_thicketref02_cmp [.ro 1 (ul (limbs m)), .ro 1 (ul (limbs n))] = some (.v (.int .i64 (cmpN m n)), [.dead, .dead]) := by
  have hal := ha.2
  have lt1 := fun h => limbs_lt (m := m) (n := n) h
  have lt2 := fun h => limbs_lt (m := n) (n := m) h
  have v1 := val_limbs m
  have v2 := val_limbs n
  have f1 := limbs_lim m
  have f2 := limbs_lim n
  generalize limbs m = a' at hal lt1 lt2 v1 f1
  generalize limbs n = b' at lt1 lt2 v2 f2
  rw [run_thicketref02_cmp]
  by_cases h1 : a'.length = b'.length
  · have h0 := cmp2_loop a' b' f1 f2 (by omega) h1 a'.length (Nat.le_refl _) (by simp [h1])
    have hw : IntKind.i64.wrap ((a'.length : Int) - 1) = (a'.length : Int) - 1 := by rw [wrap_i64] <;> omega
    rw [v1, v2] at h0
    simp only [cR] at h0
    simp [-tl4_thicketref02_cmp, Run, ← h1, hw, h0]
  · have h3 : ¬ (a'.length : Int) = b'.length := by omega
    by_cases h2 : a'.length < b'.length
    · rw [cmp_lt (lt1 h2)]
      simp [Run, h1, h2, h3]
    · rw [cmp_gt (lt2 (by omega))]
      simp [Run, h1, h2, h3]
theorem c2_Cmp (m n : Nat) (ha : Fit (limbs m)) (hb : Fit (limbs n)) : Cinf T n_thicketref02_Cmp [.ro 1 (ul (limbs m)), .ro 1 (ul (limbs n))] = some (.v (.int .i64 (cmpN m n)), [.dead, .dead]) := by
  have h0 := c2_cmp m n ha hb
  rw [run_thicketref02_Cmp]
  simp [Run, h0]
end Go.AM.F

/- FixedFloats: the naturals of the document, rounding, the program's words. No conditions. -/
import Derived.Test.YtbghahcgjnlnlaaDoorL10
import Derived.Test.YtbghahcgjnlnlaaDoorL17
import Derived.Test.YtbghahcgjnlnlaaDoorL14
import Derived.Test.YtbghahcgjnlnlaaDoorL19
import Derived.Test.YtbghahcgjnlnlaaDoorL24
import Derived.Test.YtbghahcgjnlnlaaDoorL25
import Derived.Test.YtbghahcgjnlnlaaDoorL34
/- The document's naturals: what the layers above need of them. No conditions. -/
namespace Go.AM.F
open Go Go.AM
set_option maxRecDepth 10000
set_option linter.unusedSimpArgs false
attribute [local simp] j0_thicketref02_norm w0_thicketref02_norm j1_thicketref02_norm b_thicketref02_norm a_thicketref02_norm b_thicketref02_from a_thicketref02_from b_thicketref02_From a_thicketref02_From
attribute [local simp] j0_thicketref02_Product j1_thicketref02_Product w1_thicketref02_Product j2_thicketref02_Product j3_thicketref02_Product j4_thicketref02_Product w0_thicketref02_Product j5_thicketref02_Product b_thicketref02_Product a_thicketref02_Product
attribute [local simp] j0_thicketref02_cmp j1_thicketref02_cmp j2_thicketref02_cmp j3_thicketref02_cmp w0_thicketref02_cmp j4_thicketref02_cmp j5_thicketref02_cmp b_thicketref02_cmp a_thicketref02_cmp b_thicketref02_Cmp a_thicketref02_Cmp
attribute [local simp] j0_thicketref02_size j1_thicketref02_size w0_thicketref02_size j2_thicketref02_size j3_thicketref02_size b_thicketref02_size a_thicketref02_size b_thicketref02_Size a_thicketref02_Size
theorem norm_loop (l : List Nat) (hl : l.length ≤ 2305843009213693952) : ∀ (k : Nat), k ≤ l.length → (∀ x ∈ l.drop k, x = 0) →
    Exec T l0_thicketref02_norm [(0, .ref 100000 []), (3, .v (.int .i64 k)), (100000, .own 1 (ul l))] = some (.exit 0, [(0, .ref 100000 []), (3, .v (.int .i64 (nlen l : Nat))), (100000, .own 1 (ul l))]) := by
  intro k
  induction k with
  | zero =>
    intro hk hz
    rw [ex0_thicketref02_norm, nlen_none hz]
    simp
  | succ k ih =>
    intro hk hz
    have hlt : k < l.length := by omega
    have hw := wrap_nat (k := k) (by omega)
    obtain ⟨x, hx0⟩ : ∃ x, l[k] = x := ⟨_, rfl⟩
    rw [ex0_thicketref02_norm]
    by_cases h0 : x = 0
    · have h1 := ih (by omega) (nlen_step hlt hz (by rw [hx0, h0]))
      simp [succ_cast, hlt, hx0, h0, hw, h1]
    · have hn := nlen_at hlt hz (by rw [hx0]; exact h0)
      rw [hn]
      simp [succ_cast, hlt, hx0, h0, hw]
theorem c2_norm (l : List Nat) (hl : l.length ≤ 2305843009213693952) (hm : Lim l) : Cinf T n_thicketref02_norm [.own 1 (ul l)] = some (.own 1 (ul (limbs (val l))), [.dead]) := by
  have h0 := norm_loop l hl l.length (Nat.le_refl _) (by simp)
  have hn := nlen_le l
  rw [limbs_val hm, run_thicketref02_norm]
  simp [Run, home, h0, hn, ul_take]
theorem c2_from (n : Nat) (h : n < 18446744073709551616) : Cinf T n_thicketref02_from [.v (.int .u64 n)] = some (.own 1 (ul (limbs n)), [.dead]) := by
  have h0 := c2_norm [n % 4294967296, n / 4294967296] (by simp) (two_lim n h)
  rw [two_val] at h0
  obtain ⟨lo, hlo⟩ : ∃ x, n % 4294967296 = x := ⟨_, rfl⟩
  obtain ⟨hi, hhi⟩ : ∃ x, n / 4294967296 = x := ⟨_, rfl⟩
  have h1 := shr32_64 hhi
  have h2 := mod_u32 n
  have h3 := u32_nat (k := hi) (by omega)
  rw [hlo] at h2
  rw [hlo, hhi] at h0
  simp at h0
  rw [run_thicketref02_from]
  simp [-binInt_shr, Run, h0, h1, h2, h3]
theorem c2_From (n : Nat) (h : n < 18446744073709551616) : Cinf T n_thicketref02_From [.v (.int .u64 n)] = some (.own 1 (ul (limbs n)), [.dead]) := by
  have h0 := c2_from n h
  rw [run_thicketref02_From]
  simp [Run, h0]
theorem prod_inner (a b : List Nat) (ha : Fit a) (hb : Fit b) (i x : Nat) (hi : i < a.length) (hx : a[i] = x) (out0 : List Nat) : ∀ (n k c : Nat) (out : List Nat), b.length - k = n → k ≤ b.length → c < 4294967296 → Lim out → out.length = a.length + b.length → (∀ j, i + b.length ≤ j → at0 out j = at0 out0 j) → val out + 4294967296 ^ (i + k) * c = val out0 + 4294967296 ^ i * (x * val (b.take k)) →
    ∃ (out' : List Nat) (c' : Nat), Exec T l1_thicketref02_Product [(0, .ro 1 (ul a)), (1, .ro 1 (ul b)), (5, .own 1 (ul out)), (6, .v (.int .i64 i)), (7, .v (.int .u64 c)), (8, .v (.int .i64 k)), (14, .dead)] =
      some (.exit 2, [(0, .ro 1 (ul a)), (1, .ro 1 (ul b)), (5, .own 1 (ul out')), (6, .v (.int .i64 i)), (7, .v (.int .u64 c')), (8, .v (.int .i64 b.length)), (14, .dead)]) ∧
      c' < 4294967296 ∧ Lim out' ∧ out'.length = a.length + b.length ∧ (∀ j, i + b.length ≤ j → at0 out' j = at0 out0 j) ∧ val out' + 4294967296 ^ (i + b.length) * c' = val out0 + 4294967296 ^ i * (x * val b) := by
  intro n
  induction n with
  | zero =>
    intro k c out hn hk hc hl ho hz hv
    obtain rfl : k = b.length := by omega
    refine ⟨out, c, ?_, hc, hl, ho, hz, ?_⟩
    · rw [ex1_thicketref02_Product]
      simp
    · rwa [List.take_of_length_le (Nat.le_refl _)] at hv
  | succ n ih =>
    intro k c out hn hk hc hl ho hz hv
    have hal := ha.2
    have hbl := hb.2
    have hlt : k < b.length := by omega
    have hw := wrap_succ hlt (by omega)
    have hxl := ha.1.get hi
    rw [hx] at hxl
    obtain ⟨y, hy⟩ : ∃ y, b[k] = y := ⟨_, rfl⟩
    have hyl := hb.1.get hlt
    rw [hy] at hyl
    obtain ⟨j, hj⟩ : ∃ j, j = i + k := ⟨_, rfl⟩
    have hjo : j < out.length := by omega
    have hji : IntKind.i64.wrap ((i : Int) + k) = (j : Int) := by rw [wrap_i64] <;> omega
    obtain ⟨o, hoj⟩ : ∃ o, out[j] = o := ⟨_, rfl⟩
    have hol := hl.get hjo
    rw [hoj] at hol
    have hp : x * y ≤ 4294967295 * 4294967295 := Nat.mul_le_mul (by omega) (by omega)
    obtain ⟨p, hpp⟩ : ∃ p, p = x * y := ⟨_, rfl⟩
    rw [← hpp] at hp
    have hpi : (x : Int) * (y : Int) = (p : Int) := by rw [hpp]; exact (Int.natCast_mul x y).symm
    obtain ⟨q, hq⟩ : ∃ q, q = c + p := ⟨_, rfl⟩
    obtain ⟨s, hs⟩ : ∃ s, s = q + o := ⟨_, rfl⟩
    have w0 := u64_nat (k := x) (by omega)
    have w1 := u64_nat (k := y) (by omega)
    have w2 := u64_nat (k := p) (by omega)
    have w3 := u64_nat (k := o) (by omega)
    have w4 : IntKind.u64.wrap ((c : Int) + p) = (q : Int) := by rw [wrap_u64] <;> omega
    have w5 : IntKind.u64.wrap ((q : Int) + o) = (s : Int) := by rw [wrap_u64] <;> omega
    have hset : val (out.set j (s % 4294967296)) + 4294967296 ^ (i + k) * o = val out + 4294967296 ^ (i + k) * (s % 4294967296) := by
      have := val_set hjo (s % 4294967296)
      rw [hoj] at this
      rw [← hj]
      exact this
    have hv2 := mul_step (x := x) (y := y) hset (by omega) hv
    obtain ⟨lo, hlo⟩ : ∃ lo, s % 4294967296 = lo := ⟨_, rfl⟩
    obtain ⟨hi', hhi⟩ : ∃ hi, s / 4294967296 = hi := ⟨_, rfl⟩
    have h1 := mod_u32 s
    have h2 := shr32_64 hhi
    rw [hlo] at h1 hv2
    rw [hhi] at hv2
    rw [Nat.add_assoc, ← Nat.mul_add, ← Nat.mul_add, ← val_take_succ' hlt hy] at hv2
    obtain ⟨out', c', h0, h3⟩ := ih (k + 1) hi' (out.set j lo) (by omega) (by omega) (by omega) (hl.set (by omega)) (by simp [ho]) (fun r hr => by rw [at0_set_ne (by omega)]; exact hz r hr) hv2
    refine ⟨out', c', ?_, h3⟩
    rw [succ_cast] at h0
    rw [← h0, ex1_thicketref02_Product]
    simp [-binInt_shr, hlt, hi, hx, hy, hw, hji, hjo, hoj, w0, w1, hpi, w2, w3, w4, w5, h1, h2, ul_set]
theorem prod_outer (a b : List Nat) (ha : Fit a) (hb : Fit b) : ∀ (n i : Nat) (out : List Nat), a.length - i = n → i ≤ a.length → Lim out → out.length = a.length + b.length → (∀ j, i + b.length ≤ j → at0 out j = 0) → val out = val (a.take i) * val b →
    ∃ out' : List Nat, Exec T l0_thicketref02_Product [(0, .ro 1 (ul a)), (1, .ro 1 (ul b)), (5, .own 1 (ul out)), (6, .v (.int .i64 i)), (14, .dead)] =
      some (.exit 0, [(0, .ro 1 (ul a)), (1, .ro 1 (ul b)), (5, .own 1 (ul out')), (6, .v (.int .i64 a.length)), (14, .dead)]) ∧ Lim out' ∧ out'.length = a.length + b.length ∧ val out' = val a * val b := by
  intro n
  induction n with
  | zero =>
    intro i out hn hi hl ho hz hv
    obtain rfl : i = a.length := by omega
    refine ⟨out, ?_, hl, ho, ?_⟩
    · rw [ex0_thicketref02_Product]
      simp
    · rwa [List.take_of_length_le (Nat.le_refl _)] at hv
  | succ n ih =>
    intro i out hn hi hl ho hz hv
    have hal := ha.2
    have hbl := hb.2
    have hlt : i < a.length := by omega
    have hw := wrap_succ hlt (by omega)
    obtain ⟨x, hx⟩ : ∃ x, a[i] = x := ⟨_, rfl⟩
    obtain ⟨out1, c, h0, h1, h2, h3, h4, h5⟩ := prod_inner a b ha hb i x hlt hx out b.length 0 0 out rfl (Nat.zero_le _) (by omega) hl ho (fun _ _ => rfl) (by simp [val])
    simp only [Int.natCast_zero] at h0
    obtain ⟨j, hj⟩ : ∃ j, j = i + b.length := ⟨_, rfl⟩
    have hjo : j < out1.length := by omega
    have hji : IntKind.i64.wrap ((i : Int) + b.length) = (j : Int) := by rw [wrap_i64] <;> omega
    have hoj : out1[j] = 0 := by
      have := h4 j (by omega)
      rw [hz j (by omega), at0_in hjo] at this
      exact this
    have hset := val_set hjo c
    rw [hoj] at hset
    have hv2 : val (out1.set j c) = val (a.take (i + 1)) * val b := by
      rw [val_take_succ' hlt hx, Nat.add_mul, Nat.mul_assoc, ← hv, ← h5, ← hj]
      omega
    obtain ⟨out', k0, k1⟩ := ih (i + 1) (out1.set j c) (by omega) (by omega) (h2.set h1) (by simp [h3]) (fun r hr => by rw [at0_set_ne (by omega), h4 r (by omega)]; exact hz r (by omega)) hv2
    refine ⟨out', ?_, k1⟩
    rw [succ_cast] at k0
    have w := u32_nat (k := c) h1
    rw [← k0, ex0_thicketref02_Product]
    simp [hlt, hw, h0, hji, hjo, w, ul_set]
theorem c2_Product (a b : List Nat) (ha : Fit a) (hb : Fit b) : Cinf T n_thicketref02_Product [.ro 1 (ul a), .ro 1 (ul b)] = some (.own 1 (ul (limbs (val a * val b))), [.dead, .dead]) := by
  have hzl : Lim (List.replicate (a.length + b.length) 0) := fun y hy => by rw [(List.mem_replicate.1 hy).2]; omega
  obtain ⟨out, h0, h1, h2, h3⟩ := prod_outer a b ha hb a.length 0 (List.replicate (a.length + b.length) 0) rfl (Nat.zero_le _) hzl (by simp) (fun j _ => by unfold at0; rw [List.getElem?_replicate]; split <;> rfl) (by rw [val_zeros]; simp [val])
  simp only [Int.natCast_zero] at h0
  have fal := ha.2
  have fbl := hb.2
  have t := c2_norm out (by omega) h1
  rw [h3] at t
  have hur : ul (List.replicate (a.length + b.length) 0) = List.replicate (a.length + b.length) (.v (.int .u32 0)) := by simp [ul]
  rw [hur] at h0
  have hw : IntKind.i64.wrap ((a.length : Int) + b.length) = ((a.length + b.length : Nat) : Int) := by rw [wrap_i64] <;> omega
  obtain ⟨m, hm⟩ : ∃ m, m = a.length + b.length := ⟨_, rfl⟩
  rw [← hm] at h0 hw
  have e1 : (m : Int) * 4 ≤ 281474976710656 := by omega
  have e2 : m ≤ 4611686018427387904 := by omega
  rw [run_thicketref02_Product]
  simp [Run, hw, e1, e2, h0, t]
theorem cmp2_loop (a b : List Nat) (ha : Lim a) (hb : Lim b) (hl : a.length ≤ 1099511627776) (hab : a.length = b.length) : ∀ (k : Nat), k ≤ a.length → a.drop k = b.drop k →
    andThen (inBlock 0 (Exec T l0_thicketref02_cmp [(0, .ro 1 (ul a)), (1, .ro 1 (ul b)), (5, .v (.int .i64 ((k : Int) - 1)))])) (Exec T k4_thicketref02_cmp) = cR (cmpN (val a) (val b)) := by
  intro k
  induction k with
  | zero =>
    intro _ hd
    have : a = b := by simpa using hd
    subst this
    rw [ex0_thicketref02_cmp]
    simp [cR, cmpN]
  | succ k ih =>
    intro hk hd
    have hka : k < a.length := by omega
    have hkb : k < b.length := by omega
    rw [ex0_thicketref02_cmp]
    obtain ⟨x, hx⟩ : ∃ x, a[k] = x := ⟨_, rfl⟩
    obtain ⟨y, hy⟩ : ∃ y, b[k] = y := ⟨_, rfl⟩
    have hw : IntKind.i64.wrap ((k : Int) - 1) = (k : Int) - 1 := by rw [wrap_i64] <;> omega
    rw [show ((k + 1 : Nat) : Int) - 1 = (k : Int) by omega]
    by_cases h1 : x < y
    · have hv := cmp_at ha hka hkb hd (by rw [hx, hy]; exact h1)
      have hne : ¬ (x : Int) = y := by omega
      simp [cR, cmpN, hka, hkb, hx, hy, h1, hne, hv]
    · by_cases h2 : y < x
      · have hv := cmp_at hb hkb hka hd.symm (by rw [hx, hy]; exact h2)
        have n1 : ¬ val a < val b := by omega
        have n2 : ¬ val a = val b := by omega
        have hne : ¬ (x : Int) = y := by omega
        simp [cR, cmpN, hka, hkb, hx, hy, h1, hne, n1, n2]
      · have hxy : x = y := by omega
        have h0 := ih (by omega) (by rw [List.drop_eq_getElem_cons hka, List.drop_eq_getElem_cons hkb, hd, hx, hy, hxy])
        rw [← h0]
        simp [-tl4_thicketref02_cmp, hka, hkb, hx, hy, hxy, hw]
theorem c2_cmp (m n : Nat) (ha : Fit (limbs m)) (_ : Fit (limbs n)) : Cinf T n_thicketref02_cmp [.ro 1 (ul (limbs m)), .ro 1 (ul (limbs n))] = some (.v (.int .i64 (cmpN m n)), [.dead, .dead]) := by
  have hal := ha.2
  have lt1 := fun h => limbs_lt (m := m) (n := n) h
  have lt2 := fun h => limbs_lt (m := n) (n := m) h
  have v1 := val_limbs m
  have v2 := val_limbs n
  have f1 := limbs_lim m
  have f2 := limbs_lim n
  generalize limbs m = a' at hal lt1 lt2 v1 f1
  generalize limbs n = b' at lt1 lt2 v2 f2
  rw [run_thicketref02_cmp]
  by_cases h1 : a'.length = b'.length
  · have h0 := cmp2_loop a' b' f1 f2 (by omega) h1 a'.length (Nat.le_refl _) (by simp [h1])
    have hw : IntKind.i64.wrap ((a'.length : Int) - 1) = (a'.length : Int) - 1 := by rw [wrap_i64] <;> omega
    rw [v1, v2] at h0
    simp only [cR] at h0
    simp [-tl4_thicketref02_cmp, Run, ← h1, hw, h0]
  · have h3 : ¬ (a'.length : Int) = b'.length := by omega
    by_cases h2 : a'.length < b'.length
    · rw [cmp_lt (lt1 h2)]
      simp [Run, h1, h2, h3]
    · rw [cmp_gt (lt2 (by omega))]
      simp [Run, h1, h2, h3]
theorem c2_Cmp (m n : Nat) (ha : Fit (limbs m)) (hb : Fit (limbs n)) : Cinf T n_thicketref02_Cmp [.ro 1 (ul (limbs m)), .ro 1 (ul (limbs n))] = some (.v (.int .i64 (cmpN m n)), [.dead, .dead]) := by
  have h0 := c2_cmp m n ha hb
  rw [run_thicketref02_Cmp]
  simp [Run, h0]
end Go.AM.F

/- The document's naturals: shifts, differences, quotients bit by bit. No conditions. -/
namespace Go.AM.F
open Go Go.AM
set_option maxRecDepth 10000
set_option linter.unusedSimpArgs false
attribute [local simp] j0_thicketref02_size j1_thicketref02_size w0_thicketref02_size j2_thicketref02_size j3_thicketref02_size b_thicketref02_size a_thicketref02_size b_thicketref02_Size a_thicketref02_Size
attribute [local simp] j0_thicketref02_up j1_thicketref02_up w0_thicketref02_up j2_thicketref02_up j3_thicketref02_up w1_thicketref02_up j4_thicketref02_up j5_thicketref02_up j6_thicketref02_up b_thicketref02_up a_thicketref02_up b_thicketref02_Up a_thicketref02_Up
attribute [local simp] j0_thicketref02_minus j1_thicketref02_minus j2_thicketref02_minus w0_thicketref02_minus j3_thicketref02_minus b_thicketref02_minus a_thicketref02_minus
attribute [local simp] j0_thicketref02_divide j1_thicketref02_divide w0_thicketref02_divide j2_thicketref02_divide b_thicketref02_divide a_thicketref02_divide b_thicketref02_Divide a_thicketref02_Divide
theorem shr1_u32 (x : Nat) : binInt .shr .u32 x 1 = some (.int .u32 (x / 2 : Nat)) := shr_32 x 1 (by decide)
theorem size_loop : ∀ (n b x : Nat), b + n ≤ 281474976710656 → nbits x = n → Exec T l0_thicketref02_size [(3, .v (.int .i64 b)), (4, .v (.int .u32 x))] = some (.exit 0, [(3, .v (.int .i64 (b + n : Nat))), (4, .v (.int .u32 0))]) := by
  intro n
  induction n with
  | zero =>
    intro b x hb hx
    have h0 : x = 0 := by
      refine Classical.byContradiction fun h => ?_
      rw [nbits_pos h] at hx
      omega
    subst h0
    rw [ex0_thicketref02_size]
    simp
  | succ n ih =>
    intro b x hb hx
    have h0 : x ≠ 0 := by rintro rfl; rw [nbits_zero] at hx; omega
    rw [nbits_pos h0] at hx
    have h1 := ih (b + 1) (x / 2) (by omega) (by omega)
    have hw : IntKind.i64.wrap ((b : Int) + 1) = (b : Int) + 1 := by rw [wrap_i64] <;> omega
    have hs := shr1_u32 x
    obtain ⟨y, hy⟩ : ∃ y, x / 2 = y := ⟨_, rfl⟩
    rw [hy] at h1 hs
    have hp : 0 < x := by omega
    rw [succ_cast, show b + 1 + n = b + (n + 1) by omega] at h1
    rw [← h1, ex0_thicketref02_size]
    simp [-binInt_shr, hp, hw, hs]
theorem c2_size (v : Nat) (h : Fit (limbs v)) : Cinf T n_thicketref02_size [.ro 1 (ul (limbs v))] = some (.v (.int .i64 (nbits v : Nat)), [.dead]) := by
  rw [run_thicketref02_size]
  by_cases hv : v = 0
  · subst hv
    rw [limbs_zero, nbits_zero]
    simp [Run]
  · obtain ⟨n, x, hn, hl, hx, hxl, hx0, hb⟩ := limbs_top hv
    have hf := h.2
    have hne : ¬ limbs v = [] := by intro e; rw [e] at hl; simp at hl
    have h1 := size_loop (nbits x) (32 * n) x (by have := nbits_le (k := 32) (n := x) (by omega); omega) rfl
    rw [← hb] at h1
    have w1 : IntKind.i64.wrap (((limbs v).length : Int) - 1) = (n : Int) := by rw [wrap_i64] <;> omega
    have w2 : IntKind.i64.wrap (32 * (n : Int)) = ((32 * n : Nat) : Int) := by rw [wrap_i64] <;> omega
    obtain ⟨m, hm⟩ : ∃ m, 32 * n = m := ⟨_, rfl⟩
    rw [hm] at h1 w2
    simp [Run, hne, w1, w2, hn, hx, h1]
theorem c2_Size (v : Nat) (h : Fit (limbs v)) : Cinf T n_thicketref02_Size [.ro 1 (ul (limbs v))] = some (.v (.int .i64 (nbits v : Nat)), [.dead]) := by
  have h0 := c2_size v h
  rw [run_thicketref02_Size]
  simp [Run, h0]
theorem upz_loop (l : List Nat) (n q : Nat) (hq : n / 32 = q) (hql : q ≤ 1099511627776) : ∀ (m i : Nat), q - i = m → i ≤ q →
    Exec T l0_thicketref02_up [(0, .ro 1 (ul l)), (1, .v (.int .i64 n)), (5, .own 1 (ul (List.replicate i 0))), (6, .v (.int .i64 i)), (21, .dead), (44, .dead), (51, .dead)] = some (.exit 0, [(0, .ro 1 (ul l)), (1, .v (.int .i64 n)), (5, .own 1 (ul (List.replicate q 0))), (6, .v (.int .i64 q)), (21, .dead), (44, .dead), (51, .dead)]) := by
  intro m
  have q1 : (n : Int).tdiv 32 = (q : Int) := by rw [← hq]; rfl
  have w1 : IntKind.i64.wrap (q : Int) = q := by rw [wrap_i64] <;> omega
  have q3 : binInt .quo .i64 n 32 = some (.int .i64 (q : Nat)) := by rw [binInt_quo, if_neg (by decide), q1, w1]
  induction m with
  | zero =>
    intro i hm hi
    obtain rfl : i = q := by omega
    rw [ex0_thicketref02_up]
    simp [-binInt_quo, q3]
  | succ m ih =>
    intro i hm hi
    have hlt : i < q := by omega
    have hw := wrap_succ hlt (by omega)
    have h0 := ih (i + 1) (by omega) (by omega)
    have e1 : i ≤ 35184372088831 := by omega
    have e2 : i ≤ 4611686018427387903 := by omega
    have e3 : (i + 1) * 4 ≤ 140737488355328 := by omega
    rw [List.replicate_succ', ul_snoc, succ_cast] at h0
    rw [← h0, ex0_thicketref02_up]
    simp [-binInt_quo, q3, hlt, hw, e1, e2, e3]
theorem up2_loop (l : List Nat) (h : Fit l) (q r P : Nat) (hr32 : r < 32) (hP : 2 ^ r = P) (hq : q ≤ 1099511627776) : ∀ (m k c : Nat) (out : List Nat), l.length - k = m → k ≤ l.length → c < P → Lim out → out.length = q + k → 4294967296 ^ q * P * val (l.take k) = val out + 4294967296 ^ (q + k) * c →
    ∃ (out' : List Nat) (c' : Nat), Exec T l1_thicketref02_up [(0, .ro 1 (ul l)), (5, .own 1 (ul out)), (7, .v (.int .u64 r)), (8, .v (.int .u64 c)), (9, .v (.int .i64 k)), (21, .dead), (44, .dead), (51, .dead)] =
      some (.exit 2, [(0, .ro 1 (ul l)), (5, .own 1 (ul out')), (7, .v (.int .u64 r)), (8, .v (.int .u64 c')), (9, .v (.int .i64 l.length)), (21, .dead), (44, .dead), (51, .dead)]) ∧ c' < P ∧ Lim out' ∧ out'.length = q + l.length ∧ 4294967296 ^ q * P * val l = val out' + 4294967296 ^ (q + l.length) * c' := by
  intro m
  induction m with
  | zero =>
    intro k c out hn hk hc hl ho hv
    obtain rfl : k = l.length := by omega
    refine ⟨out, c, ?_, hc, hl, ho, ?_⟩
    · rw [ex1_thicketref02_up]
      simp
    · rwa [List.take_of_length_le (Nat.le_refl _)] at hv
  | succ m ih =>
    intro k c out hn hk hc hl ho hv
    have hlt : k < l.length := by omega
    have hal := h.2
    have hw := wrap_succ hlt (by omega)
    have hxl := h.1.get hlt
    obtain ⟨x, hx⟩ : ∃ x, l[k] = x := ⟨_, rfl⟩
    rw [hx] at hxl
    have hp31 := pow31 (r := r) hr32
    have hol := or_low (x := x) (by rw [hP]; exact hc)
    have hxp : x * P ≤ 4294967295 * 2147483648 := Nat.mul_le_mul (by omega) (by rw [← hP]; exact hp31)
    have hsh := shl_64 x r (by omega) (by rw [hP]; omega)
    rw [hP] at hol hsh hp31
    have hvk := val_take_succ' hlt hx
    have hsB : c + x * P < 4294967296 * P := by
      have : (x + 1) * P ≤ 4294967296 * P := Nat.mul_le_mul_right _ (by omega)
      rw [Nat.add_mul] at this
      omega
    obtain ⟨t, ht⟩ : ∃ t, x * P = t := ⟨_, rfl⟩
    obtain ⟨s, hs⟩ : ∃ s, c + x * P = s := ⟨_, rfl⟩
    have hst := up_step hv hs
    rw [hs] at hsB
    have hor := or64 (x := c) (y := t) (e := s) (by omega) (by omega) (by rw [← ht, hol, hs])
    rw [ht] at hsh hxp
    have w0 := u64_nat (k := x) (by omega)
    obtain ⟨lo, hlo⟩ : ∃ lo, s % 4294967296 = lo := ⟨_, rfl⟩
    obtain ⟨hi, hhi⟩ : ∃ hi, s / 4294967296 = hi := ⟨_, rfl⟩
    have h1 := mod_u32 s
    have h2 := shr32_64 hhi
    rw [hlo] at h1 hst
    rw [hhi] at hst
    obtain ⟨out', c', h0, h3, h4, h5, h6⟩ := ih (k + 1) hi (out ++ [lo]) (by omega) (by omega) (by rw [← hhi]; exact Nat.div_lt_of_lt_mul hsB) (hl.append (Lim.one (by omega))) (by simp [ho]; omega) (by
      rw [hvk, Nat.mul_add, ← hst, val_snoc, ho])
    refine ⟨out', c', ?_, h3, h4, h5, h6⟩
    rw [succ_cast, ul_snoc] at h0
    have e1 : q + k ≤ 35184372088831 := by omega
    have e2 : q + k ≤ 4611686018427387903 := by omega
    have e3 : (q + k + 1) * 4 ≤ 140737488355328 := by omega
    rw [← h0, ex1_thicketref02_up]
    simp [-binInt_shl, -binInt_or, -binInt_shr, hlt, hx, hw, w0, hsh, hor, h1, h2, ho, e1, e2, e3]
theorem c2_up (v n : Nat) (h : Fit (limbs v)) (hn : n ≤ 1048576) : Cinf T n_thicketref02_up [.ro 1 (ul (limbs v)), .v (.int .i64 n)] = some (.own 1 (ul (limbs (v * 2 ^ n))), [.dead, .dead]) := by
  rw [run_thicketref02_up]
  by_cases hv : v = 0
  · subst hv
    rw [limbs_zero, Nat.zero_mul, limbs_zero]
    simp [Run]
  · have hf := h.2
    have hne : ¬ limbs v = [] := by rw [limbs_pos hv]; simp
    obtain ⟨q, hq⟩ : ∃ q, n / 32 = q := ⟨_, rfl⟩
    obtain ⟨r, hr⟩ : ∃ r, n % 32 = r := ⟨_, rfl⟩
    obtain ⟨P, hP⟩ : ∃ P, 2 ^ r = P := ⟨_, rfl⟩
    have hr32 : r < 32 := by omega
    have hPp : 0 < P := by rw [← hP]; exact Nat.two_pow_pos _
    have hzl : Lim (List.replicate q 0) := fun y hy => by rw [(List.mem_replicate.1 hy).2]; omega
    have z0 := upz_loop (limbs v) n q hq (by omega) q 0 rfl (Nat.zero_le _)
    obtain ⟨out, c, k0, k1, k2, k3, k4⟩ := up2_loop (limbs v) h q r P hr32 hP (by omega) (limbs v).length 0 0 (List.replicate q 0) rfl (Nat.zero_le _) hPp hzl (by simp) (by rw [val_zeros]; simp [val])
    have hp31 := pow31 hr32
    rw [hP] at hp31
    have hlo : Lim (out ++ [c]) := k2.append (Lim.one (by omega))
    have t := c2_norm (out ++ [c]) (by simp; omega) hlo
    have hval : 4294967296 ^ q * P * val (limbs v) = v * 2 ^ n := by rw [val_limbs, pow_split n, hq, hr, hP, Nat.mul_comm]
    rw [val_snoc, k3, ← k4, ul_snoc, hval] at t
    have q2 : (n : Int).tmod 32 = (r : Int) := by rw [← hr]; rfl
    have q4 : binInt .rem .i64 n 32 = some (.int .i64 (r : Nat)) := by rw [binInt_rem, if_neg (by decide), q2]
    have w0 := u64_nat (k := r) (by omega)
    have w1 := u32_nat (k := c) (by omega)
    have e1 : q + (limbs v).length ≤ 35184372088831 := by omega
    have e2 : q + (limbs v).length ≤ 4611686018427387903 := by omega
    have e3 : (q + (limbs v).length + 1) * 4 ≤ 140737488355328 := by omega
    simp only [Int.natCast_zero, List.replicate_zero, ul_nil] at z0 k0
    simp [-binInt_rem, Run, hne, z0, k0, t, q4, w0, w1, k3, e1, e2, e3]
theorem c2_Up (v n : Nat) (h : Fit (limbs v)) (hn : n ≤ 1048576) : Cinf T n_thicketref02_Up [.ro 1 (ul (limbs v)), .v (.int .i64 n)] = some (.own 1 (ul (limbs (v * 2 ^ n))), [.dead, .dead]) := by
  have h0 := c2_up v n h hn
  rw [run_thicketref02_Up]
  simp [Run, h0]
theorem minus_step {A P Q k x y br d br' : Nat} (hv : A + 4294967296 ^ k * br = P + Q) (h : x + 4294967296 * br' = d + y + br) : A + 4294967296 ^ k * x + 4294967296 ^ (k + 1) * br' = (P + 4294967296 ^ k * d) + (Q + 4294967296 ^ k * y) := by
  have e1 : 4294967296 ^ k * x + 4294967296 ^ k * (4294967296 * br') = 4294967296 ^ k * d + 4294967296 ^ k * y + 4294967296 ^ k * br := by rw [← Nat.mul_add, ← Nat.mul_add, ← Nat.mul_add, h]
  rw [Nat.pow_succ, Nat.mul_assoc]
  omega
theorem minus_loop (a b : List Nat) (ha : Fit a) (hb : Fit b) : ∀ (n k br : Nat) (out : List Nat), a.length - k = n → k ≤ a.length → br ≤ 1 → Lim out → out.length = k → val (a.take k) + 4294967296 ^ k * br = val out + val (b.take k) →
    ∃ (out' : List Nat) (br' : Nat), Exec T l0_thicketref02_minus [(0, .ro 1 (ul a)), (1, .ro 1 (ul b)), (5, .own 1 (ul out)), (6, .v (.int .i64 (-(br : Int)))), (7, .v (.int .i64 k)), (36, .dead)] =
      some (.exit 0, [(0, .ro 1 (ul a)), (1, .ro 1 (ul b)), (5, .own 1 (ul out')), (6, .v (.int .i64 (-(br' : Int)))), (7, .v (.int .i64 a.length)), (36, .dead)]) ∧ br' ≤ 1 ∧ Lim out' ∧ out'.length = a.length ∧ val a + 4294967296 ^ a.length * br' = val out' + val (b.take a.length) := by
  intro n
  induction n with
  | zero =>
    intro k br out hn hk hbr hl ho hv
    obtain rfl : k = a.length := by omega
    refine ⟨out, br, ?_, hbr, hl, ho, ?_⟩
    · rw [ex0_thicketref02_minus]
      simp
    · rwa [List.take_of_length_le (Nat.le_refl _)] at hv
  | succ n ih =>
    intro k br out hn hk hbr hl ho hv
    have hal := ha.2
    have hlt : k < a.length := by omega
    have hw := wrap_succ hlt (by omega)
    obtain ⟨x, hx⟩ : ∃ x, a[k] = x := ⟨_, rfl⟩
    have hxl := ha.1.get hlt
    rw [hx] at hxl
    obtain ⟨y, hy⟩ : ∃ y, at0 b k = y := ⟨_, rfl⟩
    have hyl := at0_lt hb.1 k
    rw [hy] at hyl
    obtain ⟨br', hbr'⟩ : ∃ z, (if x < y + br then 1 else 0 : Nat) = z := ⟨_, rfl⟩
    have hb2 : br' ≤ 1 := by rw [← hbr']; split <;> omega
    obtain ⟨d, hd⟩ : ∃ d, x + 4294967296 * br' - y - br = d := ⟨_, rfl⟩
    have hst : x + 4294967296 * br' = d + y + br := by rw [← hd, ← hbr']; split <;> omega
    have hdl : d < 4294967296 := by rw [← hd, ← hbr']; split <;> omega
    have hv2 : val (a.take (k + 1)) + 4294967296 ^ (k + 1) * br' = val (out ++ [d]) + val (b.take (k + 1)) := by
      rw [val_take_succ' hlt hx, val_snoc, ho, val_take_succ b, hy]
      exact minus_step hv hst
    obtain ⟨out', b2, h0, h3⟩ := ih (k + 1) br' (out ++ [d]) (by omega) (by omega) hb2 (hl.append (Lim.one hdl)) (by simp [ho]) hv2
    refine ⟨out', b2, ?_, h3⟩
    have w0 : IntKind.i64.wrap (x : Int) = x := by rw [wrap_i64] <;> omega
    have w1 : IntKind.i64.wrap (y : Int) = y := by rw [wrap_i64] <;> omega
    obtain ⟨c1, hc1⟩ : ∃ c : Int, -(br : Int) + x = c := ⟨_, rfl⟩
    have w2 : IntKind.i64.wrap (-(br : Int) + x) = c1 := by rw [wrap_i64] <;> omega
    obtain ⟨c2, hc2⟩ : ∃ c : Int, c1 - y = c := ⟨_, rfl⟩
    have w3 : IntKind.i64.wrap (c1 - y) = c2 := by rw [wrap_i64] <;> omega
    have w4 : IntKind.u32.wrap c2 = (d : Int) := by
      simp only [IntKind.wrap, IntKind.signed, IntKind.bits]
      simp
      omega
    have w5 : binInt .shr .i64 c2 32 = some (.int .i64 (-(br' : Int))) := by
      rw [binInt_shr, if_neg (by decide)]
      show some (Value.int .i64 (c2.fdiv 4294967296)) = _
      rw [Int.fdiv_eq_ediv_of_nonneg _ (by decide)]
      congr 2
      omega
    have e1 : k ≤ 35184372088831 := by omega
    have e2 : k ≤ 4611686018427387903 := by omega
    have e3 : (k + 1) * 4 ≤ 140737488355328 := by omega
    rw [succ_cast, ul_snoc] at h0
    rw [← h0, ex0_thicketref02_minus]
    by_cases hkb : k < b.length
    · have hyb : b[k] = y := by rw [← hy, at0_in hkb]
      simp [-binInt_shr, hlt, hx, hw, hkb, hyb, w0, w1, w2, w3, w4, w5, ho, e1, e2, e3]
    · have hyb : y = 0 := by rw [← hy, at0_out hkb]
      have hc : c1 = c2 := by rw [← hc2, hyb]; simp
      rw [hc] at w2
      simp [-binInt_shr, hlt, hx, hw, hkb, w0, w2, w4, w5, ho, e1, e2, e3]
theorem c2_minus (m n : Nat) (ha : Fit (limbs m)) (hb : Fit (limbs n)) (hle : n ≤ m) : Cinf T n_thicketref02_minus [.ro 1 (ul (limbs m)), .ro 1 (ul (limbs n))] = some (.own 1 (ul (limbs (m - n))), [.dead, .dead]) := by
  obtain ⟨o, br, h0, h1, h2, h3, h4⟩ := minus_loop (limbs m) (limbs n) ha hb (limbs m).length 0 0 [] rfl (Nat.zero_le _) (by omega) Lim.nil rfl (by simp [val])
  have hlen := limbs_mono hle
  rw [List.take_of_length_le hlen, val_limbs, val_limbs] at h4
  have hlt := val_lt h2
  rw [h3] at hlt
  have hbr : br = 0 := by
    rcases Nat.lt_or_ge 0 br with h | h
    · have : br = 1 := by omega
      rw [this, Nat.mul_one] at h4
      omega
    · omega
  rw [hbr, Nat.mul_zero, Nat.add_zero] at h4
  have t := c2_norm o (by have := ha.2; omega) h2
  rw [show val o = m - n by omega] at t
  simp only [Int.natCast_zero, ul_nil] at h0
  simp at h0
  rw [run_thicketref02_minus]
  simp [Run, h0, t]
end Go.AM.F

/- The document's naturals: quotients bit by bit. No conditions. -/
namespace Go.AM.F
open Go Go.AM
set_option maxRecDepth 10000
set_option linter.unusedSimpArgs false
attribute [local simp] j0_thicketref02_divide j1_thicketref02_divide w0_thicketref02_divide j2_thicketref02_divide b_thicketref02_divide a_thicketref02_divide b_thicketref02_Divide a_thicketref02_Divide
theorem fit_mono {m n : Nat} (h : Fit (limbs n)) (hle : m ≤ n) : Fit (limbs m) := ⟨limbs_lim m, Nat.le_trans (limbs_mono hle) h.2⟩
theorem fit_small {n : Nat} (k : Nat) (h : n < 4294967296 ^ k) (hk : k ≤ 1099511627776) : Fit (limbs n) := ⟨limbs_lim n, Nat.le_trans (limbs_len_le h) hk⟩
theorem wrap_mod64 (n : Nat) : IntKind.u64.wrap (n : Int) = ((n % 18446744073709551616 : Nat) : Int) := by
  simp only [IntKind.wrap, IntKind.signed, IntKind.bits]
  simp
theorem shl1_64 {k P : Nat} (hk : k ≤ 64) (hP : 2 ^ k % 18446744073709551616 = P) : binInt .shl .u64 1 k = some (.int .u64 (P : Nat)) := by
  have h1 : ¬ (k : Int) < 0 := by omega
  rw [binInt_shl, if_neg h1, Int.toNat_natCast, show IntKind.u64.bits = 64 from rfl, Nat.min_eq_left hk, show (1 : Int) * 2 ^ k = ((2 ^ k : Nat) : Int) by simp, wrap_mod64, hP]
def dvE (B R q : Nat) (k : Int) : Env := [(0, .ro 1 (ul (limbs R))), (1, .ro 1 (ul (limbs B))), (6, .v (.int .u64 q)), (8, .v (.int .i64 k)), (29, .dead)]
theorem divide_step (B R q k P : Nat) (hk : k ≤ 64) (hR : Fit (limbs R)) (hB : Fit (limbs B)) (hBk : Fit (limbs (B * 2 ^ k))) (hP : 2 ^ k % 18446744073709551616 = P) (hq : q < 18446744073709551616) {q2 : Nat} (hor : q ||| P = q2) :
    Exec T l0_thicketref02_divide (dvE B R q k) = Exec T l0_thicketref02_divide (if R < B * 2 ^ k then dvE B R q ((k : Int) - 1) else dvE B (R - B * 2 ^ k) q2 ((k : Int) - 1)) := by
  have h1 := c2_up B k hB (by omega)
  have h2 := c2_cmp R (B * 2 ^ k) hR hBk
  have w1 : IntKind.i64.wrap ((k : Int) - 1) = (k : Int) - 1 := by rw [wrap_i64] <;> omega
  by_cases hlt : R < B * 2 ^ k
  · rw [if_pos hlt]
    rw [cmp_lt hlt] at h2
    obtain ⟨C, hC⟩ : ∃ C, B * 2 ^ k = C := ⟨_, rfl⟩
    rw [hC] at h1 h2
    rw [ex0_thicketref02_divide]
    unfold dvE
    simp [h1, h2, w1]
  · rw [if_neg hlt]
    have h3 := c2_minus R (B * 2 ^ k) hR hBk (by omega)
    have hcn : ¬ cmpN R (B * 2 ^ k) < 0 := by
      unfold cmpN
      rw [if_neg hlt]
      split <;> decide
    have hcn2 : 0 ≤ cmpN R (B * 2 ^ k) := by omega
    obtain ⟨C, hC⟩ : ∃ C, B * 2 ^ k = C := ⟨_, rfl⟩
    rw [hC] at h1 h2 h3 hcn hcn2 ⊢
    have hPl : P < 18446744073709551616 := by rw [← hP]; exact Nat.mod_lt _ (by decide)
    have h4 := shl1_64 hk hP
    have h5 := or64 hq hPl hor
    have w2 := u64_nat (k := k) (by omega)
    rw [ex0_thicketref02_divide]
    unfold dvE
    simp [-binInt_shl, -binInt_or, h1, h2, h3, w1, w2, h4, h5, hcn, hcn2]
theorem divide_stop (B R q : Nat) (k : Int) (hk : k < 0) : Exec T l0_thicketref02_divide (dvE B R q k) = some (.exit 0, dvE B R q k) := by
  have h1 : ¬ 0 ≤ k := by omega
  rw [ex0_thicketref02_divide]
  unfold dvE
  simp [h1, hk]
theorem divide_loop (B : Nat) (hB : ∀ k, k ≤ 64 → Fit (limbs (B * 2 ^ k))) (hB0 : 0 < B) : ∀ (k R q Q : Nat), k ≤ 64 → Fit (limbs R) → R < B * 2 ^ k → q = Q * 2 ^ k → q + 2 ^ k ≤ 18446744073709551616 →
    Exec T l0_thicketref02_divide (dvE B R q ((k : Int) - 1)) = some (.exit 0, dvE B (R % B) (q + R / B) (-1)) := by
  intro k
  induction k with
  | zero =>
    intro R q Q hk hR hlt hq hs
    rw [Nat.pow_zero, Nat.mul_one] at hlt
    rw [Nat.mod_eq_of_lt hlt, Nat.div_eq_of_lt hlt, Nat.add_zero]
    exact divide_stop B R q _ (by omega)
  | succ k ih =>
    intro R q Q hk hR hlt hq hs
    have hp : 2 ^ (k + 1) = 2 * 2 ^ k := by rw [Nat.pow_succ, Nat.mul_comm]
    have h264 : 2 ^ k < 18446744073709551616 := by have : 0 < 2 ^ k := Nat.two_pow_pos _; omega
    have hpp : 0 < 2 ^ k := Nat.two_pow_pos _
    have hor : q ||| 2 ^ k = q + 2 ^ k := by
      have := or_low (c := 2 ^ k) (x := Q) (r := k + 1) (by omega)
      rw [Nat.or_comm, hq, this, Nat.add_comm]
    have e := divide_step B R q k (2 ^ k) (by omega) hR (by simpa using hB 0 (by omega)) (hB k (by omega)) (Nat.mod_eq_of_lt h264) (by omega) hor
    rw [show ((k + 1 : Nat) : Int) - 1 = (k : Int) by omega, e]
    by_cases hl : R < B * 2 ^ k
    · rw [if_pos hl]
      exact ih R q (2 * Q) (by omega) hR hl (by rw [hq, hp, ← Nat.mul_assoc, Nat.mul_comm Q 2]) (by omega)
    · rw [if_neg hl]
      have hlt2 : R < B * 2 ^ k + B * 2 ^ k := by rw [hp] at hlt; rw [Nat.mul_left_comm] at hlt; omega
      rw [ih (R - B * 2 ^ k) (q + 2 ^ k) (2 * Q + 1) (by omega) (fit_mono hR (Nat.sub_le _ _)) (by omega) (by rw [hq, hp, Nat.add_mul, Nat.one_mul, ← Nat.mul_assoc, Nat.mul_comm Q 2]) (by omega)]
      have hR2 : R = (R - B * 2 ^ k) + B * 2 ^ k := by omega
      obtain ⟨S, hS⟩ : ∃ S, R - B * 2 ^ k = S := ⟨_, rfl⟩
      rw [hS] at hR2 ⊢
      rw [hR2, Nat.add_mul_mod_self_left, Nat.add_mul_div_left _ _ hB0, Nat.add_assoc, Nat.add_comm (2 ^ k)]
theorem c2_divide (A B : Nat) (hA : Fit (limbs A)) (hB : ∀ k, k ≤ 64 → Fit (limbs (B * 2 ^ k))) (hB0 : 0 < B) (hn : nbits A ≤ nbits B + 64) :
    Cinf T n_thicketref02_divide [.ro 1 (ul (limbs A)), .ro 1 (ul (limbs B))] = some (.tup [.v (.int .u64 (A / B % 18446744073709551616 : Nat)), .ro 1 (ul (limbs (A % B)))], [.dead, .dead]) := by
  have hB1 : Fit (limbs B) := by simpa using hB 0 (by omega)
  have h1 := c2_size A hA
  have h2 := c2_size B hB1
  have n1 : nbits A ≤ 35184372088832 := by have := nbits_val hA.1; rw [val_limbs] at this; have := hA.2; omega
  have n2 : nbits B ≤ 35184372088832 := by have := nbits_val hB1.1; rw [val_limbs] at this; have := hB1.2; omega
  have hAl := lt_nbits A
  have hBl := nbits_low (v := B) (by omega)
  have hBn : 0 < nbits B := by rw [nbits_pos (by omega)]; omega
  have key2 : ∃ k : Int, Exec T l0_thicketref02_divide (dvE B A 0 ((nbits A : Int) - nbits B)) = some (.exit 0, dvE B (A % B) (A / B % 18446744073709551616) k) := by
    by_cases hlt : nbits A < nbits B
    · refine ⟨(nbits A : Int) - nbits B, ?_⟩
      have hAB : A < B := Nat.lt_of_lt_of_le (Nat.lt_of_lt_of_le hAl (Nat.pow_le_pow_right (by decide) (by omega))) hBl
      rw [Nat.mod_eq_of_lt hAB, Nat.div_eq_of_lt hAB, Nat.zero_mod]
      exact divide_stop B A 0 _ (by omega)
    · refine ⟨-1, ?_⟩
      obtain ⟨k, hk⟩ : ∃ k, nbits A = nbits B + k := ⟨nbits A - nbits B, by omega⟩
      have hk64 : k ≤ 64 := by omega
      have hA2 : A < B * 2 ^ (k + 1) := by
        rw [hk, show nbits B + k = (nbits B - 1) + (k + 1) by omega, Nat.pow_add] at hAl
        exact Nat.lt_of_lt_of_le hAl (Nat.mul_le_mul_right _ hBl)
      rw [show (nbits A : Int) - nbits B = (k : Int) by omega]
      by_cases h64 : k = 64
      · subst h64
        rw [show ((64 : Nat) : Int) = ((64 : Nat) : Int) from rfl, divide_step B A 0 64 0 (by omega) hA hB1 (hB 64 (by omega)) (by decide) (by omega) (q2 := 0) (by decide)]
        by_cases hl : A < B * 2 ^ 64
        · rw [if_pos hl, divide_loop B hB hB0 64 A 0 0 (by omega) hA hl (by simp) (by decide), Nat.zero_add, Nat.mod_eq_of_lt (a := A / B)]
          exact Nat.div_lt_of_lt_mul hl
        · rw [if_neg hl]
          have hA3 : A - B * 2 ^ 64 < B * 2 ^ 64 := by omega
          rw [divide_loop B hB hB0 64 (A - B * 2 ^ 64) 0 0 (by omega) (fit_mono hA (Nat.sub_le _ _)) hA3 (by simp) (by decide), Nat.zero_add]
          have hR2 : A = (A - B * 2 ^ 64) + B * 2 ^ 64 := by omega
          have hd : (A - B * 2 ^ 64) / B < 2 ^ 64 := Nat.div_lt_of_lt_mul hA3
          obtain ⟨S, hS⟩ : ∃ S, A - B * 2 ^ 64 = S := ⟨_, rfl⟩
          rw [hS] at hR2 hd ⊢
          rw [hR2, Nat.add_mul_mod_self_left, Nat.add_mul_div_left _ _ hB0, show 18446744073709551616 = 2 ^ 64 from rfl, Nat.add_mod_right, Nat.mod_eq_of_lt hd]
      · have hp : 2 ^ (k + 1) ≤ 18446744073709551616 := show 2 ^ (k + 1) ≤ 2 ^ 64 from Nat.pow_le_pow_right (by decide) (by omega)
        have := divide_loop B hB hB0 (k + 1) A 0 0 (by omega) hA hA2 (by simp) (by omega)
        rw [show ((k + 1 : Nat) : Int) - 1 = (k : Int) by omega, Nat.zero_add] at this
        rw [this, Nat.mod_eq_of_lt (a := A / B)]
        exact Nat.lt_of_lt_of_le (Nat.div_lt_of_lt_mul hA2) hp
  have w1 : IntKind.i64.wrap ((nbits A : Int) - nbits B) = (nbits A : Int) - nbits B := by rw [wrap_i64] <;> omega
  obtain ⟨k, h0⟩ := key2
  obtain ⟨R, hR⟩ : ∃ R, A % B = R := ⟨_, rfl⟩
  obtain ⟨q, hq⟩ : ∃ q, A / B % 18446744073709551616 = q := ⟨_, rfl⟩
  rw [hR, hq] at h0 ⊢
  unfold dvE at h0
  simp only [Int.natCast_zero] at h0
  rw [run_thicketref02_divide]
  simp [Run, h1, h2, w1, h0]
theorem c2_Divide (A B : Nat) (hA : Fit (limbs A)) (hB : ∀ k, k ≤ 64 → Fit (limbs (B * 2 ^ k))) (hB0 : 0 < B) (hn : nbits A ≤ nbits B + 64) :
    Cinf T n_thicketref02_Divide [.ro 1 (ul (limbs A)), .ro 1 (ul (limbs B))] = some (.tup [.v (.int .u64 (A / B % 18446744073709551616 : Nat)), .ro 1 (ul (limbs (A % B)))], [.dead, .dead]) := by
  have h0 := c2_divide A B hA hB hB0 hn
  obtain ⟨R, hR⟩ : ∃ R, A % B = R := ⟨_, rfl⟩
  obtain ⟨q, hq⟩ : ∃ q, A / B % 18446744073709551616 = q := ⟨_, rfl⟩
  rw [hR, hq] at h0 ⊢
  rw [run_thicketref02_Divide]
  simp [Run, h0]
end Go.AM.F

/- Rounded quotients and signed answers; FixedScales. No conditions. -/
namespace Go.AM.F
open Go Go.AM
set_option maxRecDepth 10000
set_option linter.unusedSimpArgs false
attribute [local simp] j0_fixed_amount b_fixed_amount a_fixed_amount j0_thicketref04_amount b_thicketref04_amount a_thicketref04_amount
attribute [local simp] j0_fixed_rounded b_fixed_rounded a_fixed_rounded j0_thicketref04_Rounded j1_thicketref04_Rounded j2_thicketref04_Rounded b_thicketref04_Rounded a_thicketref04_Rounded
attribute [local simp] j0_fixed_signed b_fixed_signed a_fixed_signed j0_thicketref04_signed b_thicketref04_signed a_thicketref04_signed
theorem c_amount (v : Int) (h1 : -9223372036854775808 ≤ v) (h2 : v < 9223372036854775808) : Cinf T n_fixed_amount [.v (.int .i64 v)] = some (.v (.int .u64 (v.natAbs : Nat)), [.dead]) := by
  rw [run_fixed_amount]
  by_cases h : v < 0
  · have w1 : IntKind.u64.wrap v = v + 18446744073709551616 := by
      simp only [IntKind.wrap, IntKind.signed, IntKind.bits]
      simp
      omega
    have w2 : IntKind.u64.wrap (-(v + 18446744073709551616)) = (v.natAbs : Int) := by
      simp only [IntKind.wrap, IntKind.signed, IntKind.bits]
      simp
      omega
    simp [Run, h, w1, w2]
  · have w1 : IntKind.u64.wrap v = (v.natAbs : Int) := by rw [wrap_u64] <;> omega
    simp [Run, h, w1]
theorem c4_amount (v : Int) (h1 : -9223372036854775808 ≤ v) (h2 : v < 9223372036854775808) : Cinf T n_thicketref04_amount [.v (.int .i64 v)] = some (.v (.int .u64 (v.natAbs : Nat)), [.dead]) := by
  rw [run_thicketref04_amount]
  by_cases h : v < 0
  · have w1 : IntKind.u64.wrap v = v + 18446744073709551616 := by
      simp only [IntKind.wrap, IntKind.signed, IntKind.bits]
      simp
      omega
    have w2 : IntKind.u64.wrap (-(v + 18446744073709551616)) = (v.natAbs : Int) := by
      simp only [IntKind.wrap, IntKind.signed, IntKind.bits]
      simp
      omega
    simp [Run, h, w1, w2]
  · have w1 : IntKind.u64.wrap v = (v.natAbs : Int) := by rw [wrap_u64] <;> omega
    simp [Run, h, w1]
/-- The quotient rounded to the nearest, halves to the even one. -/
def rnd (A B : Nat) : Nat := A / B + (if B < 2 * (A % B) ∨ (B = 2 * (A % B) ∧ A / B % 2 = 1) then 1 else 0)
theorem c_rounded (A B : Nat) (hA : Fit (limbs A)) (hB : Fit (limbs B)) (hB0 : B ≠ 0) (hf : Fit (limbs (2 * (A % B)))) :
    Cinf T n_fixed_rounded [.ro 1 (ul (limbs A)), .ro 1 (ul (limbs B))] = some (.own 1 (ul (limbs (rnd A B))), [.dead, .dead]) := by
  have h1 := c_DivMod (limbs A) (limbs B) hA hB
  rw [val_limbs, val_limbs, divR_pos hB0] at h1
  have hq : Fit (limbs (A / B)) := fit_mono hA (Nat.div_le_self _ _)
  have hr : Fit (limbs (A % B)) := fit_mono hA (Nat.mod_le _ _)
  have h2 := c_Add (limbs (A % B)) (limbs (A % B)) hr hr
  rw [val_limbs, ← Nat.two_mul] at h2
  have h3 := c_Cmp (limbs (2 * (A % B))) (limbs B) hf hB
  rw [val_limbs, val_limbs] at h3
  have h4 := c_Bit (limbs (A / B)) hq 0 (by decide)
  have h5 : bitV (limbs (A / B)) 0 = decide (A / B % 2 = 1) := by unfold bitV; simp [val_limbs]
  rw [h5] at h4
  have h6 := c_From 1 (by decide)
  have h7 := c_Add (limbs (A / B)) (limbs 1) hq (fit_small 1 (by decide) (by decide))
  rw [val_limbs, val_limbs] at h7
  unfold rnd
  obtain ⟨q, hq⟩ : ∃ q, A / B = q := ⟨_, rfl⟩
  obtain ⟨r, hr⟩ : ∃ r, A % B = r := ⟨_, rfl⟩
  obtain ⟨d, hd⟩ : ∃ d, 2 * r = d := ⟨_, rfl⟩
  simp only [hq, hr, hd] at *
  simp only [Int.natCast_one] at h6
  rw [run_fixed_rounded]
  rcases Nat.lt_trichotomy d B with hl | hl | hl
  · rw [cmp_lt hl] at h3
    rw [if_neg (by omega)]
    simp [Run, h1, h2, h3]
  · rw [hl] at h3 h2
    have e : cmpN B B = 0 := by simp [cmpN]
    rw [e] at h3
    by_cases ho : q % 2 = 1
    · rw [if_pos (by omega)]
      simp [Run, h1, h2, h3, h4, h6, h7, ho]
    · rw [if_neg (by omega)]
      simp [Run, h1, h2, h3, h4, h6, h7, ho]
  · rw [cmp_gt hl] at h3
    rw [if_pos (by omega)]
    simp [Run, h1, h2, h3, h4, h6, h7]
/-- A sign and an amount as a number of 64 bits, or no answer. -/
def sgnR (neg : Bool) (m : Nat) : PV := if 9223372036854775808 < m ∨ (m = 9223372036854775808 ∧ neg = false) then .tup [.v (.int .i64 0), .v (.bool false)] else .tup [.v (.int .i64 (if neg then -(m : Int) else m)), .v (.bool true)]
theorem c_signed (neg : Bool) (m : Nat) (h : Fit (limbs m)) : Cinf T n_fixed_signed [.v (.bool neg), .ro 1 (ul (limbs m))] = some (sgnR neg m, [.dead, .dead]) := by
  have h1 := c_Small (limbs m) h
  rw [val_limbs] at h1
  rw [run_fixed_signed]
  unfold sgnR
  by_cases hs : (limbs m).length ≤ 2
  · rw [smallR, if_pos hs] at h1
    have hm : m < 18446744073709551616 := by rcases limbs_two hs with ⟨_, hv⟩ | ⟨x, _, hv, hx⟩ | ⟨x, y, _, hv, hx, hy⟩ <;> omega
    rcases Nat.lt_trichotomy m 9223372036854775808 with hl | hl | hl
    · have w1 : IntKind.i64.wrap (m : Int) = m := by rw [wrap_i64] <;> omega
      have w2 : IntKind.i64.wrap (-(m : Int)) = -m := by rw [wrap_i64] <;> omega
      have e1 : ¬ 9223372036854775808 < m := by omega
      have e2 : ¬ m = 9223372036854775808 := by omega
      have e3 : ¬ (m : Int) = 9223372036854775808 := by omega
      rw [if_neg (by omega)]
      cases neg <;> simp [Run, h1, w1, w2, e1, e2, e3]
    · subst hl
      cases neg
      · rw [if_pos (by decide)]
        simp [Run, h1]
      · rw [if_neg (by decide)]
        have w1 : IntKind.i64.wrap 9223372036854775808 = -9223372036854775808 := by decide
        simp [Run, h1, w1]
    · rw [if_pos (.inl hl)]
      simp [Run, h1, hl]
  · rw [smallR, if_neg hs] at h1
    have hm : ¬ m < 18446744073709551616 := fun hm => hs (limbs_len_le (k := 2) hm)
    rw [if_pos (by omega)]
    simp [Run, h1]
theorem c4_signed (neg : Bool) (m : Nat) (h : m < 18446744073709551616) : ∃ j : Int, Cinf T n_thicketref04_signed [.v (.bool neg), .v (.int .u64 m)] = some (if 9223372036854775808 < m ∨ (m = 9223372036854775808 ∧ neg = false) then .tup [.v (.int .i64 j), .v (.bool false)] else .tup [.v (.int .i64 (if neg then -(m : Int) else m)), .v (.bool true)], [.dead, .dead]) := by
  rw [run_thicketref04_signed]
  rcases Nat.lt_trichotomy m 9223372036854775808 with hl | hl | hl
  · have w1 : IntKind.i64.wrap (m : Int) = m := by rw [wrap_i64] <;> omega
    have w2 : IntKind.i64.wrap (-(m : Int)) = -m := by rw [wrap_i64] <;> omega
    have e1 : ¬ 9223372036854775808 < m := by omega
    have e2 : m ≤ 9223372036854775808 := by omega
    have e3 : ¬ m = 9223372036854775808 := by omega
    refine ⟨0, ?_⟩
    rw [if_neg (by omega)]
    cases neg <;> simp [Run, w1, w2, e1, e2, e3, hl]
  · subst hl
    have w1 : IntKind.i64.wrap 9223372036854775808 = -9223372036854775808 := by decide
    cases neg
    · refine ⟨-9223372036854775808, ?_⟩
      rw [if_pos (by decide)]
      simp [Run, w1]
    · refine ⟨0, ?_⟩
      rw [if_neg (by decide)]
      simp [Run, w1]
  · have e2 : ¬ m ≤ 9223372036854775808 := by omega
    have e3 : ¬ m < 9223372036854775808 := by omega
    refine ⟨IntKind.i64.wrap m, ?_⟩
    rw [if_pos (.inl hl)]
    cases neg <;> simp [Run, e2, e3]
theorem rnd_ge (A B : Nat) : A / B ≤ rnd A B := Nat.le_add_right _ _
theorem rnd_le (A B : Nat) : rnd A B ≤ A / B + 1 := by unfold rnd; split <;> omega
theorem quot_big {A B : Nat} (hA0 : A ≠ 0) (hB : B ≤ 9223372036854775808) (hB0 : 0 < B) (h : nbits B + 64 ≤ nbits A) : 9223372036854775808 < A / B := by
  have h1 := nbits_low hA0
  have h2 := lt_nbits B
  have h3 : 2 ^ (nbits B + 63) ≤ A := Nat.le_trans (Nat.pow_le_pow_right (by decide) (by omega)) h1
  rw [Nat.pow_add] at h3
  obtain ⟨P, hP⟩ : ∃ P, 2 ^ nbits B = P := ⟨_, rfl⟩
  rw [hP] at h2 h3
  have h4 : (9223372036854775808 + 1) * B ≤ A := by
    have : (2 : Nat) ^ 63 = 9223372036854775808 := by decide
    omega
  have := (Nat.le_div_iff_mul_le hB0).2 h4
  omega
theorem quot_small {A B : Nat} (h : nbits A < nbits B + 64) (hB0 : 0 < B) : A / B < 18446744073709551616 := by
  have h1 := lt_nbits A
  have h2 := nbits_low (v := B) (by omega)
  have hBn : 0 < nbits B := by rw [nbits_pos (by omega)]; omega
  have h3 : A < 2 ^ ((nbits B - 1) + 64) := Nat.lt_of_lt_of_le h1 (Nat.pow_le_pow_right (by decide) (by omega))
  rw [Nat.pow_add] at h3
  have h4 : A < B * 2 ^ 64 := Nat.lt_of_lt_of_le h3 (Nat.mul_le_mul_right _ h2)
  exact Nat.div_lt_of_lt_mul h4
/-- The document's rounded quotient: in agreement where it is at most 2^63 + 1. -/
theorem c4_Rounded (A B : Nat) (hA : A < 4294967296 ^ 4) (hB : B ≤ 9223372036854775808) (hB0 : 0 < B) :
    Cinf T n_thicketref04_Rounded [.ro 1 (ul (limbs A)), .ro 1 (ul (limbs B))] = some (if nbits B + 64 ≤ nbits A ∨ 9223372036854775808 < A / B then .tup [.v (.int .u64 0), .v (.bool false)] else .tup [.v (.int .u64 (rnd A B : Nat)), .v (.bool true)], [.dead, .dead]) := by
  have hAf : Fit (limbs A) := fit_small 4 hA (by decide)
  have hBk : ∀ k, k ≤ 64 → Fit (limbs (B * 2 ^ k)) := fun k hk => by
    refine fit_small 5 ?_ (by decide)
    have h1 : 2 ^ k ≤ 2 ^ 64 := Nat.pow_le_pow_right (by decide) hk
    have h2 : B * 2 ^ k ≤ 9223372036854775808 * 2 ^ 64 := Nat.mul_le_mul hB h1
    exact Nat.lt_of_le_of_lt h2 (by decide)
  have hBf : Fit (limbs B) := by simpa using hBk 0 (by omega)
  have h1 := c2_Size A hAf
  have h2 := c2_Size B hBf
  have n1 : nbits A ≤ 128 := nbits_le (k := 128) hA
  have n2 : nbits B ≤ 64 := nbits_le (k := 64) (Nat.lt_of_le_of_lt hB (by decide))
  have w1 : IntKind.i64.wrap ((nbits A : Int) - nbits B) = (nbits A : Int) - nbits B := by rw [wrap_i64] <;> omega
  rw [run_thicketref04_Rounded]
  by_cases hn : nbits B + 64 < nbits A
  · rw [if_pos (by omega)]
    have e : (64 : Int) < (nbits A : Int) - nbits B := by omega
    simp [Run, h1, h2, w1, e]
  · have e : ¬ (64 : Int) < (nbits A : Int) - nbits B := by omega
    have h3 := c2_Divide A B hAf hBk hB0 (by omega)
    have hrf : Fit (limbs (A % B)) := fit_mono hAf (Nat.mod_le _ _)
    have hm : A % B < B := Nat.mod_lt _ hB0
    by_cases hn2 : nbits A = nbits B + 64
    · rw [if_pos (by omega)]
      have e2 : (nbits A : Int) - nbits B = 64 := by omega
      obtain ⟨q, hq⟩ : ∃ q, A / B % 18446744073709551616 = q := ⟨_, rfl⟩
      obtain ⟨r, hr⟩ : ∃ r, A % B = r := ⟨_, rfl⟩
      rw [hq, hr] at h3
      rw [e2] at w1
      by_cases hg : 9223372036854775808 < q
      · simp [Run, h1, h2, e2, w1, h3, hg]
      · simp [Run, h1, h2, e2, w1, h3, hg]
    · have e2 : ¬ (nbits A : Int) - nbits B = 64 := by omega
      have hs := quot_small (A := A) (B := B) (by omega) hB0
      rw [Nat.mod_eq_of_lt hs] at h3
      have h4 := c2_Up (A % B) 1 hrf (by decide)
      have h5 := c2_Cmp (A % B * 2 ^ 1) B (fit_small 3 (by
        have : A % B * 2 ^ 1 < 18446744073709551616 := by omega
        exact Nat.lt_trans this (by decide)) (by decide)) hBf
      rw [show A % B * 2 ^ 1 = 2 * (A % B) by omega] at h4 h5
      have hq0 := rnd_le A B
      unfold rnd at hq0 ⊢
      obtain ⟨q, hq⟩ : ∃ q, A / B = q := ⟨_, rfl⟩
      obtain ⟨r, hr⟩ : ∃ r, A % B = r := ⟨_, rfl⟩
      obtain ⟨d, hd⟩ : ∃ d, 2 * r = d := ⟨_, rfl⟩
      simp only [hq, hr, hd] at *
      simp only [Int.natCast_one] at h4
      by_cases hg : 9223372036854775808 < q
      · rw [if_pos (.inr hg)]
        simp [Run, h1, h2, e, e2, w1, h3, hg]
      · rw [if_neg (by omega)]
        have w2 : IntKind.u64.wrap ((q : Int) + 1) = (q : Int) + 1 := by rw [wrap_u64] <;> omega
        rcases Nat.lt_trichotomy d B with hl | hl | hl
        · rw [cmp_lt hl] at h5
          rw [if_neg (by omega)]
          simp [Run, h1, h2, e, e2, w1, h3, hg, h4, h5]
        · subst hl
          have e3 : cmpN d d = 0 := by simp [cmpN]
          rw [e3] at h5
          have q4 : binInt .rem .u64 q 2 = some (.int .u64 (q % 2 : Nat)) := by rw [binInt_rem, if_neg (by decide)]; rfl
          obtain ⟨o, ho⟩ : ∃ o, q % 2 = o := ⟨_, rfl⟩
          rw [ho] at q4
          by_cases ho1 : o = 1
          · subst ho1
            rw [if_pos (by omega)]
            simp [-binInt_rem, Run, h1, h2, e, e2, w1, h3, hg, h4, h5, q4, w2]
          · rw [if_neg (by omega)]
            have ho2 : ¬ (o : Int) = 1 := by omega
            simp [-binInt_rem, Run, h1, h2, e, e2, w1, h3, hg, h4, h5, q4, ho1, ho2]
        · rw [cmp_gt hl] at h5
          rw [if_pos (by omega)]
          simp [Run, h1, h2, e, e2, w1, h3, hg, h4, h5, w2]
end Go.AM.F

/- The binary64 nearest to a quotient: its exponent and its mantissa, in plain numbers. No conditions. -/
namespace Go.AM.F
open Go Go.AM
set_option linter.unusedSimpArgs false

/-! ### Quotients rounded -/
theorem rnd_near (A B : Nat) (hB : 0 < B) : 2 * (rnd A B * B) ≤ 2 * A + B ∧ 2 * A ≤ 2 * (rnd A B * B) + B := by
  have h1 := Nat.div_add_mod A B
  have h2 := Nat.mod_lt A hB
  unfold rnd
  generalize A / B = q at *
  generalize A % B = r at *
  have h3 : B * q = q * B := Nat.mul_comm _ _
  split
  · rename_i h
    rw [Nat.add_mul]
    omega
  · rename_i h
    rw [Nat.add_zero]
    omega
theorem rnd_even (A B : Nat) (hB : 0 < B) (h : 2 * (rnd A B * B) = 2 * A + B ∨ 2 * A = 2 * (rnd A B * B) + B) : rnd A B % 2 = 0 := by
  have h1 := Nat.div_add_mod A B
  have h2 := Nat.mod_lt A hB
  unfold rnd at h ⊢
  generalize A / B = q at *
  generalize A % B = r at *
  have h3 : B * q = q * B := Nat.mul_comm _ _
  split at h
  · rename_i hc
    rw [if_pos hc]
    rw [Nat.add_mul] at h
    omega
  · rename_i hc
    rw [if_neg hc]
    rw [Nat.add_zero] at h ⊢
    omega
theorem rnd_unique {A B n : Nat} (hB : 0 < B) (h1 : 2 * (n * B) < 2 * A + B) (h2 : 2 * A < 2 * (n * B) + B) : rnd A B = n := by
  obtain ⟨g1, g2⟩ := rnd_near A B hB
  rcases Nat.lt_trichotomy (rnd A B) n with h | h | h
  · exfalso
    have h3 : rnd A B + 1 ≤ n := h
    have h4 := Nat.mul_le_mul_right B h3
    rw [Nat.add_mul] at h4
    omega
  · exact h
  · exfalso
    have h3 : n + 1 ≤ rnd A B := h
    have h4 := Nat.mul_le_mul_right B h3
    rw [Nat.add_mul] at h4
    omega
theorem rnd_mono {A A' B : Nat} (hB : 0 < B) (h : A ≤ A') : rnd A B ≤ rnd A' B := by
  have h1 := Nat.div_add_mod A B
  have h2 := Nat.mod_lt A hB
  have h3 := Nat.div_add_mod A' B
  have h4 := Nat.mod_lt A' hB
  have hq : A / B ≤ A' / B := Nat.div_le_div_right h
  rcases Nat.eq_or_lt_of_le hq with e | l
  · unfold rnd
    rw [e] at h1 ⊢
    generalize A' / B = q at *
    generalize A % B = r at *
    generalize A' % B = r' at *
    have h5 : r ≤ r' := by omega
    split
    · rename_i hc
      rw [if_pos (by omega)]
      exact Nat.le_refl _
    · omega
  · have := rnd_ge A' B
    have := rnd_le A B
    omega
theorem rnd_scale (A B g : Nat) (hg : 0 < g) : rnd (g * A) (g * B) = rnd A B := by
  unfold rnd
  rw [Nat.mul_div_mul_left _ _ hg, Nat.mul_mod_mul_left]
  have e1 : g * B < 2 * (g * (A % B)) ↔ B < 2 * (A % B) := by
    rw [Nat.mul_left_comm 2 g]
    exact Nat.mul_lt_mul_left hg
  have e2 : g * B = 2 * (g * (A % B)) ↔ B = 2 * (A % B) := by
    rw [Nat.mul_left_comm 2 g]
    exact Nat.mul_right_inj (by omega)
  simp only [e1, e2]
theorem rnd_one (A : Nat) : rnd A 1 = A := by
  unfold rnd
  simp [Nat.mod_one]
/-! ### Bits of numbers -/
theorem nbits_lt : ∀ {k n : Nat}, nbits n ≤ k → n < 2 ^ k
  | 0, n, h => by
    by_cases h0 : n = 0
    · rw [h0]; decide
    · rw [nbits_pos h0] at h
      omega
  | k + 1, n, h => by
    by_cases h0 : n = 0
    · rw [h0]; exact Nat.two_pow_pos _
    · rw [nbits_pos h0] at h
      have := nbits_lt (k := k) (n := n / 2) (by omega)
      rw [Nat.pow_succ]
      omega
theorem nbits_low' {n : Nat} (h : n ≠ 0) : 2 ^ (nbits n - 1) ≤ n := by
  rcases Nat.lt_or_ge n (2 ^ (nbits n - 1)) with hl | hl
  · have h1 := nbits_le hl
    rw [nbits_pos h] at h1
    rw [nbits_pos h] at hl
    exfalso
    omega
  · exact hl
theorem nbits_iff {n k : Nat} : nbits n ≤ k ↔ n < 2 ^ k := ⟨nbits_lt, nbits_le⟩

/-! ### The exponent -/
def qA (n : Nat) (e : Int) : Nat := n * 2 ^ (-e).toNat
def qB (d : Nat) (e : Int) : Nat := d * 2 ^ e.toNat
def qQ (n d : Nat) (e : Int) : Nat := qA n e / qB d e
theorem qB_pos {d : Nat} (hd : 0 < d) (e : Int) : 0 < qB d e := Nat.mul_pos hd (Nat.two_pow_pos _)
/-- One step up halves the quotient. -/
theorem qAB_succ (n d : Nat) (e : Int) : (qA n e = 2 * qA n (e + 1) ∧ qB d (e + 1) = qB d e) ∨ (qA n (e + 1) = qA n e ∧ qB d (e + 1) = 2 * qB d e) := by
  unfold qA qB
  by_cases h : e < 0
  · left
    have h1 : (-e).toNat = (-(e + 1)).toNat + 1 := by omega
    have h2 : (e + 1).toNat = e.toNat := by omega
    rw [h1, h2, Nat.pow_succ]
    exact ⟨by rw [Nat.mul_comm (2 ^ _) 2, Nat.mul_left_comm], rfl⟩
  · right
    have h1 : (-(e + 1)).toNat = (-e).toNat := by omega
    have h2 : (e + 1).toNat = e.toNat + 1 := by omega
    rw [h1, h2, Nat.pow_succ]
    exact ⟨rfl, by rw [Nat.mul_comm (2 ^ _) 2, Nat.mul_left_comm]⟩
theorem qQ_succ {n d : Nat} (hd : 0 < d) (e : Int) : qQ n d (e + 1) = qQ n d e / 2 := by
  unfold qQ
  have hp := qB_pos hd e
  rcases qAB_succ n d e with ⟨h1, h2⟩ | ⟨h1, h2⟩
  · rw [h1, h2, Nat.div_div_eq_div_mul, Nat.mul_comm _ 2, Nat.mul_div_mul_left _ _ (by decide)]
  · rw [h1, h2, Nat.div_div_eq_div_mul, Nat.mul_comm 2]
theorem qQ_anti {n d : Nat} (hd : 0 < d) (e : Int) : ∀ k : Nat, qQ n d (e + k) ≤ qQ n d e
  | 0 => by simp
  | k + 1 => by
    have h := qQ_anti (n := n) hd e k
    have e1 : e + ((k + 1 : Nat) : Int) = e + k + 1 := by omega
    rw [e1, qQ_succ hd]
    omega
theorem qQ_le {n d : Nat} (hd : 0 < d) {e f : Int} (h : e ≤ f) : qQ n d f ≤ qQ n d e := by
  have := qQ_anti (n := n) hd e (f - e).toNat
  rwa [show e + ((f - e).toNat : Int) = f by omega] at this
theorem qQ_mono {n n' d : Nat} (h : n ≤ n') (e : Int) : qQ n d e ≤ qQ n' d e := Nat.div_le_div_right (Nat.mul_le_mul_right _ h)
theorem qQ_scale {n d g : Nat} (hg : 0 < g) (e : Int) : qQ (g * n) (g * d) e = qQ n d e := by
  unfold qQ qA qB
  rw [Nat.mul_assoc, Nat.mul_assoc, Nat.mul_div_mul_left _ _ hg]
/-- Far down the quotient is great. -/
theorem qQ_ge {n d : Nat} (hn : n ≠ 0) (hd : 0 < d) {e : Int} {k : Nat} (h : e + k + 1 ≤ (nbits n : Int) - nbits d) : 2 ^ k ≤ qQ n d e := by
  unfold qQ
  rw [Nat.le_div_iff_mul_le (qB_pos hd e)]
  have h1 := nbits_low' hn
  have h2 : d ≤ 2 ^ nbits d := Nat.le_of_lt (nbits_lt (Nat.le_refl _))
  have h3 : 1 ≤ nbits n := by rw [nbits_pos hn]; omega
  unfold qA qB
  calc 2 ^ k * (d * 2 ^ e.toNat) ≤ 2 ^ k * (2 ^ nbits d * 2 ^ e.toNat) := Nat.mul_le_mul_left _ (Nat.mul_le_mul_right _ h2)
    _ = 2 ^ (k + nbits d + e.toNat) := by rw [← Nat.pow_add, ← Nat.pow_add, Nat.add_assoc]
    _ ≤ 2 ^ (nbits n - 1 + (-e).toNat) := Nat.pow_le_pow_right (by decide) (by omega)
    _ = 2 ^ (nbits n - 1) * 2 ^ (-e).toNat := Nat.pow_add _ _ _
    _ ≤ n * 2 ^ (-e).toNat := Nat.mul_le_mul_right _ h1
/-- Far up it is small. -/
theorem qQ_lt {n d : Nat} (hd : 0 < d) {e : Int} {k : Nat} (h : (nbits n : Int) - nbits d + 1 ≤ e + k) : qQ n d e < 2 ^ k := by
  unfold qQ
  rw [Nat.div_lt_iff_lt_mul (qB_pos hd e)]
  have hd0 : d ≠ 0 := by omega
  have h1 := nbits_low' hd0
  have h2 : n < 2 ^ nbits n := nbits_lt (Nat.le_refl _)
  have h3 : 1 ≤ nbits d := by rw [nbits_pos hd0]; omega
  unfold qA qB
  calc n * 2 ^ (-e).toNat < 2 ^ nbits n * 2 ^ (-e).toNat := Nat.mul_lt_mul_of_pos_right h2 (Nat.two_pow_pos _)
    _ = 2 ^ (nbits n + (-e).toNat) := (Nat.pow_add _ _ _).symm
    _ ≤ 2 ^ (k + (nbits d - 1) + e.toNat) := Nat.pow_le_pow_right (by decide) (by omega)
    _ = 2 ^ k * (2 ^ (nbits d - 1) * 2 ^ e.toNat) := by rw [← Nat.pow_add, ← Nat.pow_add, Nat.add_assoc]
    _ ≤ 2 ^ k * (d * 2 ^ e.toNat) := Nat.mul_le_mul_left _ (Nat.mul_le_mul_right _ h1)
/-- The least exponent, from -1074 on, at which the quotient has 53 bits at most. -/
structure IsE (n d : Nat) (e : Int) : Prop where
  lo : -1074 ≤ e
  fits : qQ n d e < 9007199254740992
  least : e = -1074 ∨ 9007199254740992 ≤ qQ n d (e - 1)
theorem IsE.unique {n d : Nat} (hd : 0 < d) {e f : Int} (h : IsE n d e) (k : IsE n d f) : e = f := by
  have key : ∀ {e f : Int}, IsE n d e → IsE n d f → ¬ e < f := by
    intro e f h k hlt
    rcases k.least with h1 | h1
    · have := h.lo; omega
    · have := qQ_le (n := n) hd (show e ≤ f - 1 by omega)
      have := h.fits
      omega
  rcases Int.lt_trichotomy e f with hl | hl | hl
  · exact absurd hl (key h k)
  · exact hl
  · exact absurd hl (key k h)
theorem IsE.mono {n n' d : Nat} (hd : 0 < d) (hn : n ≤ n') {e f : Int} (h : IsE n d e) (k : IsE n' d f) : e ≤ f := by
  rcases Int.lt_or_le f e with hl | hl
  · rcases h.least with h1 | h1
    · have := k.lo; omega
    · have h2 := qQ_le (n := n') hd (show f ≤ e - 1 by omega)
      have h3 := qQ_mono (d := d) hn (e - 1)
      have := k.fits
      omega
  · exact hl
theorem IsE.scale {n d g : Nat} (hg : 0 < g) {e : Int} (h : IsE n d e) : IsE (g * n) (g * d) e :=
  ⟨h.lo, by rw [qQ_scale hg]; exact h.fits, by rw [qQ_scale hg]; exact h.least⟩
theorem IsE.unscale {n d g : Nat} (hg : 0 < g) {e : Int} (h : IsE (g * n) (g * d) e) : IsE n d e :=
  ⟨h.lo, by rw [← qQ_scale hg]; exact h.fits, by rw [← qQ_scale hg]; exact h.least⟩
/-- A walk up from below. -/
def upE (n d : Nat) : Nat → Int → Int
  | 0, e => e
  | k + 1, e => if 9007199254740992 ≤ qQ n d e then upE n d k (e + 1) else e
theorem upE_is {n d : Nat} (hd : 0 < d) : ∀ (k : Nat) (e : Int), -1074 ≤ e → (e = -1074 ∨ 9007199254740992 ≤ qQ n d (e - 1)) → qQ n d e < 9007199254740992 * 2 ^ k → IsE n d (upE n d k e)
  | 0, e, h1, h2, h3 => ⟨h1, by simpa [upE] using h3, h2⟩
  | k + 1, e, h1, h2, h3 => by
    rw [upE]
    split
    · rename_i h
      refine upE_is hd k (e + 1) (by omega) (.inr (by rw [show e + 1 - 1 = e by omega]; exact h)) ?_
      rw [qQ_succ hd]
      rw [Nat.pow_succ] at h3
      omega
    · rename_i h
      exact ⟨h1, by omega, h2⟩
/-- The walk's first exponent: there are two steps at most. -/
def loE (n d : Nat) : Int := max ((nbits n : Int) - nbits d - 53) (-1074)
theorem loE_is {n d : Nat} (hn : n ≠ 0) (hd : 0 < d) : IsE n d (upE n d 1 (loE n d)) := by
  refine upE_is hd 1 _ (by unfold loE; omega) ?_ ?_
  · unfold loE
    by_cases h : (nbits n : Int) - nbits d - 53 ≤ -1074
    · left; omega
    · right
      exact qQ_ge (k := 53) hn hd (by omega)
  · have := qQ_lt (n := n) (d := d) (e := loE n d) (k := 54) hd (by unfold loE; omega)
    exact this
noncomputable def theE (n d : Nat) : Int := upE n d 1 (loE n d)
theorem theE_is {n d : Nat} (hn : n ≠ 0) (hd : 0 < d) : IsE n d (theE n d) := loE_is hn hd
/-- Above -1074 the quotient has 53 bits. -/
theorem theE_full {n d : Nat} (hd : 0 < d) {e : Int} (h : IsE n d e) (hlo : -1074 < e) : 4503599627370496 ≤ qQ n d e := by
  rcases h.least with h1 | h1
  · omega
  · have := qQ_succ (n := n) hd (e - 1)
    rw [show e - 1 + 1 = e by omega] at this
    omega
theorem theE_range {n d : Nat} (hd : 0 < d) {e : Int} (h : IsE n d e) : e ≤ max ((nbits n : Int) - nbits d - 52) (-1074) := by
  rcases Int.lt_or_le (max ((nbits n : Int) - nbits d - 52) (-1074)) e with hl | hl
  · rcases h.least with h1 | h1
    · omega
    · have := qQ_lt (n := n) (d := d) (e := e - 1) (k := 53) hd (by omega)
      have e53 : (2 : Nat) ^ 53 = 9007199254740992 := by decide
      omega
  · exact hl
/-- The mantissa, which may be 2^53. -/
def theM (n d : Nat) (e : Int) : Nat := rnd (qA n e) (qB d e)
theorem theM_le {n d : Nat} {e : Int} (h : IsE n d e) : theM n d e ≤ 9007199254740992 := by
  have h1 := rnd_le (qA n e) (qB d e)
  have h2 := h.fits
  unfold qQ at h2
  unfold theM
  omega
theorem theM_ge {n d : Nat} {e : Int} : qQ n d e ≤ theM n d e := rnd_ge _ _
/-- How many steps above nought: in units of the last bit. -/
def rung (n d : Nat) (e : Int) : Nat := (e + 1074).toNat * 4503599627370496 + theM n d e
theorem rung_mono {n n' d : Nat} (hd : 0 < d) (hn : n ≤ n') {e f : Int} (h : IsE n d e) (k : IsE n' d f) : rung n d e ≤ rung n' d f := by
  have hef := h.mono hd hn k
  have := h.lo
  unfold rung
  rcases Int.lt_or_eq_of_le hef with hl | rfl
  · have h1 := theM_le h
    have h2 := theE_full hd k (by omega)
    have h3 := theM_ge (n := n') (d := d) (e := f)
    have h4 : (f + 1074).toNat = (e + 1074).toNat + ((f - e - 1).toNat + 1) := by omega
    rw [h4, Nat.add_mul, Nat.add_mul]
    have : 0 ≤ (f - e - 1).toNat * 4503599627370496 := Nat.zero_le _
    omega
  · have h1 : theM n d e ≤ theM n' d e := rnd_mono (qB_pos hd e) (Nat.mul_le_mul_right _ hn)
    omega
theorem theM_scale {n d g : Nat} (hg : 0 < g) (e : Int) : theM (g * n) (g * d) e = theM n d e := by
  unfold theM qA qB
  rw [Nat.mul_assoc, Nat.mul_assoc, rnd_scale _ _ _ hg]
end Go.AM.F

/- The binary64 nearest to a quotient: the walk. No conditions. -/
namespace Go.AM.F
open Go Go.AM
set_option maxRecDepth 10000
set_option linter.unusedSimpArgs false
set_option exponentiation.threshold 110000
attribute [local simp] j0_floats_format_nearest j1_floats_format_nearest j2_floats_format_nearest j3_floats_format_nearest w0_floats_format_nearest j4_floats_format_nearest j5_floats_format_nearest b_floats_format_nearest a_floats_format_nearest
attribute [local simp] j0_floats_number j1_floats_number b_floats_number a_floats_number
theorem fit_bits {n k : Nat} (h : n < 2 ^ k) (hk : k ≤ 35184372088000) : Fit (limbs n) := by
  refine fit_small (k / 32 + 1) (Nat.lt_of_lt_of_le h ?_) (by omega)
  rw [show (4294967296 : Nat) = 2 ^ 32 by decide, ← Nat.pow_mul]
  exact Nat.pow_le_pow_right (by decide) (by omega)
/-- A number of bits enough. -/
structure Big (n : Nat) : Prop where
  lt : n < 2 ^ 100000
theorem Big.of {n k : Nat} (h : n < 2 ^ k) (hk : k ≤ 100000) : Big n := ⟨Nat.lt_of_lt_of_le h (Nat.pow_le_pow_right (by decide) hk)⟩
def wideB : List PV := [.v (.int .i64 53), .v (.int .i64 (-1074)), .v (.int .i64 971)]
def nrE (n d : Nat) (e : Int) : Env := [(1, .ro 1 (ul (limbs n))), (2, .ro 1 (ul (limbs d))), (3, .box wideB), (9, .v (.int .i64 e))]
def endE (n d : Nat) (e : Int) : Int := if theM n d e = 9007199254740992 then e + 1 else e
def endM (n d : Nat) (e : Int) : Nat := if theM n d e = 9007199254740992 then 4503599627370496 else theM n d e
theorem and64 {x y e : Nat} (hx : x < 18446744073709551616) (hy : y < 18446744073709551616) (h : x &&& y = e) : binInt .and .u64 x y = some (.int .u64 (e : Nat)) := by
  have n : e < 18446744073709551616 := by rw [← h]; exact Nat.lt_of_le_of_lt Nat.and_le_left hx
  rw [binInt_and, BitVec.toNat_and, bv64 x hx, bv64 y hy, h, u64_nat n]
theorem and1_64 (y : Nat) (hy : y < 18446744073709551616) : binInt .and .u64 y 1 = some (.int .u64 (y % 2 : Nat)) := and64 (y := 1) hy (by decide) (Nat.and_one_is_mod y)
theorem theM_le' {n d : Nat} {e : Int} (h : qQ n d e < 9007199254740992) : theM n d e ≤ 9007199254740992 := by
  have h1 := rnd_le (qA n e) (qB d e)
  unfold qQ at h
  unfold theM
  omega
theorem nr_fin (n d : Nat) (e : Int) (h1 : -1074 ≤ e) (h2 : e ≤ 1000) (hm : theM n d e ≤ 9007199254740992) :
    Exec T j1_floats_format_nearest [(3, .box wideB), (9, .v (.int .i64 e)), (15, .v (.int .u64 (theM n d e : Nat)))] = some (.ret, [(6, .v (.int .u64 (endM n d e : Nat))), (7, .v (.int .i64 (endE n d e))), (8, .v (.bool (decide (endE n d e ≤ 971))))]) := by
  have hw1 : IntKind.i64.wrap (e + 1) = e + 1 := by rw [wrap_i64] <;> omega
  have hsh : binInt .shl .u64 1 53 = some (.int .u64 9007199254740992) := by have := shl_64 1 53 (by decide) (by decide); simpa [-binInt_shl] using this
  have hw53 : IntKind.u64.wrap 53 = 53 := wrap_u64 (by decide) (by decide)
  unfold endM endE
  generalize theM n d e = m at *
  by_cases h : m = 9007199254740992
  · subst h
    have hs : binInt .shr .u64 9007199254740992 1 = some (.int .u64 4503599627370496) := by have := shr_64 9007199254740992 1 (by decide); simpa [-binInt_shr] using this
    simp [-binInt_shl, -binInt_shr, wideB, hsh, hs, hw1, hw53]
  · simp [-binInt_shl, -binInt_shr, wideB, hsh, h, hw53]
theorem nr_pass (n d : Nat) (hn : Big n) (hd : Big d) (hd0 : d ≠ 0) (e : Int) (h1 : -1074 ≤ e) (h2 : e ≤ 1000) (h54 : qQ n d e < 2 ^ 54) :
    Exec T w0_floats_format_nearest (nrE n d e) = if 9007199254740992 ≤ qQ n d e then some (.normal, nrE n d (e + 1)) else some (.ret, [(6, .v (.int .u64 (endM n d e : Nat))), (7, .v (.int .i64 (endE n d e))), (8, .v (.bool (decide (endE n d e ≤ 971))))]) := by
  have fn : Fit (limbs n) := fit_bits hn.lt (by decide)
  have fd : Fit (limbs d) := fit_bits hd.lt (by decide)
  have u1 := c_Up (limbs n) fn (-e)
  have u2 := c_Up (limbs d) fd e
  rw [val_limbs] at u1 u2
  unfold upR at u1 u2
  have hA : qA n e < 2 ^ 101074 := by
    unfold qA
    rw [show 101074 = 100000 + 1074 from rfl, Nat.pow_add]
    exact Nat.mul_lt_mul_of_lt_of_le hn.lt (Nat.pow_le_pow_right (by decide) (by omega)) (Nat.two_pow_pos _)
  have hB : qB d e < 2 ^ 101000 := by
    unfold qB
    rw [show 101000 = 100000 + 1000 from rfl, Nat.pow_add]
    exact Nat.mul_lt_mul_of_lt_of_le hd.lt (Nat.pow_le_pow_right (by decide) (by omega)) (Nat.two_pow_pos _)
  have fA : Fit (limbs (qA n e)) := fit_bits hA (by decide)
  have fB : Fit (limbs (qB d e)) := fit_bits hB (by decide)
  have hB0 : qB d e ≠ 0 := by have := qB_pos (Nat.pos_of_ne_zero hd0) e; omega
  have v1 := c_DivMod (limbs (qA n e)) (limbs (qB d e)) fA fB
  rw [val_limbs, val_limbs, divR_pos hB0] at v1
  have fq : Fit (limbs (qA n e / qB d e)) := fit_mono fA (Nat.div_le_self _ _)
  have fr : Fit (limbs (qA n e % qB d e)) := fit_mono fA (Nat.mod_le _ _)
  have v2 := c_Len (limbs (qA n e / qB d e)) fq
  rw [val_limbs] at v2
  have v3 := c_Small (limbs (qA n e / qB d e)) fq
  rw [val_limbs] at v3
  have v4 := c_Add (limbs (qA n e % qB d e)) (limbs (qA n e % qB d e)) fr fr
  rw [val_limbs, ← Nat.two_mul] at v4
  have f2r : Fit (limbs (2 * (qA n e % qB d e))) := fit_bits (k := 101001) (by
    have := Nat.mod_lt (qA n e) (Nat.pos_of_ne_zero hB0)
    rw [show 101001 = 101000 + 1 from rfl, Nat.pow_succ]
    omega) (by decide)
  have v5 := c_Cmp (limbs (2 * (qA n e % qB d e))) (limbs (qB d e)) f2r fB
  rw [val_limbs, val_limbs] at v5
  have hq : qQ n d e = qA n e / qB d e := rfl
  rw [← hq] at v1 v2 v3
  have hw1 : IntKind.i64.wrap (e + 1) = e + 1 := by rw [wrap_i64] <;> omega
  have hwn : IntKind.i64.wrap (-e) = -e := by rw [wrap_i64] <;> omega
  have hlen : 53 < nbits (qQ n d e) ↔ 9007199254740992 ≤ qQ n d e := by
    have := nbits_iff (n := qQ n d e) (k := 53)
    rw [show (2 : Nat) ^ 53 = 9007199254740992 by decide] at this
    omega
  have hs : ¬ 9007199254740992 ≤ qQ n d e → (limbs (qQ n d e)).length ≤ 2 := fun h => limbs_len_le (by omega)
  have hand : ¬ 9007199254740992 ≤ qQ n d e → binInt .and .u64 (qQ n d e : Nat) 1 = some (.int .u64 (qQ n d e % 2 : Nat)) := fun h => and1_64 _ (by omega)
  have hwm : ¬ 9007199254740992 ≤ qQ n d e → IntKind.u64.wrap ((qQ n d e : Int) + 1) = (qQ n d e : Int) + 1 := fun h => by rw [wrap_u64] <;> omega
  have hfin : ¬ 9007199254740992 ≤ qQ n d e → _ := fun h => nr_fin n d e h1 h2 (theM_le' (by omega))
  have hth : theM n d e = qQ n d e + (if qB d e < 2 * (qA n e % qB d e) ∨ (qB d e = 2 * (qA n e % qB d e) ∧ qQ n d e % 2 = 1) then 1 else 0) := rfl
  rw [hth] at hfin
  unfold cmpN at v5
  unfold smallR at v3
  have hneg : e < 0 ∨ ¬ e < 0 := by omega
  by_cases hbig : 9007199254740992 ≤ qQ n d e
  · have hl := hlen.2 hbig
    rw [if_pos hbig]
    rcases hneg with hneg | hneg
    · have hBd : qB d e = d := by unfold qB; rw [show e.toNat = 0 by omega, Nat.pow_zero, Nat.mul_one]
      rw [if_neg (by omega)] at u1
      change _ = some (PV.tup [.own 1 (ul (limbs (qA n e))), _], _) at u1
      rw [hBd] at v1
      simp [nrE, wideB, hneg, hwn, u1, v1, v2, hl, hw1]
    · have hAn : qA n e = n := by unfold qA; rw [show (-e).toNat = 0 by omega, Nat.pow_zero, Nat.mul_one]
      rw [if_neg (by omega)] at u2
      change _ = some (PV.tup [.own 1 (ul (limbs (qB d e))), _], _) at u2
      rw [hAn] at v1
      simp [nrE, wideB, hneg, u2, v1, v2, hl, hw1]
  · have hl : ¬ 53 < nbits (qQ n d e) := fun h => hbig (hlen.1 h)
    replace hs := hs hbig
    replace hand := hand hbig
    replace hwm := hwm hbig
    replace hfin := hfin hbig
    rw [if_neg hbig]
    rw [if_pos hs] at v3
    rcases hneg with hneg | hneg
    · have hBd : qB d e = d := by unfold qB; rw [show e.toNat = 0 by omega, Nat.pow_zero, Nat.mul_one]
      rw [if_neg (by omega)] at u1
      change _ = some (PV.tup [.own 1 (ul (limbs (qA n e))), _], _) at u1
      rw [hBd] at v1 v4 v5 hfin
      rcases Nat.lt_trichotomy (2 * (qA n e % d)) d with hc | hc | hc
      · rw [if_pos hc] at v5
        rw [if_neg (by omega), Nat.add_zero] at hfin
        simp [-binInt_and, -j1_floats_format_nearest, nrE, wideB, hneg, hwn, u1, v1, v2, hl, v3, v4, v5] at hfin ⊢
        rw [hfin]
        rfl
      · rw [if_neg (by omega), if_pos hc] at v5
        by_cases hodd : qQ n d e % 2 = 1
        · rw [if_pos (.inr ⟨hc.symm, hodd⟩)] at hfin
          simp [-binInt_and, -j1_floats_format_nearest, nrE, wideB, hneg, hwn, u1, v1, v2, hl, v3, v4, v5, hand, hodd, hwm] at hfin ⊢
          rw [hfin]
          rfl
        · have hodd' : ¬ (qQ n d e : Int) % 2 = 1 := by omega
          rw [if_neg (by omega), Nat.add_zero] at hfin
          simp [-binInt_and, -j1_floats_format_nearest, nrE, wideB, hneg, hwn, u1, v1, v2, hl, v3, v4, v5, hand, hodd, hodd'] at hfin ⊢
          rw [hfin]
          rfl
      · rw [if_neg (by omega), if_neg (by omega)] at v5
        rw [if_pos (.inl hc)] at hfin
        simp [-binInt_and, -j1_floats_format_nearest, nrE, wideB, hneg, hwn, u1, v1, v2, hl, v3, v4, v5, hwm] at hfin ⊢
        rw [hfin]
        rfl
    · have hAn : qA n e = n := by unfold qA; rw [show (-e).toNat = 0 by omega, Nat.pow_zero, Nat.mul_one]
      rw [if_neg (by omega)] at u2
      change _ = some (PV.tup [.own 1 (ul (limbs (qB d e))), _], _) at u2
      rw [hAn] at v1 v4 v5 hfin
      rcases Nat.lt_trichotomy (2 * (n % qB d e)) (qB d e) with hc | hc | hc
      · rw [if_pos hc] at v5
        rw [if_neg (by omega), Nat.add_zero] at hfin
        simp [-binInt_and, -j1_floats_format_nearest, nrE, wideB, hneg, u2, v1, v2, hl, v3, v4, v5] at hfin ⊢
        rw [hfin]
        rfl
      · rw [if_neg (by omega), if_pos hc] at v5
        by_cases hodd : qQ n d e % 2 = 1
        · rw [if_pos (.inr ⟨hc.symm, hodd⟩)] at hfin
          simp [-binInt_and, -j1_floats_format_nearest, nrE, wideB, hneg, u2, v1, v2, hl, v3, v4, v5, hand, hodd, hwm] at hfin ⊢
          rw [hfin]
          rfl
        · have hodd' : ¬ (qQ n d e : Int) % 2 = 1 := by omega
          rw [if_neg (by omega), Nat.add_zero] at hfin
          simp [-binInt_and, -j1_floats_format_nearest, nrE, wideB, hneg, u2, v1, v2, hl, v3, v4, v5, hand, hodd, hodd'] at hfin ⊢
          rw [hfin]
          rfl
      · rw [if_neg (by omega), if_neg (by omega)] at v5
        rw [if_pos (.inl hc)] at hfin
        simp [-binInt_and, -j1_floats_format_nearest, nrE, wideB, hneg, u2, v1, v2, hl, v3, v4, v5, hwm] at hfin ⊢
        rw [hfin]
        rfl
theorem nr_loop (n d : Nat) (hn : Big n) (hd : Big d) (hd0 : d ≠ 0) (h : loE n d ≤ 990) :
    Exec T l0_floats_format_nearest (nrE n d (loE n d)) = some (.ret, [(6, .v (.int .u64 (endM n d (theE n d) : Nat))), (7, .v (.int .i64 (endE n d (theE n d)))), (8, .v (.bool (decide (endE n d (theE n d) ≤ 971))))]) := by
  have hlo : -1074 ≤ loE n d := by unfold loE; omega
  have h54 : qQ n d (loE n d) < 2 ^ 54 := qQ_lt (Nat.pos_of_ne_zero hd0) (by unfold loE; omega)
  have e54 : (2 : Nat) ^ 54 = 18014398509481984 := by decide
  have h1 := nr_pass n d hn hd hd0 (loE n d) hlo (by omega) h54
  have hk : ∀ e, (nrE n d e).keep [1, 2, 3, 9] = nrE n d e := fun e => rfl
  have hE : theE n d = if 9007199254740992 ≤ qQ n d (loE n d) then loE n d + 1 else loE n d := by
    unfold theE
    rw [upE]
    rfl
  rw [ex0_floats_format_nearest, hk, h1, hE]
  by_cases hb : 9007199254740992 ≤ qQ n d (loE n d)
  · rw [if_pos hb, if_pos hb]
    have hq := qQ_succ (n := n) (Nat.pos_of_ne_zero hd0) (loE n d)
    have h2 := nr_pass n d hn hd hd0 (loE n d + 1) (by omega) (by omega) (by omega)
    rw [if_neg (by omega)] at h2
    simp only [andThen_normal]
    rw [ex0_floats_format_nearest, hk, h2]
    rfl
  · rw [if_neg hb, if_neg hb]
    rfl
theorem c_fnearest (n d : Nat) (hn : Big n) (hd : Big d) (hn0 : n ≠ 0) (hd0 : d ≠ 0) (h : loE n d ≤ 973) :
    Cinf T n_floats_format_nearest [.agg wideB, .ro 1 (ul (limbs n)), .ro 1 (ul (limbs d))] = some (.tup [.v (.int .u64 (endM n d (theE n d) : Nat)), .v (.int .i64 (endE n d (theE n d))), .v (.bool (decide (endE n d (theE n d) ≤ 971)))], [.dead, .dead, .dead]) := by
  have fn : Fit (limbs n) := fit_bits hn.lt (by decide)
  have fd : Fit (limbs d) := fit_bits hd.lt (by decide)
  have v1 := c_Len (limbs n) fn
  have v2 := c_Len (limbs d) fd
  rw [val_limbs] at v1 v2
  have b1 := nbits_le hn.lt
  have b2 := nbits_le hd.lt
  have hz : ¬ nbits n = 0 := by rw [nbits_pos hn0]; omega
  have hl := nr_loop n d hn hd hd0 (by omega)
  have w1 : IntKind.i64.wrap ((nbits n : Int) - nbits d) = (nbits n : Int) - nbits d := by rw [wrap_i64] <;> omega
  have w2 : IntKind.i64.wrap ((nbits n : Int) - nbits d - 53) = (nbits n : Int) - nbits d - 53 := by rw [wrap_i64] <;> omega
  have hmax : (if (nbits n : Int) - nbits d - 53 < -1074 then -1074 else (nbits n : Int) - nbits d - 53) = loE n d := by unfold loE; omega
  have hmx : max ((nbits n : Int) - nbits d - 53) (-1074) = loE n d := rfl
  have hng : ¬ 973 < loE n d := by omega
  rw [run_floats_format_nearest]
  simp only [nrE, wideB] at hl
  simp [Run, wideB, v1, v2, hz, w1, w2, hmx, hmax, hng, hl]
end Go.AM.F

/- How binary64s stand to each other: by their numbers in units of 2^-1074. No conditions. -/
namespace Go.AM.F
open Go Go.AM
set_option linter.unusedSimpArgs false

def sgn (w : Nat) : Bool := w / 9223372036854775808 % 2 == 1
def rg (w : Nat) : Nat := w % 9223372036854775808
def dmag (r : Nat) : Nat := if r < 4503599627370496 then r else 4503599627370496 + r % 4503599627370496
def dexp (r : Nat) : Nat := r / 4503599627370496 - 1
def dval (r : Nat) : Nat := dmag r * 2 ^ dexp r
def infR : Nat := 9218868437227405312
theorem double_sw : Ieee.double.signWeight = 9223372036854775808 := by decide
theorem double_bin : Ieee.double.binade = 4503599627370496 := by decide
theorem double_inf : Ieee.double.infRung = infR := by decide
theorem double_lp : Ieee.double.leastPlace = -1074 := by decide
theorem read_eq (w : Nat) : Ieee.double.read w = if rg w < 4503599627370496 then .number (sgn w) (rg w) (-1074) else if rg w < infR then .number (sgn w) (4503599627370496 + rg w % 4503599627370496) (-1074 + (rg w / 4503599627370496 - 1 : Nat)) else if rg w = infR then .infinity (sgn w) else .nan (sgn w) (rg w - infR) := by
  unfold Ieee.Format.read
  simp only [double_sw, double_bin, double_inf, double_lp]
  rfl
theorem read_fin {w : Nat} (h : rg w < infR) : Ieee.double.read w = .number (sgn w) (dmag (rg w)) (-1074 + (dexp (rg w) : Int)) := by
  rw [read_eq]
  unfold dmag dexp
  by_cases h1 : rg w < 4503599627370496
  · rw [if_pos h1, if_pos h1, show rg w / 4503599627370496 - 1 = 0 by omega]
    rfl
  · rw [if_neg h1, if_neg h1, if_pos h]
theorem read_inf {w : Nat} (h : rg w = infR) : Ieee.double.read w = .infinity (sgn w) := by
  rw [read_eq, h, if_neg (by decide), if_neg (by decide), if_pos rfl]
theorem read_nan {w : Nat} (h : infR < rg w) : ∃ t, Ieee.double.read w = .nan (sgn w) t := by
  have hi : infR = 9218868437227405312 := rfl
  rw [read_eq, if_neg (by omega), if_neg (by omega), if_neg (by omega)]
  exact ⟨_, rfl⟩
theorem dmag_lt (r : Nat) : dmag r < 9007199254740992 := by
  unfold dmag
  split <;> omega
theorem dval_succ (r : Nat) : dval r < dval (r + 1) := by
  unfold dval
  by_cases h1 : r + 1 < 4503599627370496
  · unfold dmag dexp
    rw [if_pos (by omega), if_pos h1, show r / 4503599627370496 - 1 = 0 by omega, show (r + 1) / 4503599627370496 - 1 = 0 by omega]
    omega
  · by_cases h2 : r < 4503599627370496
    · have : r = 4503599627370495 := by omega
      subst this
      decide
    · unfold dmag dexp
      rw [if_neg h2, if_neg (by omega)]
      by_cases h3 : r % 4503599627370496 = 4503599627370495
      · have e1 : (r + 1) % 4503599627370496 = 0 := by omega
        have e2 : (r + 1) / 4503599627370496 - 1 = (r / 4503599627370496 - 1) + 1 := by omega
        rw [h3, e1, e2, Nat.pow_succ]
        have := Nat.two_pow_pos (r / 4503599627370496 - 1)
        omega
      · have e1 : (r + 1) % 4503599627370496 = r % 4503599627370496 + 1 := by omega
        have e2 : (r + 1) / 4503599627370496 - 1 = r / 4503599627370496 - 1 := by omega
        rw [e1, e2]
        exact Nat.mul_lt_mul_of_pos_right (by omega) (Nat.two_pow_pos _)
theorem dval_lt {r s : Nat} (h : r < s) : dval r < dval s := by
  induction s with
  | zero => omega
  | succ s ih =>
    rcases Nat.lt_or_ge r s with hl | hl
    · exact Nat.lt_trans (ih hl) (dval_succ s)
    · rw [show r = s by omega]
      exact dval_succ s
theorem dval_le {r s : Nat} : r ≤ s ↔ dval r ≤ dval s := by
  constructor
  · intro h
    rcases Nat.eq_or_lt_of_le h with rfl | h
    · exact Nat.le_refl _
    · exact Nat.le_of_lt (dval_lt h)
  · intro h
    rcases Nat.lt_or_ge s r with hl | hl
    · have := dval_lt hl; omega
    · exact hl
/-- A finite number in units of 2^-1074. -/
def sv (w : Nat) : Int := if sgn w = true then -(dval (rg w) : Int) else dval (rg w)
theorem signed_val (s : Bool) (r b : Nat) (h : b ≤ dexp r) : Ieee.signed s (dmag r) (dexp r - b) * ((2 ^ b : Nat) : Int) = if s = true then -(dval r : Int) else dval r := by
  have e : dmag r <<< (dexp r - b) * 2 ^ b = dval r := by
    rw [Nat.shiftLeft_eq, Nat.mul_assoc, ← Nat.pow_add, Nat.sub_add_cancel h]
    rfl
  unfold Ieee.signed
  rw [← e, Int.natCast_mul]
  cases s with
  | true =>
    simp only [if_true]
    rw [Int.neg_mul]
  | false => rfl
theorem cmp_scale (x y : Int) (k : Nat) (h : 0 < k) : compare (x * (k : Int)) (y * (k : Int)) = compare x y := by
  have h2 : (0 : Int) < k := by omega
  simp only [compare, compareOfLessAndEq]
  have e1 : x * (k : Int) < y * (k : Int) ↔ x < y := Int.mul_lt_mul_right h2
  have e2 : x * (k : Int) = y * (k : Int) ↔ x = y := ⟨fun h => Int.eq_of_mul_eq_mul_right (by omega) h, fun h => by rw [h]⟩
  simp only [e1, e2]
theorem order_fin {w v : Nat} (h1 : rg w < infR) (h2 : rg v < infR) : FloatKind.f64.format.order w v = some (compare (sv w) (sv v)) := by
  change Ieee.double.order w v = _
  unfold Ieee.Format.order
  rw [read_fin h1, read_fin h2]
  simp only [Ieee.Datum.order]
  congr 1
  obtain ⟨b, hb⟩ : ∃ b, min (dexp (rg w)) (dexp (rg v)) = b := ⟨_, rfl⟩
  have e1 : (-1074 + (dexp (rg w) : Int) - min (-1074 + (dexp (rg w) : Int)) (-1074 + (dexp (rg v) : Int))).toNat = dexp (rg w) - b := by omega
  have e2 : (-1074 + (dexp (rg v) : Int) - min (-1074 + (dexp (rg w) : Int)) (-1074 + (dexp (rg v) : Int))).toNat = dexp (rg v) - b := by omega
  rw [e1, e2, ← cmp_scale _ _ (2 ^ b) (Nat.two_pow_pos b), signed_val _ _ _ (by omega), signed_val _ _ _ (by omega)]
  rfl
theorem flt_gt {w v : Nat} (h1 : rg w < infR) (h2 : rg v < infR) : (FloatKind.f64.format.order w v == some .gt) = decide (sv v < sv w) := by
  rw [order_fin h1 h2]
  simp only [compare, compareOfLessAndEq]
  by_cases a : sv w < sv v
  · rw [if_pos a, decide_eq_false (by omega)]; rfl
  · rw [if_neg a]
    by_cases b : sv w = sv v
    · rw [if_pos b, decide_eq_false (by omega)]; rfl
    · rw [if_neg b, decide_eq_true (by omega)]; rfl
theorem flt_lt {w v : Nat} (h1 : rg w < infR) (h2 : rg v < infR) : (FloatKind.f64.format.order w v == some .lt) = decide (sv w < sv v) := by
  rw [order_fin h1 h2]
  simp only [compare, compareOfLessAndEq]
  by_cases a : sv w < sv v
  · rw [if_pos a, decide_eq_true a]; rfl
  · rw [if_neg a, decide_eq_false a]
    by_cases b : sv w = sv v
    · rw [if_pos b]; rfl
    · rw [if_neg b]; rfl
theorem flt_eq {w v : Nat} (h1 : rg w < infR) (h2 : rg v < infR) : (FloatKind.f64.format.order w v == some .eq) = decide (sv w = sv v) := by
  rw [order_fin h1 h2]
  simp only [compare, compareOfLessAndEq]
  by_cases a : sv w < sv v
  · rw [if_pos a, decide_eq_false (by omega)]; rfl
  · rw [if_neg a]
    by_cases b : sv w = sv v
    · rw [if_pos b, decide_eq_true b]; rfl
    · rw [if_neg b, decide_eq_false b]; rfl
theorem order_nan {w v : Nat} (h : infR < rg w) : FloatKind.f64.format.order w v = none := by
  change Ieee.double.order w v = _
  unfold Ieee.Format.order
  obtain ⟨t, e⟩ := read_nan h
  rw [e]
  rfl
theorem order_self_inf {w : Nat} (h : rg w = infR) : FloatKind.f64.format.order w w = some .eq := by
  change Ieee.double.order w w = _
  unfold Ieee.Format.order
  rw [read_inf h]
  simp only [Ieee.Datum.order]
  cases sgn w <;> rfl
theorem order_inf_pos {w v : Nat} (h1 : rg w = infR) (hs : sgn w = false) (h2 : rg v < infR) : FloatKind.f64.format.order w v = some .gt := by
  change Ieee.double.order w v = _
  unfold Ieee.Format.order
  rw [read_inf h1, read_fin h2, hs]
  rfl
theorem order_inf_neg {w v : Nat} (h1 : rg w = infR) (hs : sgn w = true) (h2 : rg v < infR) : FloatKind.f64.format.order w v = some .lt := by
  change Ieee.double.order w v = _
  unfold Ieee.Format.order
  rw [read_inf h1, read_fin h2, hs]
  rfl
end Go.AM.F

/- floats.number, floats.Nearest, fixed.Ratio, fixed.Float: what they answer. No conditions. -/
namespace Go.AM.F
open Go Go.AM
set_option maxRecDepth 10000
set_option linter.unusedSimpArgs false
attribute [local simp] j0_floats_number j1_floats_number b_floats_number a_floats_number
attribute [local simp] j0_floats_Nearest j1_floats_Nearest b_floats_Nearest a_floats_Nearest
attribute [local simp] b_fixed_Ratio a_fixed_Ratio
attribute [local simp] b_fixed_Float a_fixed_Float
def wrd (neg : Bool) (r : Nat) : Nat := if neg = true then 9223372036854775808 + r else r
theorem rung_end {n d : Nat} (hd : 0 < d) (h : IsE n d (theE n d)) (hE : theE n d ≤ 900) : endE n d (theE n d) ≤ 971 ∧ rung n d (theE n d) < infR ∧
    rung n d (theE n d) = if endM n d (theE n d) < 4503599627370496 then endM n d (theE n d) else (endE n d (theE n d) + 1075).toNat * 4503599627370496 + (endM n d (theE n d) - 4503599627370496) := by
  have h1 := theM_le h
  have h2 := h.lo
  have h3 := theM_ge (n := n) (d := d) (e := theE n d)
  have h4 : -1074 < theE n d → 4503599627370496 ≤ qQ n d (theE n d) := theE_full hd h
  have hi : infR = 9218868437227405312 := rfl
  unfold rung endE endM
  generalize theE n d = e at *
  generalize theM n d e = m at *
  generalize qQ n d e = q at *
  by_cases hm : m = 9007199254740992
  · rw [if_pos hm, if_pos hm, if_neg (by omega)]
    refine ⟨by omega, by omega, ?_⟩
    have : (e + 1 + 1075).toNat = (e + 1074).toNat + 2 := by omega
    rw [this, Nat.add_mul]
    omega
  · rw [if_neg hm, if_neg hm]
    refine ⟨by omega, by omega, ?_⟩
    split
    · have : e = -1074 := by
        rcases Int.lt_or_le (-1074) e with hl | hl
        · have := h4 hl; omega
        · omega
      subst this
      omega
    · have : (e + 1075).toNat = (e + 1074).toNat + 1 := by omega
      rw [this, Nat.add_mul]
      omega
theorem shl52 {k kk : Nat} (h : k * 4503599627370496 = kk) (hk : kk < 18446744073709551616) : binInt .shl .u64 (k : Int) 52 = some (.int .u64 (kk : Nat)) := by
  have e : k * 2 ^ 52 = kk := by rw [← h]
  have := shl_64 k 52 (by decide) (by rw [e]; exact hk)
  rw [e] at this
  exact this
theorem wrap_sum {a b r : Nat} (h : a + b = r) (hr : r < 18446744073709551616) : IntKind.u64.wrap ((a : Int) + (b : Int)) = (r : Int) := by
  rw [← Int.natCast_add, h, u64_nat hr]
theorem wrap_less {a b r : Nat} (h : b + r = a) (hr : r < 18446744073709551616) : IntKind.u64.wrap ((a : Int) - (b : Int)) = (r : Int) := by
  rw [show (a : Int) - b = (r : Int) by omega, u64_nat hr]
theorem c_number (neg : Bool) (n d : Nat) (hn : Big n) (hd : Big d) (hn0 : n ≠ 0) (hd0 : d ≠ 0) (h : loE n d ≤ 800) :
    Cinf T n_floats_number [.v (.bool neg), .ro 1 (ul (limbs n)), .ro 1 (ul (limbs d))] = some (.v (.float .f64 (wrd neg (rung n d (theE n d)))), [.dead, .dead, .dead]) := by
  have hE : theE n d ≤ 900 := by
    unfold theE
    rw [upE]
    split
    · rw [upE]; omega
    · omega
  have v1 := c_fnearest n d hn hd hn0 hd0 (by omega)
  have his := theE_is hn0 (Nat.pos_of_ne_zero hd0)
  obtain ⟨e1, e2, e3⟩ := rung_end (Nat.pos_of_ne_zero hd0) his hE
  have hlo := his.lo
  have hlo2 : -1074 ≤ endE n d (theE n d) := by unfold endE; split <;> omega
  have hm : endM n d (theE n d) < 9007199254740992 := by
    have := theM_le his
    unfold endM
    split <;> omega
  rw [decide_eq_true e1] at v1
  unfold wideB at v1
  generalize endE n d (theE n d) = e at *
  generalize endM n d (theE n d) = m at *
  generalize rung n d (theE n d) = r at *
  have hi : infR = 9218868437227405312 := rfl
  obtain ⟨x, hx⟩ : ∃ x, 9223372036854775808 + r = x := ⟨_, rfl⟩
  have hor : binInt .or .u64 (r : Nat) 9223372036854775808 = some (.int .u64 (x : Nat)) :=
    or64 (x := r) (y := 9223372036854775808) (by omega) (by decide) ((or_low (c := r) (x := 1) (r := 63) (by omega)).trans (by omega))
  have g1 : glob1 = wideB := rfl
  rw [run_floats_number]
  unfold wrd
  by_cases hb : m < 4503599627370496
  · rw [if_pos hb] at e3
    subst e3
    cases neg with
    | true =>
      rw [if_pos rfl, hx]
      simp [-binInt_or, Run, g1, wideB, v1, hb, hor]
    | false => simp [-binInt_or, Run, g1, wideB, v1, hb]
  · rw [if_neg hb] at e3
    obtain ⟨k, hk⟩ : ∃ k : Nat, e + 1075 = k := ⟨(e + 1075).toNat, by omega⟩
    rw [hk, Int.toNat_natCast] at e3
    have w1 : IntKind.i64.wrap (e + 1075) = (k : Int) := by rw [hk, wrap_i64] <;> omega
    have w2 : IntKind.u64.wrap (k : Int) = (k : Int) := u64_nat (by omega)
    obtain ⟨mm, hmm⟩ : ∃ mm, m - 4503599627370496 = mm := ⟨_, rfl⟩
    obtain ⟨kk, hkk⟩ : ∃ kk, k * 4503599627370496 = kk := ⟨_, rfl⟩
    rw [hmm, hkk] at e3
    have w3 : IntKind.u64.wrap ((m : Int) - 4503599627370496) = (mm : Int) := wrap_less (b := 4503599627370496) (by omega) (by omega)
    have sh := shl52 hkk (by omega)
    have w4 : IntKind.u64.wrap ((kk : Int) + (mm : Int)) = (r : Int) := wrap_sum e3.symm (by omega)
    have hb' : ¬ (m : Int) < 4503599627370496 := by omega
    cases neg with
    | true =>
      rw [if_pos rfl, hx]
      simp [-binInt_or, -binInt_shl, Run, g1, wideB, v1, hb, hb', w1, w2, w3, sh, w4, hor]
    | false => simp [-binInt_or, -binInt_shl, Run, g1, wideB, v1, hb, hb', w1, w2, w3, sh, w4]
theorem rung_scale {n d g : Nat} (hg : 0 < g) (hn : n ≠ 0) (hd : 0 < d) : rung (g * n) (g * d) (theE (g * n) (g * d)) = rung n d (theE n d) := by
  have h1 := theE_is (n := g * n) (d := g * d) (by have := Nat.mul_pos hg (Nat.pos_of_ne_zero hn); omega) (Nat.mul_pos hg hd)
  have h2 := theE_is hn hd
  rw [(h1.unscale hg).unique hd h2]
  unfold rung
  rw [theM_scale hg]
theorem nbits_mono {a b : Nat} (h : a ≤ b) : nbits a ≤ nbits b := nbits_le (Nat.lt_of_le_of_lt h (nbits_lt (Nat.le_refl _)))
theorem nbits_one (n : Nat) (h : n ≠ 0) : 1 ≤ nbits n := by rw [nbits_pos h]; omega
/-- The word of a number of millionths. -/
noncomputable def fw (v : Int) : Nat := if v = 0 then 0 else wrd (decide (v < 0)) (rung v.natAbs 1000000 (theE v.natAbs 1000000))
theorem c_fRatio (v : Int) (h1 : -9223372036854775808 ≤ v) (h2 : v < 9223372036854775808) : Cinf T n_fixed_Ratio [.v (.int .i64 v)] = some (rightR (decide (v < 0)) v.natAbs 1000000, [.dead]) := by
  have a1 := c_amount v h1 h2
  have a2 := c_From v.natAbs (by omega)
  have a3 := c_From 1000000 (by decide)
  have a4 := c_Over (decide (v < 0)) (limbs v.natAbs) (limbs 1000000) (fit_bits (k := 64) (by omega) (by decide)) (fit_bits (k := 64) (by decide) (by decide))
  rw [val_limbs, val_limbs] at a4
  unfold overR at a4
  rw [if_neg (by decide)] at a4
  rw [run_fixed_Ratio]
  unfold rightR at a4 ⊢
  by_cases h0 : v.natAbs = 0
  · rw [if_pos h0] at a4 ⊢
    simp only [rat] at a4 ⊢
    simp at a3
    simp [Run, a1, a2, a3, a4]
  · rw [if_neg h0] at a4 ⊢
    simp only [rat] at a4 ⊢
    simp at a3
    simp [Run, a1, a2, a3, a4]
theorem c_fNearest (neg : Bool) (n d : Nat) (hn : n < 18446744073709551616) (hd : d ≤ 1000000) (hd0 : d ≠ 0) :
    Cinf T n_floats_Nearest [.agg [.v (.bool neg), .ro 1 (ul (limbs n)), .ro 1 (ul (limbs d))]] = some (.tup [.v (.float .f64 (if n = 0 then 0 else wrd neg (rung n d (theE n d)))), .v (.int .i64 0)], [.dead]) := by
  have fn : Fit (limbs n) := fit_bits (k := 64) hn (by decide)
  have fd : Fit (limbs d) := fit_bits (k := 64) (by omega) (by decide)
  have o := c_Over neg (limbs n) (limbs d) fn fd
  rw [val_limbs, val_limbs] at o
  unfold overR at o
  rw [if_neg hd0] at o
  rw [run_floats_Nearest]
  by_cases h0 : n = 0
  · subst h0
    rw [if_pos rfl]
    have l1 := c_Len (limbs 0) (fit_bits (k := 64) (by decide) (by decide))
    have l2 := c_Len (limbs 1) (fit_bits (k := 64) (by decide) (by decide))
    rw [val_limbs] at l1 l2
    rw [nbits_zero] at l1
    have n1 : nbits 1 = 1 := by rw [nbits_pos (by decide)]; simp [nbits_zero]
    rw [n1] at l2
    simp only [rightR, rat, if_true] at o
    have w1 : IntKind.i64.wrap (-1) = -1 := wrap_i64 (by decide) (by decide)
    simp at l1 l2
    simp [Run, o, l1, l2, w1]
  · rw [if_neg h0]
    obtain ⟨g, hg⟩ : ∃ g, Nat.gcd n d = g := ⟨_, rfl⟩
    have hg0 : 0 < g := by rw [← hg]; exact Nat.gcd_pos_of_pos_left _ (Nat.pos_of_ne_zero h0)
    obtain ⟨n', hn'⟩ : ∃ n', n / g = n' := ⟨_, rfl⟩
    obtain ⟨d', hd'⟩ : ∃ d', d / g = d' := ⟨_, rfl⟩
    have en : n = g * n' := by rw [← hn', Nat.mul_div_cancel' (by rw [← hg]; exact Nat.gcd_dvd_left _ _)]
    have ed : d = g * d' := by rw [← hd', Nat.mul_div_cancel' (by rw [← hg]; exact Nat.gcd_dvd_right _ _)]
    unfold rightR at o
    rw [if_neg h0, hg, hn', hd'] at o
    have z1 : n' ≠ 0 := by rintro rfl; exact h0 (by rw [en, Nat.mul_zero])
    have z2 : d' ≠ 0 := by rintro rfl; exact hd0 (by rw [ed, Nat.mul_zero])
    have hn2 : n' ≤ n := by rw [← hn']; exact Nat.div_le_self _ _
    have hd2 : d' ≤ d := by rw [← hd']; exact Nat.div_le_self _ _
    have fn' : Fit (limbs n') := fit_mono fn hn2
    have fd' : Fit (limbs d') := fit_mono fd hd2
    have l1 := c_Len (limbs n') fn'
    have l2 := c_Len (limbs d') fd'
    rw [val_limbs] at l1 l2
    have b1 : nbits n' ≤ 64 := nbits_le (by omega)
    have b2 : nbits d' ≤ 64 := nbits_le (by omega)
    have b3 := nbits_one n' z1
    have hsc := rung_scale (n := n') (d := d') hg0 z1 (Nat.pos_of_ne_zero z2)
    rw [← en, ← ed] at hsc
    have hnum := c_number neg n' d' (Big.of (k := 64) (by omega) (by decide)) (Big.of (k := 64) (by omega) (by decide)) z1 z2 (by unfold loE; omega)
    rw [← hsc] at hnum
    have w1 : IntKind.i64.wrap ((nbits n' : Int) - nbits d') = (nbits n' : Int) - nbits d' := by rw [wrap_i64] <;> omega
    have c1 : ¬ nbits n' = 0 := by omega
    have c2 : ¬ 2000 < (nbits n' : Int) - nbits d' := by omega
    have c3 : ¬ (nbits n' : Int) - nbits d' < -2000 := by omega
    simp only [rat] at o
    simp [Run, o, l1, l2, w1, c1, c2, c3, hnum]
theorem c_Float (v : Int) (h1 : -9223372036854775808 ≤ v) (h2 : v < 9223372036854775808) : Cinf T n_fixed_Float [.v (.int .i64 v)] = some (.v (.float .f64 (fw v)), [.dead]) := by
  have a1 := c_fRatio v h1 h2
  rw [run_fixed_Float]
  unfold fw
  unfold rightR at a1
  by_cases h0 : v = 0
  · subst h0
    rw [if_pos rfl]
    rw [if_pos (by decide)] at a1
    have a2 := c_fNearest false 0 1 (by decide) (by decide) (by decide)
    rw [if_pos rfl] at a2
    simp only [rat] at a1
    simp [Run, a1, a2]
  · have hv : v.natAbs ≠ 0 := by omega
    rw [if_neg h0]
    rw [if_neg hv] at a1
    obtain ⟨g, hg⟩ : ∃ g, Nat.gcd v.natAbs 1000000 = g := ⟨_, rfl⟩
    have hg0 : 0 < g := by rw [← hg]; exact Nat.gcd_pos_of_pos_left _ (Nat.pos_of_ne_zero hv)
    rw [hg] at a1
    obtain ⟨n', hn'⟩ : ∃ n', v.natAbs / g = n' := ⟨_, rfl⟩
    obtain ⟨d', hd'⟩ : ∃ d', 1000000 / g = d' := ⟨_, rfl⟩
    rw [hn', hd'] at a1
    have en : v.natAbs = g * n' := by rw [← hn', Nat.mul_div_cancel' (by rw [← hg]; exact Nat.gcd_dvd_left _ _)]
    have ed : 1000000 = g * d' := by rw [← hd', Nat.mul_div_cancel' (by rw [← hg]; exact Nat.gcd_dvd_right _ _)]
    have z1 : n' ≠ 0 := by rintro rfl; exact hv (by rw [en, Nat.mul_zero])
    have z2 : d' ≠ 0 := by rintro rfl; rw [Nat.mul_zero] at ed; cases ed
    have hn2 : n' ≤ v.natAbs := by rw [← hn']; exact Nat.div_le_self _ _
    have hd2 : d' ≤ 1000000 := by rw [← hd']; exact Nat.div_le_self _ _
    have a2 := c_fNearest (decide (v < 0)) n' d' (by omega) hd2 z2
    have hsc := rung_scale (n := n') (d := d') hg0 z1 (Nat.pos_of_ne_zero z2)
    rw [← en, ← ed] at hsc
    rw [if_neg z1, ← hsc] at a2
    simp only [rat] at a1
    simp [Run, a1, a2]
end Go.AM.F

/- floats.Parts, floats.Quotient, fixed.Nearest: what they answer. No conditions. -/
namespace Go.AM.F
open Go Go.AM
set_option maxRecDepth 10000
set_option linter.unusedSimpArgs false
set_option exponentiation.threshold 110000
attribute [local simp] j0_floats_Parts b_floats_Parts a_floats_Parts
attribute [local simp] j0_floats_Quotient j1_floats_Quotient b_floats_Quotient a_floats_Quotient
attribute [local simp] j0_fixed_Nearest j1_fixed_Nearest j2_fixed_Nearest b_fixed_Nearest a_fixed_Nearest
attribute [local simp] b_math_Abs a_math_Abs
@[local simp] theorem bin_f64 (op : BinOp) (a b : Nat) : bin op (.v (.float .f64 a)) (.v (.float .f64 b)) = (binFloat op .f64 a b).map .v := by simp [bin]
theorem andNot63 (w : Nat) (hw : w < 18446744073709551616) : binInt .andNot .u64 w 9223372036854775808 = some (.int .u64 (rg w : Nat)) := by
  have e1 : (BitVec.ofInt IntKind.u64.bits (w : Int) &&& ~~~ BitVec.ofInt IntKind.u64.bits 9223372036854775808).toNat = rg w := by
    rw [BitVec.toNat_and, bv64 w hw, BitVec.toNat_not, show (BitVec.ofInt IntKind.u64.bits 9223372036854775808).toNat = 9223372036854775808 from bv64 9223372036854775808 (by decide)]
    exact Nat.and_two_pow_sub_one_eq_mod w 63
  have hr : rg w < 18446744073709551616 := by unfold rg; omega
  simp only [binInt]
  rw [e1, u64_nat hr]
theorem c_Abs (w : Nat) (hw : w < 18446744073709551616) : Cinf T n_math_Abs [.v (.float .f64 w)] = some (.v (.float .f64 (rg w)), [.dead]) := by
  have h := andNot63 w hw
  rw [run_math_Abs]
  simp [-binInt_andNot, Run, h]
/-- The exponent's field and the fraction's. -/
def fE (w : Nat) : Nat := w / 4503599627370496 % 2048
def fM (w : Nat) : Nat := w % 4503599627370496
theorem rg_fields (w : Nat) : rg w = fE w * 4503599627370496 + fM w ∧ fE w < 2048 ∧ fM w < 4503599627370496 := by
  unfold rg fE fM
  omega
def partsR (w : Nat) : PV :=
  if fE w = 2047 then (if fM w = 0 then .tup [.v (.bool (sgn w)), .v (.int .u64 0), .v (.int .i64 0), .v (.int .u8 3)] else .tup [.v (.bool (sgn w)), .v (.int .u64 (fM w : Nat)), .v (.int .i64 0), .v (.int .u8 4)])
  else if fE w = 0 then (if fM w = 0 then .tup [.v (.bool (sgn w)), .v (.int .u64 0), .v (.int .i64 0), .v (.int .u8 0)] else .tup [.v (.bool (sgn w)), .v (.int .u64 (fM w : Nat)), .v (.int .i64 (-1074)), .v (.int .u8 1)])
  else .tup [.v (.bool (sgn w)), .v (.int .u64 (4503599627370496 + fM w : Nat)), .v (.int .i64 ((fE w : Int) - 1075)), .v (.int .u8 2)]
theorem c_Parts (w : Nat) (hw : w < 18446744073709551616) : Cinf T n_floats_Parts [.v (.float .f64 w)] = some (partsR w, [.dead]) := by
  have hs1 : binInt .shr .u64 (w : Int) 63 = some (.int .u64 (w / 9223372036854775808 : Nat)) := shr_64 w 63 (by decide)
  have hs2 : binInt .shr .u64 (w : Int) 52 = some (.int .u64 (w / 4503599627370496 : Nat)) := shr_64 w 52 (by decide)
  obtain ⟨q, hq⟩ : ∃ q, w / 9223372036854775808 = q := ⟨_, rfl⟩
  obtain ⟨p, hp⟩ : ∃ p, w / 4503599627370496 = p := ⟨_, rfl⟩
  rw [hq] at hs1
  rw [hp] at hs2
  have ha1 : binInt .and .u64 (p : Int) 2047 = some (.int .u64 (fE w : Nat)) := and64 (x := p) (y := 2047) (by omega) (by decide) (by unfold fE; rw [hp]; exact Nat.and_two_pow_sub_one_eq_mod p 11)
  have ha2 : binInt .and .u64 (w : Int) 4503599627370495 = some (.int .u64 (fM w : Nat)) := and64 (x := w) (y := 4503599627370495) hw (by decide) (by unfold fM; exact Nat.and_two_pow_sub_one_eq_mod w 52)
  have hq2 : (q = 1) = (sgn w = true) := propext (by unfold sgn; rw [hq, beq_iff_eq]; omega)
  have hsg : sgn w = decide (q = 1) := by cases h : sgn w <;> simp [hq2, h]
  obtain ⟨_, f1, f2⟩ := rg_fields w
  have hw1 : IntKind.i64.wrap (fE w : Int) = fE w := wrap_nat (by omega)
  have hw2 : IntKind.i64.wrap ((fE w : Int) - 1075) = (fE w : Int) - 1075 := by rw [wrap_i64] <;> omega
  have hor : binInt .or .u64 (fM w : Nat) 4503599627370496 = some (.int .u64 (4503599627370496 + fM w : Nat)) :=
    or64 (y := 4503599627370496) (by omega) (by decide) ((or_low (x := 1) (r := 52) (by omega)).trans (by omega))
  rw [run_floats_Parts]
  unfold partsR
  rw [hsg]
  obtain ⟨z, hz⟩ : ∃ z, 4503599627370496 + fM w = z := ⟨_, rfl⟩
  rw [hz] at hor ⊢
  generalize fE w = ee at *
  generalize fM w = mm at *
  by_cases h1 : ee = 2047
  · by_cases h2 : mm = 0
    · simp [-binInt_shr, -binInt_and, -binInt_or, Run, hs1, hs2, ha1, ha2, hw1, h1, h2]
    · simp [-binInt_shr, -binInt_and, -binInt_or, Run, hs1, hs2, ha1, ha2, hw1, h1, h2]
  · by_cases h3 : ee = 0
    · by_cases h2 : mm = 0
      · simp [-binInt_shr, -binInt_and, -binInt_or, Run, hs1, hs2, ha1, ha2, hw1, h1, h2, h3]
      · simp [-binInt_shr, -binInt_and, -binInt_or, Run, hs1, hs2, ha1, ha2, hw1, h1, h2, h3]
    · simp [-binInt_shr, -binInt_and, -binInt_or, Run, hs1, hs2, ha1, ha2, hw1, hw2, h1, h3, hor]
def mW (w : Nat) : Nat := if fE w = 0 then fM w else 4503599627370496 + fM w
def qE (w : Nat) : Int := if fE w = 0 then -1074 else (fE w : Int) - 1075
def qNum (w : Nat) : Nat := mW w * 2 ^ (qE w).toNat
def qDen (w : Nat) : Nat := 2 ^ (-qE w).toNat
theorem mW_lt (w : Nat) : mW w < 9007199254740992 := by
  have := (rg_fields w).2.2
  unfold mW
  split <;> omega
theorem qE_range (w : Nat) : -1074 ≤ qE w ∧ qE w ≤ 1000 := by
  have := (rg_fields w).2.1
  unfold qE
  split <;> omega
theorem qNum_lt (w : Nat) : qNum w < 2 ^ 1053 := by
  have h1 := mW_lt w
  have h2 := qE_range w
  unfold qNum
  rw [show 1053 = 53 + 1000 from rfl, Nat.pow_add]
  exact Nat.mul_lt_mul_of_lt_of_le (by rw [show (2 : Nat) ^ 53 = 9007199254740992 by decide]; exact h1) (Nat.pow_le_pow_right (by decide) (by omega)) (Nat.two_pow_pos _)
theorem qDen_le (w : Nat) : qDen w < 2 ^ 1075 := by
  have h2 := qE_range w
  unfold qDen
  exact Nat.pow_lt_pow_right (by decide) (by omega)
theorem qDen_pos (w : Nat) : 0 < qDen w := Nat.two_pow_pos _
theorem fin_fields {w : Nat} (h : rg w < infR) : fE w ≠ 2047 := by
  obtain ⟨h1, _, _⟩ := rg_fields w
  unfold infR at h
  omega
theorem c_Quotient (w : Nat) (hw : w < 18446744073709551616) (hf : rg w < infR) : Cinf T n_floats_Quotient [.v (.float .f64 w)] = some (.tup [rightR (sgn w) (qNum w) (qDen w), .v (.int .i64 0)], [.dead]) := by
  have p1 := c_Parts w hw
  have hne := fin_fields hf
  have hm := mW_lt w
  have hq := qE_range w
  have o := c_Over (sgn w) (limbs (qNum w)) (limbs (qDen w)) (fit_bits (qNum_lt w) (by decide)) (fit_bits (qDen_le w) (by decide))
  rw [val_limbs, val_limbs] at o
  unfold overR at o
  rw [if_neg (by have := qDen_pos w; omega)] at o
  have fr := c_From (mW w) (by omega)
  have f1 := c_From 1 (by decide)
  have fmw : Fit (limbs (mW w)) := fit_bits (k := 64) (by omega) (by decide)
  have fone : Fit (limbs 1) := fit_bits (k := 64) (by decide) (by decide)
  have u1 := c_Up (limbs (mW w)) fmw (qE w)
  have u2 := c_Up (limbs 1) fone (-qE w)
  rw [val_limbs] at u1 u2
  unfold upR at u1 u2
  simp at f1
  unfold partsR at p1
  rw [if_neg hne] at p1
  rw [run_floats_Quotient]
  have hwn : IntKind.i64.wrap (-qE w) = -qE w := by rw [wrap_i64] <;> omega
  -- a number that is not nought
  have main : ∀ (k : Int), Cinf T n_floats_Parts [.v (.float .f64 w)] = some (.tup [.v (.bool (sgn w)), .v (.int .u64 (mW w : Nat)), .v (.int .i64 (qE w)), .v (.int .u8 k)], [.dead]) → k ≠ 3 → k ≠ 4 → Run T a_floats_Quotient [.v (.float .f64 w)] = some (.tup [rightR (sgn w) (qNum w) (qDen w), .v (.int .i64 0)], [.dead]) := by
    intro k pk k3 k4
    unfold rightR at o ⊢
    by_cases h0 : qNum w = 0
    · rw [if_pos h0] at o ⊢
      by_cases hge : 0 ≤ qE w
      · rw [if_neg (by omega)] at u1
        change _ = some (PV.tup [.own 1 (ul (limbs (qNum w))), _], _) at u1
        have hd1 : qDen w = 1 := by unfold qDen; rw [show (-qE w).toNat = 0 by omega]
        rw [hd1] at o
        simp only [rat] at o ⊢
        simp [Run, pk, k3, k4, fr, f1, hge, u1, o]
      · rw [if_neg (by omega), Nat.one_mul] at u2
        change _ = some (PV.tup [.own 1 (ul (limbs (qDen w))), _], _) at u2
        have hn1 : qNum w = mW w := by unfold qNum; rw [show (qE w).toNat = 0 by omega, Nat.pow_zero, Nat.mul_one]
        rw [hn1] at o
        simp only [rat] at o ⊢
        simp [Run, pk, k3, k4, fr, f1, hge, hwn, u2, o]
    · rw [if_neg h0] at o ⊢
      by_cases hge : 0 ≤ qE w
      · rw [if_neg (by omega)] at u1
        change _ = some (PV.tup [.own 1 (ul (limbs (qNum w))), _], _) at u1
        have hd1 : qDen w = 1 := by unfold qDen; rw [show (-qE w).toNat = 0 by omega]
        rw [hd1] at o ⊢
        simp only [rat] at o ⊢
        simp only [Nat.gcd_one_right] at o ⊢
        simp [Run, pk, k3, k4, fr, f1, hge, u1, o]
      · rw [if_neg (by omega), Nat.one_mul] at u2
        change _ = some (PV.tup [.own 1 (ul (limbs (qDen w))), _], _) at u2
        have hn1 : qNum w = mW w := by unfold qNum; rw [show (qE w).toNat = 0 by omega, Nat.pow_zero, Nat.mul_one]
        rw [hn1] at o ⊢
        simp only [rat] at o ⊢
        simp [Run, pk, k3, k4, fr, f1, hge, hwn, u2, o]
  by_cases h1 : fE w = 0
  · rw [if_pos h1] at p1
    by_cases h2 : fM w = 0
    · rw [if_pos h2] at p1
      have hm0 : mW w = 0 := by unfold mW; rw [if_pos h1, h2]
      have hn0 : qNum w = 0 := by unfold qNum; rw [hm0, Nat.zero_mul]
      have u0 := c_Up (limbs 0) (fit_bits (k := 64) (by decide) (by decide)) 0
      rw [val_limbs] at u0
      unfold upR at u0
      rw [if_neg (by decide)] at u0
      have o0 := c_Over (sgn w) (limbs 0) (limbs 1) (fit_bits (k := 64) (by decide) (by decide)) fone
      rw [val_limbs, val_limbs] at o0
      unfold overR rightR at o0
      rw [if_neg (by decide), if_pos rfl] at o0
      rw [hm0] at fr
      unfold rightR
      rw [if_pos hn0]
      simp only [rat] at o0 ⊢
      simp at u0 fr
      simp [Run, p1, fr, f1, u0, o0]
    · rw [if_neg h2] at p1
      refine main 1 ?_ (by decide) (by decide)
      rw [p1]
      unfold mW qE
      rw [if_pos h1, if_pos h1]
  · rw [if_neg h1] at p1
    refine main 2 ?_ (by decide) (by decide)
    rw [p1]
    unfold mW qE
    rw [if_neg h1, if_neg h1]
/-- What fixed.Nearest answers. -/
def nearR (w : Nat) : PV :=
  if infR < rg w then .tup [.v (.int .i64 0), .v (.int .i64 60)]
  else if 4816244402031689728 < rg w then .tup [.v (.int .i64 0), .v (.int .i64 41)]
  else if 9223372036854775808 < rnd (qNum w * 1000000) (qDen w) ∨ (rnd (qNum w * 1000000) (qDen w) = 9223372036854775808 ∧ sgn w = false) then .tup [.v (.int .i64 0), .v (.int .i64 41)]
  else .tup [.v (.int .i64 (if sgn w = true then -(rnd (qNum w * 1000000) (qDen w) : Int) else rnd (qNum w * 1000000) (qDen w))), .v (.int .i64 0)]
theorem rg_rg (w : Nat) : rg (rg w) = rg w := by unfold rg; omega
theorem sgn_rg (w : Nat) : sgn (rg w) = false := by
  unfold sgn
  have h : rg w / 9223372036854775808 = 0 := by unfold rg; omega
  rw [h]
  rfl
theorem sv_rg (w : Nat) : sv (rg w) = dval (rg w) := by
  unfold sv
  rw [sgn_rg, rg_rg, if_neg (by decide)]
set_option maxRecDepth 100000 in
theorem c_fixNearest (w : Nat) (hw : w < 18446744073709551616) : Cinf T n_fixed_Nearest [.v (.float .f64 w)] = some (nearR w, [.dead]) := by
  have hrw := rg_rg w
  have a1 := c_Abs w hw
  rw [run_fixed_Nearest]
  unfold nearR
  rcases Nat.lt_trichotomy (rg w) infR with hf | hf | hf
  · rw [if_neg (by omega)]
    have q1 : (FloatKind.f64.format.order w w == some .eq) = true := by rw [flt_eq hf hf]; exact decide_eq_true rfl
    have q2 : (FloatKind.f64.format.order (rg w) 4816244402031689728 == some .gt) = decide (4816244402031689728 < rg w) := by
      rw [flt_gt (by rw [hrw]; exact hf) (by decide)]
      have e1 : sv 4816244402031689728 = dval 4816244402031689728 := sv_rg 4816244402031689728
      rw [sv_rg, e1]
      have := @dval_le (rg w) 4816244402031689728
      rw [decide_eq_decide]
      omega
    have q1' : FloatKind.f64.format.order w w = some .eq := by simpa using q1
    by_cases hbig : 4816244402031689728 < rg w
    · rw [decide_eq_true hbig] at q2
      have q2' : FloatKind.f64.format.order (rg w) 4816244402031689728 = some .gt := by simpa using q2
      rw [if_pos hbig]
      simp [Run, binFloat, q1', a1, q2']
    · rw [decide_eq_false hbig] at q2
      have q2' : ¬ FloatKind.f64.format.order (rg w) 4816244402031689728 = some .gt := by simpa using q2
      rw [if_neg hbig]
      have c1 := c_Quotient w hw hf
      have hd0 := qDen_pos w
      have f6 := c_From 1000000 (by decide)
      simp at f6
      -- the rounded product
      have key : ∀ (n d : Nat), Fit (limbs n) → Fit (limbs d) → Fit (limbs 1000000) → d ≠ 0 → rnd (n * 1000000) d = rnd (qNum w * 1000000) (qDen w) → n ≤ qNum w → d ≤ qDen w → ∀ neg, Cinf T n_fixed_signed [.v (.bool neg), .ro 1 (ul (limbs (rnd (qNum w * 1000000) (qDen w))))] = some (sgnR neg (rnd (qNum w * 1000000) (qDen w)), [.dead, .dead]) ∧
          Cinf T n_limbs_Mul [.ro 1 (ul (limbs n)), .ro 1 (ul (limbs 1000000))] = some (.own 1 (ul (limbs (n * 1000000))), [.dead, .dead]) ∧
          Cinf T n_fixed_rounded [.ro 1 (ul (limbs (n * 1000000))), .ro 1 (ul (limbs d))] = some (.own 1 (ul (limbs (rnd (qNum w * 1000000) (qDen w)))), [.dead, .dead]) := by
        intro n d fn fd f1 hd hr hn hdl neg
        have hnb : n * 1000000 < 2 ^ 1073 := by
          have := qNum_lt w
          rw [show 1073 = 1053 + 20 from rfl, Nat.pow_add]
          exact Nat.mul_lt_mul_of_lt_of_le (Nat.lt_of_le_of_lt hn this) (by decide) (by decide)
        have hrl : rnd (n * 1000000) d < 2 ^ 1074 := by
          have h1 := rnd_le (n * 1000000) d
          have h2 := Nat.div_le_self (n * 1000000) d
          have h3 : (2 : Nat) ^ 1074 = 2 ^ 1073 * 2 := Nat.pow_succ 2 1073
          generalize (2 : Nat) ^ 1073 = P at *
          omega
        have m1 := c_Mul (limbs n) (limbs 1000000) fn f1
        rw [val_limbs, val_limbs] at m1
        have r1 := c_rounded (n * 1000000) d (fit_bits hnb (by decide)) fd hd (fit_bits (k := 1076) (by
          have h1 := Nat.mod_lt (n * 1000000) (Nat.pos_of_ne_zero hd)
          have h2 := qDen_le w
          have h3 : (2 : Nat) ^ 1076 = 2 ^ 1075 * 2 := Nat.pow_succ 2 1075
          generalize (2 : Nat) ^ 1075 = P at *
          omega) (by decide))
        have s1 := c_signed neg (rnd (n * 1000000) d) (fit_bits hrl (by decide))
        rw [hr] at r1 s1
        exact ⟨s1, m1, r1⟩
      have f1m : Fit (limbs 1000000) := fit_bits (k := 64) (by decide) (by decide)
      have fin : ∀ (neg : Bool) (n d : Nat), Cinf T n_floats_Quotient [.v (.float .f64 w)] = some (.tup [rat neg n d, .v (.int .i64 0)], [.dead]) → Fit (limbs n) → Fit (limbs d) → d ≠ 0 → rnd (n * 1000000) d = rnd (qNum w * 1000000) (qDen w) → n ≤ qNum w → d ≤ qDen w →
          (if 9223372036854775808 < rnd (qNum w * 1000000) (qDen w) ∨ (rnd (qNum w * 1000000) (qDen w) = 9223372036854775808 ∧ neg = false) then PV.tup [.v (.int .i64 0), .v (.int .i64 41)] else .tup [.v (.int .i64 (if neg = true then -(rnd (qNum w * 1000000) (qDen w) : Int) else rnd (qNum w * 1000000) (qDen w))), .v (.int .i64 0)]) =
            (if 9223372036854775808 < rnd (qNum w * 1000000) (qDen w) ∨ (rnd (qNum w * 1000000) (qDen w) = 9223372036854775808 ∧ sgn w = false) then PV.tup [.v (.int .i64 0), .v (.int .i64 41)] else .tup [.v (.int .i64 (if sgn w = true then -(rnd (qNum w * 1000000) (qDen w) : Int) else rnd (qNum w * 1000000) (qDen w))), .v (.int .i64 0)]) →
          Run T a_fixed_Nearest [.v (.float .f64 w)] = some (if 9223372036854775808 < rnd (qNum w * 1000000) (qDen w) ∨ (rnd (qNum w * 1000000) (qDen w) = 9223372036854775808 ∧ sgn w = false) then PV.tup [.v (.int .i64 0), .v (.int .i64 41)] else .tup [.v (.int .i64 (if sgn w = true then -(rnd (qNum w * 1000000) (qDen w) : Int) else rnd (qNum w * 1000000) (qDen w))), .v (.int .i64 0)], [.dead]) := by
        intro neg n d cq fn fd hd hr hn hdl heq
        obtain ⟨s1, m1, r1⟩ := key n d fn fd f1m hd hr hn hdl neg
        rw [← heq]
        simp only [rat] at cq
        unfold sgnR at s1
        by_cases hc : 9223372036854775808 < rnd (qNum w * 1000000) (qDen w) ∨ (rnd (qNum w * 1000000) (qDen w) = 9223372036854775808 ∧ neg = false)
        · rw [if_pos hc] at s1 ⊢
          obtain ⟨r, hrr⟩ : ∃ r, rnd (qNum w * 1000000) (qDen w) = r := ⟨_, rfl⟩
          rw [hrr] at s1 r1
          simp [Run, binFloat, q1', a1, q2', cq, f6, m1, r1, s1]
        · rw [if_neg hc] at s1 ⊢
          obtain ⟨r, hrr⟩ : ∃ r, rnd (qNum w * 1000000) (qDen w) = r := ⟨_, rfl⟩
          rw [hrr] at s1 r1 ⊢
          simp [Run, binFloat, q1', a1, q2', cq, f6, m1, r1, s1]
      unfold rightR at c1
      by_cases h0 : qNum w = 0
      · rw [if_pos h0] at c1
        have hr0 : rnd (0 * 1000000) 1 = rnd (qNum w * 1000000) (qDen w) := by
          rw [h0, Nat.zero_mul]
          unfold rnd
          have : ¬ qDen w < 0 := by omega
          simp
        have hz : rnd (qNum w * 1000000) (qDen w) = 0 := by rw [← hr0]; decide
        refine fin false 0 1 c1 (fit_bits (k := 64) (by decide) (by decide)) (fit_bits (k := 64) (by decide) (by decide)) (by decide) hr0 (by omega) (by omega) ?_
        rw [hz, if_neg (by decide), if_neg (by simp)]
        cases sgn w <;> simp
      · rw [if_neg h0] at c1
        obtain ⟨g, hg⟩ : ∃ g, Nat.gcd (qNum w) (qDen w) = g := ⟨_, rfl⟩
        have hg0 : 0 < g := by rw [← hg]; exact Nat.gcd_pos_of_pos_left _ (Nat.pos_of_ne_zero h0)
        rw [hg] at c1
        have en : qNum w = g * (qNum w / g) := by rw [Nat.mul_div_cancel' (by rw [← hg]; exact Nat.gcd_dvd_left _ _)]
        have ed : qDen w = g * (qDen w / g) := by rw [Nat.mul_div_cancel' (by rw [← hg]; exact Nat.gcd_dvd_right _ _)]
        refine fin (sgn w) (qNum w / g) (qDen w / g) c1 (fit_mono (fit_bits (qNum_lt w) (by decide)) (Nat.div_le_self _ _)) (fit_mono (fit_bits (qDen_le w) (by decide)) (Nat.div_le_self _ _)) ?_ ?_ (Nat.div_le_self _ _) (Nat.div_le_self _ _) rfl
        · intro h
          rw [h, Nat.mul_zero] at ed
          omega
        · have := rnd_scale (qNum w / g * 1000000) (qDen w / g) g hg0
          rw [← Nat.mul_assoc, ← en, ← ed] at this
          exact this.symm
  · have q1 := order_self_inf hf
    have q2 : FloatKind.f64.format.order (rg w) 4816244402031689728 = some .gt := order_inf_pos (by rw [hrw]; exact hf) (sgn_rg w) (by decide)
    rw [if_neg (by omega), if_pos (by rw [hf]; decide)]
    simp [Run, binFloat, q1, a1, q2]
  · have q1 : FloatKind.f64.format.order w w = none := order_nan hf
    rw [if_pos hf]
    simp [Run, binFloat, q1]
end Go.AM.F

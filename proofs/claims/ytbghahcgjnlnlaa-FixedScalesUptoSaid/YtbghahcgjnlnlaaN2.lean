/- The document's naturals: shifts, differences, quotients bit by bit. No conditions. -/
import Derived.Test.YtbghahcgjnlnlaaL14
import Derived.Test.YtbghahcgjnlnlaaL19
import Derived.Test.YtbghahcgjnlnlaaN1
namespace Go.AM.F
open Go Go.AM
set_option maxRecDepth 10000
set_option linter.unusedSimpArgs false
attribute [local simp] j0_thicketref02_size j1_thicketref02_size w0_thicketref02_size j2_thicketref02_size j3_thicketref02_size b_thicketref02_size a_thicketref02_size b_thicketref02_Size a_thicketref02_Size
attribute [local simp] j0_thicketref02_up j1_thicketref02_up w0_thicketref02_up j2_thicketref02_up j3_thicketref02_up w1_thicketref02_up j4_thicketref02_up j5_thicketref02_up j6_thicketref02_up b_thicketref02_up a_thicketref02_up b_thicketref02_Up a_thicketref02_Up
attribute [local simp] j0_thicketref02_minus j1_thicketref02_minus j2_thicketref02_minus w0_thicketref02_minus j3_thicketref02_minus b_thicketref02_minus a_thicketref02_minus
attribute [local simp] j0_thicketref02_divide j1_thicketref02_divide w0_thicketref02_divide j2_thicketref02_divide b_thicketref02_divide a_thicketref02_divide b_thicketref02_Divide a_thicketref02_Divide
theorem shr1_u32 (x : Nat) : binInt .shr .u32 x 1 = some (.int .u32 (x / 2 : Nat)) := shr_32 x 1 (by decide)
theorem size_loop : ∀ (n b x : Nat), b + n ≤ 281474976710656 → nbits x = n → Exec T l0_thicketref02_size [(3, .v (.int .i64 b)), (4, .v (.int .u32 x))] = some (.exit 0, [(3, .v (.int .i64 (b + n : Nat))), (4, .v (.int .u32 0))]) := by
  intro n
  induction n with
  | zero =>
    intro b x hb hx
    have h0 : x = 0 := by
      refine Classical.byContradiction fun h => ?_
      rw [nbits_pos h] at hx
      omega
    subst h0
    rw [ex0_thicketref02_size]
    simp
  | succ n ih =>
    intro b x hb hx
    have h0 : x ≠ 0 := by rintro rfl; rw [nbits_zero] at hx; omega
    rw [nbits_pos h0] at hx
    have h1 := ih (b + 1) (x / 2) (by omega) (by omega)
    have hw : IntKind.i64.wrap ((b : Int) + 1) = (b : Int) + 1 := by rw [wrap_i64] <;> omega
    have hs := shr1_u32 x
    obtain ⟨y, hy⟩ : ∃ y, x / 2 = y := ⟨_, rfl⟩
    rw [hy] at h1 hs
    have hp : 0 < x := by omega
    rw [succ_cast, show b + 1 + n = b + (n + 1) by omega] at h1
    rw [← h1, ex0_thicketref02_size]
    simp [-binInt_shr, hp, hw, hs]
theorem c2_size (v : Nat) (h : Fit (limbs v)) : Cinf T n_thicketref02_size [.ro 1 (ul (limbs v))] = some (.v (.int .i64 (nbits v : Nat)), [.dead]) := by
  rw [run_thicketref02_size]
  by_cases hv : v = 0
  · subst hv
    rw [limbs_zero, nbits_zero]
    simp [Run]
  · obtain ⟨n, x, hn, hl, hx, hxl, hx0, hb⟩ := limbs_top hv
    have hf := h.2
    have hne : ¬ limbs v = [] := by intro e; rw [e] at hl; simp at hl
    have h1 := size_loop (nbits x) (32 * n) x (by have := nbits_le (k := 32) (n := x) (by omega); omega) rfl
    rw [← hb] at h1
    have w1 : IntKind.i64.wrap (((limbs v).length : Int) - 1) = (n : Int) := by rw [wrap_i64] <;> omega
    have w2 : IntKind.i64.wrap (32 * (n : Int)) = ((32 * n : Nat) : Int) := by rw [wrap_i64] <;> omega
    obtain ⟨m, hm⟩ : ∃ m, 32 * n = m := ⟨_, rfl⟩
    rw [hm] at h1 w2
    simp [Run, hne, w1, w2, hn, hx, h1]
theorem c2_Size (v : Nat) (h : Fit (limbs v)) : Cinf T n_thicketref02_Size [.ro 1 (ul (limbs v))] = some (.v (.int .i64 (nbits v : Nat)), [.dead]) := by
  have h0 := c2_size v h
  rw [run_thicketref02_Size]
  simp [Run, h0]
theorem upz_loop (l : List Nat) (n q : Nat) (hq : n / 32 = q) (hql : q ≤ 1099511627776) : ∀ (m i : Nat), q - i = m → i ≤ q →
    Exec T l0_thicketref02_up [(0, .ro 1 (ul l)), (1, .v (.int .i64 n)), (5, .own 1 (ul (List.replicate i 0))), (6, .v (.int .i64 i)), (21, .dead), (44, .dead), (51, .dead)] = some (.exit 0, [(0, .ro 1 (ul l)), (1, .v (.int .i64 n)), (5, .own 1 (ul (List.replicate q 0))), (6, .v (.int .i64 q)), (21, .dead), (44, .dead), (51, .dead)]) := by
  intro m
  have q1 : (n : Int).tdiv 32 = (q : Int) := by rw [← hq]; rfl
  have w1 : IntKind.i64.wrap (q : Int) = q := by rw [wrap_i64] <;> omega
  have q3 : binInt .quo .i64 n 32 = some (.int .i64 (q : Nat)) := by rw [binInt_quo, if_neg (by decide), q1, w1]
  induction m with
  | zero =>
    intro i hm hi
    obtain rfl : i = q := by omega
    rw [ex0_thicketref02_up]
    simp [-binInt_quo, q3]
  | succ m ih =>
    intro i hm hi
    have hlt : i < q := by omega
    have hw := wrap_succ hlt (by omega)
    have h0 := ih (i + 1) (by omega) (by omega)
    have e1 : i ≤ 35184372088831 := by omega
    have e2 : i ≤ 4611686018427387903 := by omega
    have e3 : (i + 1) * 4 ≤ 140737488355328 := by omega
    rw [List.replicate_succ', ul_snoc, succ_cast] at h0
    rw [← h0, ex0_thicketref02_up]
    simp [-binInt_quo, q3, hlt, hw, e1, e2, e3]
theorem up2_loop (l : List Nat) (h : Fit l) (q r P : Nat) (hr32 : r < 32) (hP : 2 ^ r = P) (hq : q ≤ 1099511627776) : ∀ (m k c : Nat) (out : List Nat), l.length - k = m → k ≤ l.length → c < P → Lim out → out.length = q + k → 4294967296 ^ q * P * val (l.take k) = val out + 4294967296 ^ (q + k) * c →
    ∃ (out' : List Nat) (c' : Nat), Exec T l1_thicketref02_up [(0, .ro 1 (ul l)), (5, .own 1 (ul out)), (7, .v (.int .u64 r)), (8, .v (.int .u64 c)), (9, .v (.int .i64 k)), (21, .dead), (44, .dead), (51, .dead)] =
      some (.exit 2, [(0, .ro 1 (ul l)), (5, .own 1 (ul out')), (7, .v (.int .u64 r)), (8, .v (.int .u64 c')), (9, .v (.int .i64 l.length)), (21, .dead), (44, .dead), (51, .dead)]) ∧ c' < P ∧ Lim out' ∧ out'.length = q + l.length ∧ 4294967296 ^ q * P * val l = val out' + 4294967296 ^ (q + l.length) * c' := by
  intro m
  induction m with
  | zero =>
    intro k c out hn hk hc hl ho hv
    obtain rfl : k = l.length := by omega
    refine ⟨out, c, ?_, hc, hl, ho, ?_⟩
    · rw [ex1_thicketref02_up]
      simp
    · rwa [List.take_of_length_le (Nat.le_refl _)] at hv
  | succ m ih =>
    intro k c out hn hk hc hl ho hv
    have hlt : k < l.length := by omega
    have hal := h.2
    have hw := wrap_succ hlt (by omega)
    have hxl := h.1.get hlt
    obtain ⟨x, hx⟩ : ∃ x, l[k] = x := ⟨_, rfl⟩
    rw [hx] at hxl
    have hp31 := pow31 (r := r) hr32
    have hol := or_low (x := x) (by rw [hP]; exact hc)
    have hxp : x * P ≤ 4294967295 * 2147483648 := Nat.mul_le_mul (by omega) (by rw [← hP]; exact hp31)
    have hsh := shl_64 x r (by omega) (by rw [hP]; omega)
    rw [hP] at hol hsh hp31
    have hvk := val_take_succ' hlt hx
    have hsB : c + x * P < 4294967296 * P := by
      have : (x + 1) * P ≤ 4294967296 * P := Nat.mul_le_mul_right _ (by omega)
      rw [Nat.add_mul] at this
      omega
    obtain ⟨t, ht⟩ : ∃ t, x * P = t := ⟨_, rfl⟩
    obtain ⟨s, hs⟩ : ∃ s, c + x * P = s := ⟨_, rfl⟩
    have hst := up_step hv hs
    rw [hs] at hsB
    have hor := or64 (x := c) (y := t) (e := s) (by omega) (by omega) (by rw [← ht, hol, hs])
    rw [ht] at hsh hxp
    have w0 := u64_nat (k := x) (by omega)
    obtain ⟨lo, hlo⟩ : ∃ lo, s % 4294967296 = lo := ⟨_, rfl⟩
    obtain ⟨hi, hhi⟩ : ∃ hi, s / 4294967296 = hi := ⟨_, rfl⟩
    have h1 := mod_u32 s
    have h2 := shr32_64 hhi
    rw [hlo] at h1 hst
    rw [hhi] at hst
    obtain ⟨out', c', h0, h3, h4, h5, h6⟩ := ih (k + 1) hi (out ++ [lo]) (by omega) (by omega) (by rw [← hhi]; exact Nat.div_lt_of_lt_mul hsB) (hl.append (Lim.one (by omega))) (by simp [ho]; omega) (by
      rw [hvk, Nat.mul_add, ← hst, val_snoc, ho])
    refine ⟨out', c', ?_, h3, h4, h5, h6⟩
    rw [succ_cast, ul_snoc] at h0
    have e1 : q + k ≤ 35184372088831 := by omega
    have e2 : q + k ≤ 4611686018427387903 := by omega
    have e3 : (q + k + 1) * 4 ≤ 140737488355328 := by omega
    rw [← h0, ex1_thicketref02_up]
    simp [-binInt_shl, -binInt_or, -binInt_shr, hlt, hx, hw, w0, hsh, hor, h1, h2, ho, e1, e2, e3]
theorem c2_up (v n : Nat) (h : Fit (limbs v)) (hn : n ≤ 1048576) : Cinf T n_thicketref02_up [.ro 1 (ul (limbs v)), .v (.int .i64 n)] = some (.own 1 (ul (limbs (v * 2 ^ n))), [.dead, .dead]) := by
  rw [run_thicketref02_up]
  by_cases hv : v = 0
  · subst hv
    rw [limbs_zero, Nat.zero_mul, limbs_zero]
    simp [Run]
  · have hf := h.2
    have hne : ¬ limbs v = [] := by rw [limbs_pos hv]; simp
    obtain ⟨q, hq⟩ : ∃ q, n / 32 = q := ⟨_, rfl⟩
    obtain ⟨r, hr⟩ : ∃ r, n % 32 = r := ⟨_, rfl⟩
    obtain ⟨P, hP⟩ : ∃ P, 2 ^ r = P := ⟨_, rfl⟩
    have hr32 : r < 32 := by omega
    have hPp : 0 < P := by rw [← hP]; exact Nat.two_pow_pos _
    have hzl : Lim (List.replicate q 0) := fun y hy => by rw [(List.mem_replicate.1 hy).2]; omega
    have z0 := upz_loop (limbs v) n q hq (by omega) q 0 rfl (Nat.zero_le _)
    obtain ⟨out, c, k0, k1, k2, k3, k4⟩ := up2_loop (limbs v) h q r P hr32 hP (by omega) (limbs v).length 0 0 (List.replicate q 0) rfl (Nat.zero_le _) hPp hzl (by simp) (by rw [val_zeros]; simp [val])
    have hp31 := pow31 hr32
    rw [hP] at hp31
    have hlo : Lim (out ++ [c]) := k2.append (Lim.one (by omega))
    have t := c2_norm (out ++ [c]) (by simp; omega) hlo
    have hval : 4294967296 ^ q * P * val (limbs v) = v * 2 ^ n := by rw [val_limbs, pow_split n, hq, hr, hP, Nat.mul_comm]
    rw [val_snoc, k3, ← k4, ul_snoc, hval] at t
    have q2 : (n : Int).tmod 32 = (r : Int) := by rw [← hr]; rfl
    have q4 : binInt .rem .i64 n 32 = some (.int .i64 (r : Nat)) := by rw [binInt_rem, if_neg (by decide), q2]
    have w0 := u64_nat (k := r) (by omega)
    have w1 := u32_nat (k := c) (by omega)
    have e1 : q + (limbs v).length ≤ 35184372088831 := by omega
    have e2 : q + (limbs v).length ≤ 4611686018427387903 := by omega
    have e3 : (q + (limbs v).length + 1) * 4 ≤ 140737488355328 := by omega
    simp only [Int.natCast_zero, List.replicate_zero, ul_nil] at z0 k0
    simp [-binInt_rem, Run, hne, z0, k0, t, q4, w0, w1, k3, e1, e2, e3]
theorem c2_Up (v n : Nat) (h : Fit (limbs v)) (hn : n ≤ 1048576) : Cinf T n_thicketref02_Up [.ro 1 (ul (limbs v)), .v (.int .i64 n)] = some (.own 1 (ul (limbs (v * 2 ^ n))), [.dead, .dead]) := by
  have h0 := c2_up v n h hn
  rw [run_thicketref02_Up]
  simp [Run, h0]
theorem minus_step {A P Q k x y br d br' : Nat} (hv : A + 4294967296 ^ k * br = P + Q) (h : x + 4294967296 * br' = d + y + br) : A + 4294967296 ^ k * x + 4294967296 ^ (k + 1) * br' = (P + 4294967296 ^ k * d) + (Q + 4294967296 ^ k * y) := by
  have e1 : 4294967296 ^ k * x + 4294967296 ^ k * (4294967296 * br') = 4294967296 ^ k * d + 4294967296 ^ k * y + 4294967296 ^ k * br := by rw [← Nat.mul_add, ← Nat.mul_add, ← Nat.mul_add, h]
  rw [Nat.pow_succ, Nat.mul_assoc]
  omega
theorem minus_loop (a b : List Nat) (ha : Fit a) (hb : Fit b) : ∀ (n k br : Nat) (out : List Nat), a.length - k = n → k ≤ a.length → br ≤ 1 → Lim out → out.length = k → val (a.take k) + 4294967296 ^ k * br = val out + val (b.take k) →
    ∃ (out' : List Nat) (br' : Nat), Exec T l0_thicketref02_minus [(0, .ro 1 (ul a)), (1, .ro 1 (ul b)), (5, .own 1 (ul out)), (6, .v (.int .i64 (-(br : Int)))), (7, .v (.int .i64 k)), (36, .dead)] =
      some (.exit 0, [(0, .ro 1 (ul a)), (1, .ro 1 (ul b)), (5, .own 1 (ul out')), (6, .v (.int .i64 (-(br' : Int)))), (7, .v (.int .i64 a.length)), (36, .dead)]) ∧ br' ≤ 1 ∧ Lim out' ∧ out'.length = a.length ∧ val a + 4294967296 ^ a.length * br' = val out' + val (b.take a.length) := by
  intro n
  induction n with
  | zero =>
    intro k br out hn hk hbr hl ho hv
    obtain rfl : k = a.length := by omega
    refine ⟨out, br, ?_, hbr, hl, ho, ?_⟩
    · rw [ex0_thicketref02_minus]
      simp
    · rwa [List.take_of_length_le (Nat.le_refl _)] at hv
  | succ n ih =>
    intro k br out hn hk hbr hl ho hv
    have hal := ha.2
    have hlt : k < a.length := by omega
    have hw := wrap_succ hlt (by omega)
    obtain ⟨x, hx⟩ : ∃ x, a[k] = x := ⟨_, rfl⟩
    have hxl := ha.1.get hlt
    rw [hx] at hxl
    obtain ⟨y, hy⟩ : ∃ y, at0 b k = y := ⟨_, rfl⟩
    have hyl := at0_lt hb.1 k
    rw [hy] at hyl
    obtain ⟨br', hbr'⟩ : ∃ z, (if x < y + br then 1 else 0 : Nat) = z := ⟨_, rfl⟩
    have hb2 : br' ≤ 1 := by rw [← hbr']; split <;> omega
    obtain ⟨d, hd⟩ : ∃ d, x + 4294967296 * br' - y - br = d := ⟨_, rfl⟩
    have hst : x + 4294967296 * br' = d + y + br := by rw [← hd, ← hbr']; split <;> omega
    have hdl : d < 4294967296 := by rw [← hd, ← hbr']; split <;> omega
    have hv2 : val (a.take (k + 1)) + 4294967296 ^ (k + 1) * br' = val (out ++ [d]) + val (b.take (k + 1)) := by
      rw [val_take_succ' hlt hx, val_snoc, ho, val_take_succ b, hy]
      exact minus_step hv hst
    obtain ⟨out', b2, h0, h3⟩ := ih (k + 1) br' (out ++ [d]) (by omega) (by omega) hb2 (hl.append (Lim.one hdl)) (by simp [ho]) hv2
    refine ⟨out', b2, ?_, h3⟩
    have w0 : IntKind.i64.wrap (x : Int) = x := by rw [wrap_i64] <;> omega
    have w1 : IntKind.i64.wrap (y : Int) = y := by rw [wrap_i64] <;> omega
    obtain ⟨c1, hc1⟩ : ∃ c : Int, -(br : Int) + x = c := ⟨_, rfl⟩
    have w2 : IntKind.i64.wrap (-(br : Int) + x) = c1 := by rw [wrap_i64] <;> omega
    obtain ⟨c2, hc2⟩ : ∃ c : Int, c1 - y = c := ⟨_, rfl⟩
    have w3 : IntKind.i64.wrap (c1 - y) = c2 := by rw [wrap_i64] <;> omega
    have w4 : IntKind.u32.wrap c2 = (d : Int) := by
      simp only [IntKind.wrap, IntKind.signed, IntKind.bits]
      simp
      omega
    have w5 : binInt .shr .i64 c2 32 = some (.int .i64 (-(br' : Int))) := by
      rw [binInt_shr, if_neg (by decide)]
      show some (Value.int .i64 (c2.fdiv 4294967296)) = _
      rw [Int.fdiv_eq_ediv_of_nonneg _ (by decide)]
      congr 2
      omega
    have e1 : k ≤ 35184372088831 := by omega
    have e2 : k ≤ 4611686018427387903 := by omega
    have e3 : (k + 1) * 4 ≤ 140737488355328 := by omega
    rw [succ_cast, ul_snoc] at h0
    rw [← h0, ex0_thicketref02_minus]
    by_cases hkb : k < b.length
    · have hyb : b[k] = y := by rw [← hy, at0_in hkb]
      simp [-binInt_shr, hlt, hx, hw, hkb, hyb, w0, w1, w2, w3, w4, w5, ho, e1, e2, e3]
    · have hyb : y = 0 := by rw [← hy, at0_out hkb]
      have hc : c1 = c2 := by rw [← hc2, hyb]; simp
      rw [hc] at w2
      simp [-binInt_shr, hlt, hx, hw, hkb, w0, w2, w4, w5, ho, e1, e2, e3]
theorem c2_minus (m n : Nat) (ha : Fit (limbs m)) (hb : Fit (limbs n)) (hle : n ≤ m) : Cinf T n_thicketref02_minus [.ro 1 (ul (limbs m)), .ro 1 (ul (limbs n))] = some (.own 1 (ul (limbs (m - n))), [.dead, .dead]) := by
  obtain ⟨o, br, h0, h1, h2, h3, h4⟩ := minus_loop (limbs m) (limbs n) ha hb (limbs m).length 0 0 [] rfl (Nat.zero_le _) (by omega) Lim.nil rfl (by simp [val])
  have hlen := limbs_mono hle
  rw [List.take_of_length_le hlen, val_limbs, val_limbs] at h4
  have hlt := val_lt h2
  rw [h3] at hlt
  have hbr : br = 0 := by
    rcases Nat.lt_or_ge 0 br with h | h
    · have : br = 1 := by omega
      rw [this, Nat.mul_one] at h4
      omega
    · omega
  rw [hbr, Nat.mul_zero, Nat.add_zero] at h4
  have t := c2_norm o (by have := ha.2; omega) h2
  rw [show val o = m - n by omega] at t
  simp only [Int.natCast_zero, ul_nil] at h0
  simp at h0
  rw [run_thicketref02_minus]
  simp [Run, h0, t]
end Go.AM.F

/- Naturals times a power of two. No conditions. -/
import Derived.Test.YtlokekpiajholaaDoorL11
import Derived.Test.YtlokekpiajholaaDoorL15
namespace Go.AM.F
open Go Go.AM
set_option maxRecDepth 10000
set_option linter.unusedSimpArgs false
attribute [local simp] j0_limbs_up j1_limbs_up w0_limbs_up j2_limbs_up j3_limbs_up b_limbs_up a_limbs_up j0_limbs_Up b_limbs_Up a_limbs_Up
theorem or_low {c x r : Nat} (hc : c < 2 ^ r) : c ||| x * 2 ^ r = c + x * 2 ^ r := by
  have := Nat.two_pow_add_eq_or_of_lt hc x
  rw [Nat.or_comm, Nat.mul_comm, ← this, Nat.add_comm]
theorem pow31 {r : Nat} (h : r < 32) : 2 ^ r ≤ 2147483648 := Nat.le_trans (Nat.pow_le_pow_right (by decide) (show r ≤ 31 by omega)) (by decide)
theorem pow_split (n : Nat) : 2 ^ n = 4294967296 ^ (n / 32) * 2 ^ (n % 32) := by
  rw [show (4294967296 : Nat) = 2 ^ 32 from rfl, ← Nat.pow_mul, ← Nat.pow_add, Nat.div_add_mod]
theorem mask_64 {s e : Nat} (h : s < 18446744073709551616) (he : s % 4294967296 = e) : binInt .and .u64 s 4294967295 = some (.int .u64 (e : Nat)) := by
  have := mask32 s h
  rw [he] at this
  rw [binInt_and, this]
theorem shr32_64 {s e : Nat} (he : s / 4294967296 = e) : binInt .shr .u64 s 32 = some (.int .u64 (e : Nat)) := by
  have := shr32 s
  rw [he] at this
  rw [binInt_shr, if_neg (by decide), this]
theorem shr_64 (x r : Nat) (hr : r ≤ 64) : binInt .shr .u64 x r = some (.int .u64 (x / 2 ^ r : Nat)) := by
  have h1 : ¬ (r : Int) < 0 := by omega
  rw [binInt_shr, if_neg h1, Int.toNat_natCast, show IntKind.u64.bits = 64 from rfl, Nat.min_eq_left hr, show (2 : Int) ^ r = ((2 ^ r : Nat) : Int) by simp, Int.fdiv_eq_ediv_of_nonneg _ (Int.natCast_nonneg _)]
  rfl
theorem up_step {V W q k P c x s : Nat} (hv : W = V + 4294967296 ^ (q + k) * c) (hs : c + x * P = s) : V + 4294967296 ^ (q + k) * (s % 4294967296) + 4294967296 ^ (q + (k + 1)) * (s / 4294967296) = W + 4294967296 ^ q * P * (4294967296 ^ k * x) := by
  have h := carry_step (s := x * P) hv
  rw [hs] at h
  rw [← Nat.add_assoc, ← h, Nat.pow_add]
  congr 1
  simp only [Nat.mul_assoc, Nat.mul_left_comm, Nat.mul_comm]
theorem up_loop (l : List Nat) (h : Fit l) (n q r P : Nat) (hr : n % 32 = r) (hP : 2 ^ r = P) (hq : q ≤ 1099511627776) : ∀ (m k c : Nat) (out : List Nat), l.length - k = m → k ≤ l.length → c < P → Lim out → out.length = q + k → 4294967296 ^ q * P * val (l.take k) = val out + 4294967296 ^ (q + k) * c →
    ∃ (out' : List Nat) (c' : Nat), Exec T l0_limbs_up [(0, .ro 1 (ul l)), (1, .v (.int .i64 n)), (5, .own 1 (ul out)), (6, .v (.int .u64 c)), (10, .ro 1 (ul l)), (22, .dead), (23, .ro 1 (ul l)), (24, .v (.int .i64 l.length)), (25, .v (.int .i64 k)), (40, .dead)] =
      some (.exit 0, [(0, .ro 1 (ul l)), (1, .v (.int .i64 n)), (5, .own 1 (ul out')), (6, .v (.int .u64 c')), (10, .ro 1 (ul l)), (22, .dead), (23, .ro 1 (ul l)), (24, .v (.int .i64 l.length)), (25, .v (.int .i64 l.length)), (40, .dead)]) ∧ c' < P ∧ Lim out' ∧ out'.length = q + l.length ∧ 4294967296 ^ q * P * val l = val out' + 4294967296 ^ (q + l.length) * c' := by
  intro m
  induction m with
  | zero =>
    intro k c out hn hk hc hl ho hv
    obtain rfl : k = l.length := by omega
    refine ⟨out, c, ?_, hc, hl, ho, ?_⟩
    · rw [ex0_limbs_up]
      simp
    · rwa [List.take_of_length_le (Nat.le_refl _)] at hv
  | succ m ih =>
    intro k c out hn hk hc hl ho hv
    have hlt : k < l.length := by omega
    have hal := h.2
    have hw := wrap_succ hlt (by omega)
    have hxl := h.1.get hlt
    obtain ⟨x, hx⟩ : ∃ x, l[k] = x := ⟨_, rfl⟩
    rw [hx] at hxl
    have hp31 := pow31 (r := r) (by omega)
    have hol := or_low (x := x) (by rw [hP]; exact hc)
    have hxp : x * P ≤ 4294967295 * 2147483648 := Nat.mul_le_mul (by omega) (by rw [← hP]; exact hp31)
    have hsh := shl_64 x r (by omega) (by rw [hP]; omega)
    rw [hP] at hol hsh hp31
    have hvk := val_take_succ' hlt hx
    have hsB : c + x * P < 4294967296 * P := by
      have : (x + 1) * P ≤ 4294967296 * P := Nat.mul_le_mul_right _ (by omega)
      rw [Nat.add_mul] at this
      omega
    obtain ⟨t, ht⟩ : ∃ t, x * P = t := ⟨_, rfl⟩
    obtain ⟨s, hs⟩ : ∃ s, c + x * P = s := ⟨_, rfl⟩
    have hst := up_step hv hs
    rw [hs] at hsB
    have hor := or64 (x := c) (y := t) (e := s) (by omega) (by omega) (by rw [← ht, hol, hs])
    rw [ht] at hsh hxp
    have w0 := u64_nat (k := x) (by omega)
    have h1 := c_low s (by omega)
    have h2 := c_high s
    have q2 : (n : Int).tmod 32 = (r : Nat) := by rw [← hr]; rfl
    obtain ⟨lo, hlo⟩ : ∃ lo, s % 4294967296 = lo := ⟨_, rfl⟩
    obtain ⟨hi, hhi⟩ : ∃ hi, s / 4294967296 = hi := ⟨_, rfl⟩
    rw [hlo] at h1 hst
    rw [hhi] at h2 hst
    obtain ⟨out', c', h0, h3, h4, h5, h6⟩ := ih (k + 1) hi (out ++ [lo]) (by omega) (by omega) (by rw [← hhi]; exact Nat.div_lt_of_lt_mul hsB) (hl.append (Lim.one (by omega))) (by simp [ho]; omega) (by
      rw [hvk, Nat.mul_add, ← hst, val_snoc, ho])
    refine ⟨out', c', ?_, h3, h4, h5, h6⟩
    rw [succ_cast, ul_snoc] at h0
    have e1 : q + k ≤ 35184372088831 := by omega
    have e2 : q + k ≤ 4611686018427387903 := by omega
    have e3 : (q + k + 1) * 4 ≤ 140737488355328 := by omega
    rw [ex0_limbs_up, ← h0]
    simp [-binInt_shl, -binInt_or, hlt, hx, hw, q2, w0, hsh, hor, h1, h2, ho, e1, e2, e3]
theorem c_up (l : List Nat) (h : Fit l) (n : Nat) (hn : n ≤ 1048576) : Cinf T n_limbs_up [.ro 1 (ul l), .v (.int .i64 n)] = some (.own 1 (ul (limbs (val l * 2 ^ n))), [.dead, .dead]) := by
  have h0 := c_trim l h.2
  have hl := h.2
  rw [← limbs_val h.1] at h0
  rw [run_limbs_up]
  by_cases hv : val l = 0
  · rw [hv, limbs_zero] at h0
    simp at h0
    simp [Run, h0, hv, limbs_zero]
  · have hf := h.limbs
    have hvl := val_limbs (val l)
    have hne : limbs (val l) ≠ [] := by rw [limbs_pos hv]; simp
    obtain ⟨m, hm⟩ : ∃ m, limbs (val l) = m := ⟨_, rfl⟩
    rw [hm] at h0 hf hvl hne
    have hml := hf.2
    obtain ⟨q, hq⟩ : ∃ q, n / 32 = q := ⟨_, rfl⟩
    obtain ⟨P, hP⟩ : ∃ P, 2 ^ (n % 32) = P := ⟨_, rfl⟩
    have hPp : 0 < P := by rw [← hP]; exact Nat.two_pow_pos _
    have hzl : Lim (List.replicate q 0) := fun y hy => by rw [(List.mem_replicate.1 hy).2]; omega
    obtain ⟨out, c, k0, k1, k2, k3, k4⟩ := up_loop m hf n q (n % 32) P rfl hP (by omega) m.length 0 0 (List.replicate q 0) rfl (Nat.zero_le _) hPp hzl (by simp) (by rw [val_zeros]; simp [val])
    simp only [Int.natCast_zero] at k0
    have hur : ul (List.replicate q 0) = List.replicate q (.v (.int .u32 0)) := by simp [ul]
    rw [hur] at k0
    have hp31 := pow31 (r := n % 32) (by omega)
    have t := c_trimO (out ++ [c]) (by simp; omega)
    have hlo : Lim (out ++ [c]) := k2.append (Lim.one (by omega))
    have hval : 4294967296 ^ q * P * val m = val l * 2 ^ n := by rw [hvl, pow_split n, hq, hP, Nat.mul_comm]
    rw [← limbs_val hlo, val_snoc, k3, ← k4, ul_snoc, hval] at t
    have w := u32_nat (k := c) (by omega)
    have hml0 : ¬ m.length = 0 := by simpa using hne
    have q1 : (n : Int) / 32 = (q : Nat) := by omega
    have w1 : IntKind.i64.wrap (q : Int) = q := by rw [wrap_i64] <;> omega
    obtain ⟨d, hd⟩ : ∃ d, q + m.length = d := ⟨_, rfl⟩
    have w2 : IntKind.i64.wrap ((q : Int) + m.length) = (d : Nat) := by rw [wrap_i64] <;> omega
    have w3 : IntKind.i64.wrap ((d : Int) + 1) = (d : Int) + 1 := by rw [wrap_i64] <;> omega
    rw [hd] at k3
    have e1 : d ≤ 35184372088831 := by omega
    have e2 : d ≤ 4611686018427387903 := by omega
    have e3 : (d + 1) * 4 ≤ 140737488355328 := by omega
    have e4 : ((d : Int) + 1) * 4 ≤ 281474976710656 := by omega
    have e5 : (d : Int) + 1 ≤ 4611686018427387904 := by omega
    have e6 : (0 : Int) ≤ (d : Int) + 1 := by omega
    have e7 : (q : Int) ≤ (d : Int) + 1 := by omega
    have e8 : q ≤ 4611686018427387904 := by omega
    have e9 : q ≤ d + 1 := by omega
    have e10 : d + 1 ≤ 4611686018427387904 := by omega
    simp [Run, home, h0, hne, hml0, q1, w1, w2, w3, k0, t, w, k3, e1, e2, e3, e4, e5, e6, e7, e8, e9, e10]
/-- What Up answers. -/
def upR (v : Nat) (n : Int) : PV := if n < 0 ∨ 1048576 < n then .tup [.own 1 [], .v (.int .i64 2)] else .tup [.own 1 (ul (limbs (v * 2 ^ n.toNat))), .v (.int .i64 0)]
theorem c_Up (l : List Nat) (h : Fit l) (n : Int) : Cinf T n_limbs_Up [.ro 1 (ul l), .v (.int .i64 n)] = some (upR (val l) n, [.dead, .dead]) := by
  rw [run_limbs_Up]
  unfold upR
  by_cases h1 : n < 0
  · simp [Run, h1]
  · by_cases h2 : 1048576 < n
    · simp [Run, h1, h2]
    · obtain ⟨k, rfl⟩ : ∃ k : Nat, n = k := ⟨n.toNat, by omega⟩
      have h3 := c_up l h k (by omega)
      have h4 : ¬ 1048576 < k := by omega
      simp [Run, h4, h3]
end Go.AM.F

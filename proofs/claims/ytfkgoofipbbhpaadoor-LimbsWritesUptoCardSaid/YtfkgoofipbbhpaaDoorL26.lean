/- The document's division, bit by bit. No conditions. -/
import Derived.Test.YtfkgoofipbbhpaaDoorL25
namespace Go.AM.F
open Go Go.AM
set_option maxRecDepth 10000
set_option linter.unusedSimpArgs false
attribute [local simp] j0_thicketref01_double j1_thicketref01_double w0_thicketref01_double j2_thicketref01_double j3_thicketref01_double b_thicketref01_double a_thicketref01_double
attribute [local simp] j0_thicketref01_DivMod j1_thicketref01_DivMod w0_thicketref01_DivMod j2_thicketref01_DivMod j3_thicketref01_DivMod j4_thicketref01_DivMod w1_thicketref01_DivMod j5_thicketref01_DivMod j6_thicketref01_DivMod j7_thicketref01_DivMod b_thicketref01_DivMod a_thicketref01_DivMod
theorem shl1_32 {x e : Nat} (h : 2 * x % 4294967296 = e) : binInt .shl .u32 x 1 = some (.int .u32 (e : Nat)) := by
  have h2 : IntKind.u32.wrap ((x : Int) * 2) = (e : Int) := by rw [show (x : Int) * 2 = ((2 * x : Nat) : Int) by omega, mod_u32, h]
  rw [binInt_shl, if_neg (by decide), show (2 : Int) ^ min (1 : Int).toNat IntKind.u32.bits = 2 from rfl, h2]
theorem or_even {x c : Nat} (hx : x % 2 = 0) (hc : c ≤ 1) : x ||| c = x + c := by
  obtain ⟨y, rfl⟩ : ∃ y, x = y * 2 ^ 1 := ⟨x / 2, by omega⟩
  rw [Nat.or_comm, or_low (by omega)]
  omega
theorem double_step {A o P c b x lo hi : Nat} (hv : o + P * c = 2 * A + b) (h : lo + 4294967296 * hi = 2 * x + c) : o + P * lo + P * 4294967296 * hi = 2 * (A + P * x) + b := by
  have e1 : P * lo + P * (4294967296 * hi) = P * (2 * x) + P * c := by rw [← Nat.mul_add, ← Nat.mul_add, h]
  rw [Nat.mul_assoc, Nat.mul_add 2, Nat.mul_left_comm 2 P]
  omega
theorem double_loop (l : List Nat) (h : Fit l) (b : Nat) : ∀ (n k c : Nat) (out : List Nat), l.length - k = n → k ≤ l.length → c ≤ 1 → Lim out → out.length = k → val out + 4294967296 ^ k * c = 2 * val (l.take k) + b →
    ∃ (out' : List Nat) (c' : Nat), Exec T l0_thicketref01_double [(0, .ro 1 (ul l)), (5, .own 1 (ul out)), (6, .v (.int .u32 c)), (10, .ro 1 (ul l)), (11, .v (.int .i64 l.length)), (12, .v (.int .i64 k)), (22, .dead)] = some (.exit 0, [(0, .ro 1 (ul l)), (5, .own 1 (ul out')), (6, .v (.int .u32 c')), (10, .ro 1 (ul l)), (11, .v (.int .i64 l.length)), (12, .v (.int .i64 l.length)), (22, .dead)]) ∧ c' ≤ 1 ∧ Lim out' ∧ out'.length = l.length ∧ val out' + 4294967296 ^ l.length * c' = 2 * val l + b := by
  intro n
  induction n with
  | zero =>
    intro k c out hn hk hc hl ho hv
    obtain rfl : k = l.length := by omega
    refine ⟨out, c, ?_, hc, hl, ho, by rwa [List.take_of_length_le (Nat.le_refl _)] at hv⟩
    rw [ex0_thicketref01_double]
    simp
  | succ n ih =>
    intro k c out hn hk hc hl ho hv
    have hal := h.2
    have hlt : k < l.length := by omega
    have hw := wrap_succ hlt (by omega)
    obtain ⟨x, hx⟩ : ∃ x, l[k] = x := ⟨_, rfl⟩
    have hxl := h.1.get hlt
    rw [hx] at hxl
    obtain ⟨e, he⟩ : ∃ e, 2 * x % 4294967296 = e := ⟨_, rfl⟩
    have h1 := shl1_32 he
    have hor := or_even (x := e) (c := c) (by omega) hc
    obtain ⟨lo, hlo⟩ : ∃ lo, e + c = lo := ⟨_, rfl⟩
    rw [hlo] at hor
    have h2 := or32 (by omega) (by omega) hor (by omega)
    obtain ⟨hi, hhi⟩ : ∃ hi, x / 2147483648 = hi := ⟨_, rfl⟩
    have h3 := shr31_32 x
    rw [hhi] at h3
    have hst := double_step hv (x := x) (lo := lo) (hi := hi) (by omega)
    rw [← val_take_succ' hlt hx, ← Nat.pow_succ] at hst
    obtain ⟨out', c', h0, k1⟩ := ih (k + 1) hi (out ++ [lo]) (by omega) (by omega) (by omega) (hl.append (Lim.one (by omega))) (by simp [ho]) (by rw [val_snoc, ho]; exact hst)
    refine ⟨out', c', ?_, k1⟩
    have e1 : k ≤ 35184372088831 := by omega
    have e2 : k ≤ 4611686018427387903 := by omega
    have e3 : (k + 1) * 4 ≤ 140737488355328 := by omega
    rw [succ_cast, ul_snoc] at h0
    rw [← h0, ex0_thicketref01_double]
    simp [-binInt_shl, -binInt_or, -binInt_shr, hlt, hx, hw, h1, h2, h3, ho, e1, e2, e3]
theorem c_double (l : List Nat) (h : Fit l) (hl : l.length + 1 ≤ 1099511627776) (b : Bool) : Cinf T n_thicketref01_double [.ro 1 (ul l), .v (.bool b)] = some (.own 1 (ul (limbs (2 * val l + b.toNat))), [.dead, .dead]) := by
  obtain ⟨out, c, k0, k1, k2, k3, k4⟩ := double_loop l h b.toNat l.length 0 b.toNat [] rfl (Nat.zero_le _) (Bool.toNat_le b) Lim.nil rfl (by simp [val])
  have t := c_rNorm (out ++ [c]) ⟨k2.append (Lim.one (by omega)), by simp; omega⟩
  rw [val_snoc, k3, k4, ul_snoc] at t
  have e1 : l.length ≤ 35184372088831 := by omega
  have e2 : l.length ≤ 4611686018427387903 := by omega
  have e3 : (l.length + 1) * 4 ≤ 140737488355328 := by omega
  simp only [Int.natCast_zero, ul_nil] at k0
  rw [run_thicketref01_double]
  cases b
  · simp at k0 t
    simp [Run, k0, k3, e1, e2, e3, t]
  · simp at k0 t
    simp [Run, k0, k3, e1, e2, e3, t]
theorem rone_loop (a : List Nat) (ha : Fit a) (y : Nat) (hy : y < 4294967296) (hy0 : y ≠ 0) : ∀ (k : Nat) (q : List Nat) (r : Nat), k ≤ a.length → q.length = a.length → Lim q → r < y → val (a.drop k) = y * val (q.drop k) + r →
    ∃ (q' : List Nat) (r' : Nat), Exec T l0_thicketref01_DivMod [(7, .own 1 (ul a)), (8, .own 1 (ul [y])), (9, .own 1 (ul q)), (10, .v (.int .u64 r)), (11, .v (.int .i64 ((k : Int) - 1))), (15, .dead), (17, .dead), (23, .dead)] = some (.exit 0, [(7, .own 1 (ul a)), (8, .own 1 (ul [y])), (9, .own 1 (ul q')), (10, .v (.int .u64 r')), (11, .v (.int .i64 (-1))), (15, .dead), (17, .dead), (23, .dead)]) ∧ Lim q' ∧ q'.length = a.length ∧ r' < y ∧ val a = y * val q' + r' := by
  intro k
  induction k with
  | zero =>
    intro q r hk hq hl hr hv
    refine ⟨q, r, ?_, hl, hq, hr, by simpa using hv⟩
    rw [ex0_thicketref01_DivMod]
    simp
  | succ k ih =>
    intro q r hk hq hl hr hv
    have hal := ha.2
    have hka : k < a.length := by omega
    have hkq : k < q.length := by omega
    obtain ⟨x, hx⟩ : ∃ x, a[k] = x := ⟨_, rfl⟩
    have hxl := ha.1.get hka
    rw [hx] at hxl
    obtain ⟨s, hs⟩ : ∃ s, x + r * 4294967296 = s := ⟨_, rfl⟩
    have hsh := shl32_64 r (by omega)
    have hor := or64 (x := r * 4294967296) (y := x) (e := s) (by omega) (by omega) (by rw [Nat.or_comm, or_high hxl, hs])
    obtain ⟨f, hf⟩ : ∃ f, r * 4294967296 = f := ⟨_, rfl⟩
    have hq2 : s / y < 4294967296 := by
      rw [Nat.div_lt_iff_lt_mul (by omega)]
      have : (r + 1) * 4294967296 ≤ y * 4294967296 := Nat.mul_le_mul_right _ hr
      omega
    have hr2 : s % y < y := Nat.mod_lt _ (by omega)
    have hdm := Nat.div_add_mod s y
    have q1 : (s : Int).tdiv y = ((s / y : Nat) : Int) := rfl
    have q2 : (s : Int).tmod y = ((s % y : Nat) : Int) := rfl
    obtain ⟨d, hd⟩ : ∃ d, s / y = d := ⟨_, rfl⟩
    obtain ⟨r2, hr2e⟩ : ∃ d, s % y = d := ⟨_, rfl⟩
    rw [hd] at hq2 hdm q1
    rw [hr2e] at hr2 hdm q2
    have w1 := u64_nat (k := x) (by omega)
    have w2 := u64_nat (k := y) (by omega)
    have w3 := u64_nat (k := d) (by omega)
    have w4 := u32_nat (k := d) hq2
    have w5 : IntKind.i64.wrap ((k : Int) - 1) = (k : Int) - 1 := by rw [wrap_i64] <;> omega
    have hv2 : val (a.drop k) = y * val ((q.set k d).drop k) + r2 := by
      rw [set_drop hkq, val_drop_cons hka, hx, hv, val, Nat.mul_add, Nat.mul_add, Nat.mul_left_comm y 4294967296]
      omega
    obtain ⟨q', r', h0, h1⟩ := ih (q.set k d) r2 (by omega) (by simpa using hq) (hl.set hq2) hr2 hv2
    refine ⟨q', r', ?_, h1⟩
    rw [hf] at hsh hor
    have e1 : ¬ y = 0 := hy0
    rw [show ((k + 1 : Nat) : Int) - 1 = (k : Int) by omega, ← h0, ex0_thicketref01_DivMod]
    simp [-binInt_shl, -binInt_or, hka, hkq, hx, hsh, hor, q1, q2, w1, w2, w3, w4, w5, e1, ul_set]
/-- A bit's word, and what it is worth. -/
theorem bit_word {q : List Nat} (hq : Lim q) {k Q : Nat} (hk : k / 32 < q.length) (hv : val q = 2 ^ (k + 1) * Q) {w : Nat} (hw : q[k / 32] = w) : w ||| 2 ^ (k % 32) = w + 2 ^ (k % 32) ∧ w + 2 ^ (k % 32) < 4294967296 := by
  have h1 := val_drop hq (k / 32)
  rw [val_drop_cons hk, hw, hv] at h1
  have h2 : 2 ^ (k + 1) * Q = 4294967296 ^ (k / 32) * (2 ^ (k % 32 + 1) * Q) := by
    rw [Nat.pow_succ, pow_split k, Nat.pow_succ]
    simp only [Nat.mul_assoc]
  rw [h2, Nat.mul_div_cancel_left _ (Nat.pow_pos (by decide))] at h1
  have hwl : w < 4294967296 := by rw [← hw]; exact hq.get _
  have hr : k % 32 < 32 := Nat.mod_lt _ (by decide)
  have hP := pow_half hr
  obtain ⟨c, hc⟩ : ∃ c, 2 ^ (32 - (k % 32 + 1)) = c := ⟨_, rfl⟩
  have hP2 : 2 ^ (k % 32 + 1) * c = 4294967296 := by rw [← hc, ← Nat.pow_add, show k % 32 + 1 + (32 - (k % 32 + 1)) = 32 by omega]
  obtain ⟨x, hx⟩ : ∃ x, w = x * 2 ^ (k % 32 + 1) := by
    have h3 : 2 ^ (k % 32 + 1) ∣ w + 4294967296 * val (q.drop (k / 32 + 1)) := ⟨_, h1⟩
    have h4 : 2 ^ (k % 32 + 1) ∣ 4294967296 * val (q.drop (k / 32 + 1)) := by rw [← hP2, Nat.mul_assoc]; exact Nat.dvd_mul_right _ _
    obtain ⟨x, hx⟩ := (Nat.dvd_add_iff_left h4).2 h3
    exact ⟨x, by rw [hx, Nat.mul_comm]⟩
  have hlow := or_low (c := 2 ^ (k % 32)) (x := x) (r := k % 32 + 1) (by rw [Nat.pow_succ]; have := Nat.two_pow_pos (k % 32); omega)
  refine ⟨by rw [Nat.or_comm, hx, hlow, Nat.add_comm], ?_⟩
  rw [hx] at hwl ⊢
  have h5 : x * 2 ^ (k % 32 + 1) < c * 2 ^ (k % 32 + 1) := by rw [Nat.mul_comm c, hP2]; exact hwl
  have h6 := Nat.lt_of_mul_lt_mul_right h5
  have h7 : (x + 1) * 2 ^ (k % 32 + 1) ≤ c * 2 ^ (k % 32 + 1) := Nat.mul_le_mul_right _ h6
  rw [Nat.mul_comm c, hP2, Nat.add_mul, Nat.one_mul] at h7
  have h8 : 2 ^ (k % 32) < 2 ^ (k % 32 + 1) := by rw [Nat.pow_succ]; have := Nat.two_pow_pos (k % 32); omega
  omega
end Go.AM.F

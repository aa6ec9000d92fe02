/- Sums of naturals. No conditions. -/
import Derived.Test.YtlokekpiajholaaDoorL5
namespace Go.AM.F
open Go Go.AM
set_option maxRecDepth 10000
set_option linter.unusedSimpArgs false
attribute [local simp] j0_limbs_Add j1_limbs_Add j2_limbs_Add w0_limbs_Add j3_limbs_Add j4_limbs_Add b_limbs_Add a_limbs_Add
/-- A limb, 0 where there is none. -/
def at0 (l : List Nat) (k : Nat) : Nat := l[k]?.getD 0
theorem at0_lt {l : List Nat} (h : Lim l) (k : Nat) : at0 l k < 4294967296 := by
  unfold at0
  cases hk : l[k]? with
  | none => simp
  | some x => exact h x (List.mem_of_getElem? hk)
theorem at0_in {l : List Nat} {k : Nat} (h : k < l.length) : at0 l k = l[k] := by simp [at0, h]
theorem at0_out {l : List Nat} {k : Nat} (h : ¬ k < l.length) : at0 l k = 0 := by simp [at0, h]
theorem val_take_succ (l : List Nat) (k : Nat) : val (l.take (k + 1)) = val (l.take k) + 4294967296 ^ k * at0 l k := by
  by_cases h : k < l.length
  · have h2 : (l.take k).length = k := by simp; omega
    rw [List.take_succ_eq_append_getElem h, val_append, h2, at0_in h]
    simp [val]
  · rw [List.take_of_length_le (by omega), List.take_of_length_le (by omega), at0_out h]
    simp
theorem val_snoc (l : List Nat) (x : Nat) : val (l ++ [x]) = val l + 4294967296 ^ l.length * x := by
  rw [val_append]
  simp [val]
theorem carry_step {A C o k s : Nat} (h : A = o + 4294967296 ^ k * C) : A + 4294967296 ^ k * s = (o + 4294967296 ^ k * ((C + s) % 4294967296)) + 4294967296 ^ (k + 1) * ((C + s) / 4294967296) := by
  have h1 : 4294967296 ^ k * (C + s) = 4294967296 ^ k * ((C + s) % 4294967296) + 4294967296 ^ k * (4294967296 * ((C + s) / 4294967296)) := by
    rw [← Nat.mul_add, Nat.mod_add_div]
  rw [Nat.mul_add] at h1
  rw [Nat.pow_succ, Nat.mul_assoc, h]
  omega
theorem add_loop (a b : List Nat) (ha : Fit a) (hb : Fit b) (hab : b.length ≤ a.length) (x13 x14 : PV) (m13 : ∀ s t, PV.ment s t x13 = false) (m14 : ∀ s t, PV.ment s t x14 = false) : ∀ (n k c : Nat) (out : List Nat), a.length - k = n → k ≤ a.length → c ≤ 1 → Lim out → out.length = k → val (a.take k) + val (b.take k) = val out + 4294967296 ^ k * c →
    ∃ (out' : List Nat) (c' : Nat), Exec T l0_limbs_Add [(0, .ro 1 (ul a)), (1, .ro 1 (ul b)), (5, .own 1 (ul out)), (6, .v (.int .u64 c)), (13, x13), (14, x14), (18, .dead), (20, .v (.int .i64 a.length)), (21, .v (.int .i64 k)), (46, .dead)] =
      some (.exit 0, [(0, .ro 1 (ul a)), (1, .ro 1 (ul b)), (5, .own 1 (ul out')), (6, .v (.int .u64 c')), (13, x13), (14, x14), (18, .dead), (20, .v (.int .i64 a.length)), (21, .v (.int .i64 a.length)), (46, .dead)]) ∧ c' ≤ 1 ∧ Lim out' ∧ out'.length = a.length ∧ val a + val b = val out' + 4294967296 ^ a.length * c' := by
  intro n
  induction n with
  | zero =>
    intro k c out hn hk hc hl ho hv
    obtain rfl : k = a.length := by omega
    refine ⟨out, c, ?_, hc, hl, ho, ?_⟩
    · rw [ex0_limbs_Add]
      simp
    · rwa [List.take_of_length_le (Nat.le_refl _), List.take_of_length_le hab] at hv
  | succ n ih =>
    intro k c out hn hk hc hl ho hv
    have hlt : k < a.length := by omega
    have hw := wrap_succ hlt (by have := ha.2; omega)
    have hxl := ha.1.get hlt
    obtain ⟨x, hx⟩ : ∃ x, a[k] = x := ⟨_, rfl⟩
    rw [hx] at hxl
    have hyl := at0_lt hb.1 k
    obtain ⟨y, hy⟩ : ∃ y, at0 b k = y := ⟨_, rfl⟩
    rw [hy] at hyl
    obtain ⟨t, ht⟩ : ∃ t, t = c + x := ⟨_, rfl⟩
    obtain ⟨s, hs⟩ : ∃ s, s = t + y := ⟨_, rfl⟩
    have w0 := u64_nat (k := x) (by omega)
    have w1 : IntKind.u64.wrap ((c : Int) + x) = (t : Int) := by rw [wrap_u64] <;> omega
    have h1 := c_low s (by omega)
    have h2 := c_high s
    obtain ⟨lo, hlo⟩ : ∃ lo, lo = s % 4294967296 := ⟨_, rfl⟩
    obtain ⟨hi, hhi⟩ : ∃ hi, hi = s / 4294967296 := ⟨_, rfl⟩
    rw [← hlo] at h1
    rw [← hhi] at h2
    have hv2 : val (a.take (k + 1)) + val (b.take (k + 1)) = val (out ++ [lo]) + 4294967296 ^ (k + 1) * hi := by
      rw [val_take_succ, val_take_succ, val_snoc, ho, at0_in hlt, hx, hy, hlo, hhi]
      have := carry_step (s := x + y) hv
      rw [show c + (x + y) = s by omega] at this
      rw [← this, Nat.mul_add]
      omega
    obtain ⟨out', c', h0, h3, h4, h5, h6⟩ := ih (k + 1) hi (out ++ [lo]) (by omega) (by omega) (by omega) (hl.append (Lim.one (by omega))) (by simp [ho]) hv2
    refine ⟨out', c', ?_, h3, h4, h5, h6⟩
    rw [succ_cast, ul_snoc] at h0
    rw [← h0]
    have hal := ha.2
    have e1 : k ≤ 35184372088831 := by omega
    have e2 : k ≤ 4611686018427387903 := by omega
    have e3 : (k + 1) * 4 ≤ 140737488355328 := by omega
    rw [ex0_limbs_Add]
    by_cases hkb : k < b.length
    · have hyb : b[k] = y := by rw [← hy, at0_in hkb]
      have w2 := u64_nat (k := y) (by omega)
      have w3 : IntKind.u64.wrap ((t : Int) + y) = (s : Int) := by rw [wrap_u64] <;> omega
      simp [hlt, hx, hw, w0, w1, hkb, hyb, w2, w3, h1, h2, ho, e1, e2, e3, m13, m14]
    · have : y = 0 := by rw [← hy, at0_out hkb]
      have hst : s = t := by omega
      rw [hst] at h1 h2
      simp [hlt, hx, hw, w0, w1, hkb, h1, h2, ho, e1, e2, e3, m13, m14]
theorem c_Add0 (a b : List Nat) (ha : Fit a) (hb : Fit b) (hab : b.length ≤ a.length) (x13 x14 : PV) (m13 : ∀ s t, PV.ment s t x13 = false) (m14 : ∀ s t, PV.ment s t x14 = false) :
    Exec T k4_limbs_Add [(0, .ro 1 (ul a)), (1, .ro 1 (ul b)), (13, x13), (14, x14)] = some (.ret, [(4, .own 1 (ul (limbs (val a + val b)))), (55, .dead)]) := by
  obtain ⟨out, c, h0, h1, h2, h3, h4⟩ := add_loop a b ha hb hab x13 x14 m13 m14 a.length 0 0 [] rfl (Nat.zero_le _) (by omega) Lim.nil rfl (by simp [val])
  simp only [ul_nil, Int.natCast_zero] at h0
  have hal := ha.2
  have t := c_trimO (out ++ [c]) (by simp; omega)
  have hl : Lim (out ++ [c]) := h2.append (Lim.one (by omega))
  rw [← limbs_val hl, val_snoc, h3, ← h4, ul_snoc] at t
  have w := u32_nat (k := c) (by omega)
  have e1 : a.length ≤ 35184372088831 := by omega
  have e2 : a.length ≤ 4611686018427387903 := by omega
  have e3 : (a.length + 1) * 4 ≤ 140737488355328 := by omega
  have hw : IntKind.i64.wrap ((a.length : Int) + 1) = (a.length : Int) + 1 := by rw [wrap_i64] <;> omega
  have e4 : ((a.length : Int) + 1) * 4 ≤ 281474976710656 := by omega
  have e5 : (a.length : Int) + 1 ≤ 4611686018427387904 := by omega
  have e6 : (0 : Int) ≤ (a.length : Int) + 1 := by omega
  have e7 : a.length ≤ 4611686018427387903 := by omega
  simp [home, h0, t, w, e1, e2, e3, hw, e4, e5, e6, e7, h3, m13, m14]
theorem c_Add (a b : List Nat) (ha : Fit a) (hb : Fit b) : Cinf T n_limbs_Add [.ro 1 (ul a), .ro 1 (ul b)] = some (.own 1 (ul (limbs (val a + val b))), [.dead, .dead]) := by
  rw [run_limbs_Add]
  by_cases h : a.length < b.length
  · have h0 := c_Add0 b a hb ha (by omega) (.ro 1 (ul b)) (.ro 1 (ul a)) (fun _ _ => rfl) (fun _ _ => rfl)
    rw [Nat.add_comm] at h0
    simp [-tl4_limbs_Add, Run, h, h0]
  · have h0 := c_Add0 a b ha hb (by omega) .dead .dead (fun _ _ => rfl) (fun _ _ => rfl)
    simp [-tl4_limbs_Add, Run, h, h0]
end Go.AM.F

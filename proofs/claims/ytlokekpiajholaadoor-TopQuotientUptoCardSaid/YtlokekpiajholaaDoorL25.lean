/- Quotients and remainders. No conditions. -/
import Derived.Test.YtlokekpiajholaaDoorL19
import Derived.Test.YtlokekpiajholaaDoorL24
namespace Go.AM.F
open Go Go.AM
set_option maxRecDepth 10000
set_option linter.unusedSimpArgs false
attribute [local simp] b_bits_LeadingZeros32 a_bits_LeadingZeros32
attribute [local simp] j0_limbs_DivMod j1_limbs_DivMod w0_limbs_DivMod j2_limbs_DivMod j3_limbs_DivMod w1_limbs_DivMod j4_limbs_DivMod j5_limbs_DivMod j6_limbs_DivMod j7_limbs_DivMod b_limbs_DivMod a_limbs_DivMod
theorem c_LeadingZeros32 (x : Nat) (hx : x < 4294967296) : Cinf T n_bits_LeadingZeros32 [.v (.int .u32 x)] = some (.v (.int .i64 (32 - nbits x : Nat)), [.dead]) := by
  have h := c_Len32 x hx
  have h2 : nbits x ≤ 32 := nbits_le (by omega)
  have w : IntKind.i64.wrap (32 - (nbits x : Int)) = ((32 - nbits x : Nat) : Int) := by rw [wrap_i64] <;> omega
  rw [run_bits_LeadingZeros32]
  simp [Run, h, w]
/-- What DivMod answers. -/
def divR (m n : Nat) : PV := if n = 0 then .tup [.own 1 [], .own 1 [], .v (.int .i64 11)] else .tup [.own 1 (ul (limbs (m / n))), .own 1 (ul (limbs (m % n))), .v (.int .i64 0)]
theorem divR_zero (m : Nat) : divR m 0 = .tup [.own 1 [], .own 1 [], .v (.int .i64 11)] := rfl
theorem divR_pos {m n : Nat} (h : n ≠ 0) : divR m n = .tup [.own 1 (ul (limbs (m / n))), .own 1 (ul (limbs (m % n))), .v (.int .i64 0)] := if_neg h
theorem set_drop {l : List Nat} {k x : Nat} (h : k < l.length) : (l.set k x).drop k = x :: l.drop (k + 1) := by
  rw [List.drop_eq_getElem_cons (by simpa using h), List.getElem_set_self, drop_set_succ]
/-- Division by one limb. -/
theorem one_loop (a : List Nat) (ha : Fit a) (y : Nat) (hy : y < 4294967296) (hy0 : y ≠ 0) : ∀ (k : Nat) (q : List Nat) (r : Nat), k ≤ a.length → q.length = a.length → Lim q → r < y → val (a.drop k) = y * val (q.drop k) + r →
    ∃ (q' : List Nat) (r' : Nat), Exec T l0_limbs_DivMod [(0, .ro 1 (ul a)), (1, .ro 1 (ul [y])), (7, .own 1 (ul q)), (8, .v (.int .u64 r)), (9, .v (.int .i64 ((k : Int) - 1))), (15, .ro 1 (ul a)), (17, .ro 1 (ul [y])), (32, .dead)] = some (.exit 0, [(0, .ro 1 (ul a)), (1, .ro 1 (ul [y])), (7, .own 1 (ul q')), (8, .v (.int .u64 r')), (9, .v (.int .i64 (-1))), (15, .ro 1 (ul a)), (17, .ro 1 (ul [y])), (32, .dead)]) ∧ Lim q' ∧ q'.length = a.length ∧ r' < y ∧ val a = y * val q' + r' := by
  intro k
  induction k with
  | zero =>
    intro q r hk hq hl hr hv
    refine ⟨q, r, ?_, hl, hq, hr, by simpa using hv⟩
    rw [ex0_limbs_DivMod]
    simp
  | succ k ih =>
    intro q r hk hq hl hr hv
    have hal := ha.2
    have hka : k < a.length := by omega
    have hkq : k < q.length := by omega
    obtain ⟨x, hx⟩ : ∃ x, a[k] = x := ⟨_, rfl⟩
    have hxl := ha.1.get hka
    rw [hx] at hxl
    obtain ⟨s, hs⟩ : ∃ s, x + r * 4294967296 = s := ⟨_, rfl⟩
    have hsh := shl32_64 r (by omega)
    have hor := or64 (x := r * 4294967296) (y := x) (e := s) (by omega) (by omega) (by rw [Nat.or_comm, or_high hxl, hs])
    obtain ⟨f, hf⟩ : ∃ f, r * 4294967296 = f := ⟨_, rfl⟩
    have hq2 : s / y < 4294967296 := by
      rw [Nat.div_lt_iff_lt_mul (by omega)]
      have : (r + 1) * 4294967296 ≤ y * 4294967296 := Nat.mul_le_mul_right _ hr
      omega
    have hr2 : s % y < y := Nat.mod_lt _ (by omega)
    have hdm := Nat.div_add_mod s y
    have q1 : (s : Int).tdiv y = ((s / y : Nat) : Int) := rfl
    have q2 : (s : Int).tmod y = ((s % y : Nat) : Int) := rfl
    obtain ⟨d, hd⟩ : ∃ d, s / y = d := ⟨_, rfl⟩
    obtain ⟨r2, hr2e⟩ : ∃ d, s % y = d := ⟨_, rfl⟩
    rw [hd] at hq2 hdm q1
    rw [hr2e] at hr2 hdm q2
    have w1 := u64_nat (k := x) (by omega)
    have w2 := u64_nat (k := y) (by omega)
    have w3 := u64_nat (k := d) (by omega)
    have w4 := u32_nat (k := d) hq2
    have w5 : IntKind.i64.wrap ((k : Int) - 1) = (k : Int) - 1 := by rw [wrap_i64] <;> omega
    have hv2 : val (a.drop k) = y * val ((q.set k d).drop k) + r2 := by
      rw [set_drop hkq, val_drop_cons hka, hx, hv, val, Nat.mul_add, Nat.mul_add, Nat.mul_left_comm y 4294967296]
      omega
    obtain ⟨q', r', h0, h1⟩ := ih (q.set k d) r2 (by omega) (by simpa using hq) (hl.set hq2) hr2 hv2
    refine ⟨q', r', ?_, h1⟩
    rw [hf] at hsh hor
    have e1 : ¬ y = 0 := hy0
    rw [show ((k + 1 : Nat) : Int) - 1 = (k : Int) by omega, ← h0, ex0_limbs_DivMod]
    simp [-binInt_shl, -binInt_or, hka, hkq, hx, hsh, hor, q1, q2, w1, w2, w3, w4, w5, e1, ul_set]
/-- Limbs are put on. -/
theorem pad_loop (a v : List Nat) (ha : a.length ≤ 1099511627776) (s : Nat) : ∀ (n : Nat) (u : List Nat), a.length + 1 - u.length = n → u.length ≤ a.length + 1 →
    Exec T l1_limbs_DivMod [(0, .ro 1 (ul a)), (10, .v (.int .i64 s)), (11, .own 1 (ul u)), (12, .own 1 (ul v)), (15, .ro 1 (ul a)), (77, .dead), (80, .dead), (88, .dead)] = some (.exit 2, [(0, .ro 1 (ul a)), (10, .v (.int .i64 s)), (11, .own 1 (ul (u ++ List.replicate n 0))), (12, .own 1 (ul v)), (15, .ro 1 (ul a)), (77, .dead), (80, .dead), (88, .dead)]) := by
  intro n
  induction n with
  | zero =>
    intro u hn hu
    have e1 : ¬ u.length ≤ a.length := by omega
    rw [ex1_limbs_DivMod]
    simp [e1]
  | succ n ih =>
    intro u hn hu
    have h0 := ih (u ++ [0]) (by simp; omega) (by simp; omega)
    rw [List.append_assoc, List.singleton_append, ← List.replicate_succ] at h0
    have e1 : u.length ≤ a.length := by omega
    have e2 : (u.length + 1) * 4 ≤ 140737488355328 := by omega
    have e3 : u.length ≤ 35184372088831 := by omega
    have e4 : u.length ≤ 4611686018427387903 := by omega
    rw [ul_snoc] at h0
    simp only [Int.natCast_zero] at h0
    rw [ex1_limbs_DivMod]
    simp [e1, e2, e3, e4, h0]
theorem val_pad (u : List Nat) (n : Nat) : val (u ++ List.replicate n 0) = val u := by rw [val_append, val_zeros]; omega
/-- A number that has just so many limbs. -/
theorem limbs_just {v n : Nat} (h1 : 4294967296 ^ n ≤ v) (h2 : v < 4294967296 ^ (n + 1)) : ∃ h : n < (limbs v).length, (limbs v).length = n + 1 ∧ (limbs v)[n] = v / 4294967296 ^ n := by
  have l1 := limbs_len_le h2
  have l2 : n < (limbs v).length := by
    refine Nat.lt_of_not_le fun h => ?_
    have := val_lt (limbs_lim v)
    rw [val_limbs] at this
    have : 4294967296 ^ (limbs v).length ≤ 4294967296 ^ n := Nat.pow_le_pow_right (by decide) h
    omega
  refine ⟨l2, by omega, ?_⟩
  have h3 := val_drop (limbs_lim v) n
  rw [val_drop_cons l2, List.drop_eq_nil_of_le (i := n + 1) (by omega), val_limbs] at h3
  simpa [val] using h3
/-- The part that divides limb by limb, run. -/
theorem p6_DivMod (a b u0 v u u' q' Q R0 R : List Nat) (s m1 y : Nat) (w1 : IntKind.i64.wrap ((b.length : Int) - 1) = (m1 : Int)) (hn : m1 < b.length) (hny : b[m1] = y) (hlz : Cinf T n_bits_LeadingZeros32 [.v (.int .u32 y)] = some (.v (.int .i64 s), [.dead]))
    (hup1 : Cinf T n_limbs_up [.ro 1 (ul a), .v (.int .i64 s)] = some (.own 1 (ul u0), [.dead, .dead])) (hup2 : Cinf T n_limbs_up [.ro 1 (ul b), .v (.int .i64 s)] = some (.own 1 (ul v), [.dead, .dead]))
    (hpad : Exec T l1_limbs_DivMod [(0, .ro 1 (ul a)), (10, .v (.int .i64 s)), (11, .own 1 (ul u0)), (12, .own 1 (ul v)), (15, .ro 1 (ul a)), (77, .dead), (80, .dead), (88, .dead)] = some (.exit 2, [(0, .ro 1 (ul a)), (10, .v (.int .i64 s)), (11, .own 1 (ul u)), (12, .own 1 (ul v)), (15, .ro 1 (ul a)), (77, .dead), (80, .dead), (88, .dead)]))
    (k0 : Cinf T n_limbs_long [.own 1 (ul u), .ro 1 (ul v)] = some (.own 1 (ul q'), [.own 1 (ul u'), .dead])) (t3 : Cinf T n_limbs_trim [.own 1 (ul q')] = some (.own 1 (ul Q), [.dead])) (t4 : Cinf T n_limbs_trim [.own 1 ((ul u').take v.length)] = some (.own 1 (ul R0), [.dead]))
    (t5 : Cinf T n_limbs_down [.ro 1 (ul R0), .v (.int .i64 s)] = some (.own 1 (ul R), [.dead, .dead])) (hvul : v.length ≤ u'.length) :
    Exec T k5_limbs_DivMod [(0, .ro 1 (ul a)), (1, .ro 1 (ul b)), (15, .ro 1 (ul a)), (17, .ro 1 (ul b))] = some (.ret, [(4, .own 1 (ul Q)), (5, .own 1 (ul R)), (6, .v (.int .i64 0)), (26, .dead), (65, .dead), (67, .dead), (93, .dead), (100, .dead)]) := by
  simp [w1, hn, hny, hlz, hup1, hup2, hpad, k0, t3, t4, t5, hvul]
theorem c_DivMod (a b : List Nat) (ha : Fit a) (hb : Fit b) : Cinf T n_limbs_DivMod [.ro 1 (ul a), .ro 1 (ul b)] = some (divR (val a) (val b), [.dead, .dead]) := by
  have t1 := c_trim a ha.2
  have t2 := c_trim b hb.2
  rw [← limbs_val ha.1] at t1
  rw [← limbs_val hb.1] at t2
  obtain ⟨A, hA⟩ : ∃ A, val a = A := ⟨_, rfl⟩
  obtain ⟨B, hB⟩ : ∃ B, val b = B := ⟨_, rfl⟩
  have fa := ha.limbs
  have fb := hb.limbs
  rw [hA] at t1 fa ⊢
  rw [hB] at t2 fb ⊢
  have hcmp := c_Cmp (limbs A) (limbs B) fa fb
  rw [val_limbs, val_limbs] at hcmp
  rw [run_limbs_DivMod]
  by_cases hb0 : B = 0
  · subst hb0
    rw [limbs_zero] at t2
    simp at t2
    simp [Run, t1, t2, divR]
  rw [divR_pos hb0]
  obtain ⟨n, y, hn, hnl, hny, hyl, hy0, _⟩ := limbs_top hb0
  have hnB : ¬ limbs B = [] := by intro h; rw [h] at hnl; simp at hnl
  by_cases hlt : A < B
  · rw [cmp_lt hlt] at hcmp
    have hnorm := c_Norm (limbs A) fa
    rw [val_limbs] at hnorm
    rw [Nat.div_eq_of_lt hlt, Nat.mod_eq_of_lt hlt, limbs_zero]
    simp [Run, t1, t2, hcmp, hnB, hnorm]
  have hcn : ¬ cmpN A B < 0 := by
    unfold cmpN
    rw [if_neg hlt]
    split <;> decide
  have fal := fa.2
  have fbl := fb.2
  by_cases h1 : n = 0
  · subst h1
    have hBy : limbs B = [y] := by
      match hL : limbs B, hnl with
      | [z], _ => simp only [hL, List.getElem_cons_zero] at hny; rw [hny]
    have hBv : B = y := by
      have := val_limbs B
      rw [hBy] at this
      simpa [val] using this.symm
    subst hBv
    have hzl : Lim (List.replicate (limbs A).length 0) := fun y hy => by rw [(List.mem_replicate.1 hy).2]; omega
    obtain ⟨q', r', k0, k1, k2, k3, k4⟩ := one_loop (limbs A) fa B hyl hy0 (limbs A).length (List.replicate (limbs A).length 0) 0 (Nat.le_refl _) (by simp) hzl (by omega) (by simp [val])
    rw [val_limbs] at k4
    have hd : A / B = val q' := by rw [k4, Nat.mul_add_div (by omega), Nat.div_eq_of_lt k3, Nat.add_zero]
    have hm : A % B = r' := by rw [k4, Nat.mul_add_mod, Nat.mod_eq_of_lt k3]
    have t3 := c_trimO q' (by omega)
    rw [← limbs_val k1] at t3
    have t4 := c_From r' (by omega)
    have hur : ul (List.replicate (limbs A).length 0) = List.replicate (limbs A).length (.v (.int .u32 0)) := by simp [ul]
    rw [hur] at k0
    simp only [Int.natCast_zero] at k0
    rw [hd, hm]
    rw [hBy] at t2 hcmp
    generalize limbs A = l at *
    have w : IntKind.i64.wrap ((l.length : Int) - 1) = (l.length : Int) - 1 := by rw [wrap_i64] <;> omega
    have e1 : (l.length : Int) * 4 ≤ 281474976710656 := by omega
    have e2 : l.length ≤ 4611686018427387904 := by omega
    have n1 : ¬ (cmpN A B < 0) := hcn
    simp at k0 t2 hcmp
    simp [Run, t1, t2, hcmp, n1, e1, e2, w, k0, t3, t4]
  · obtain ⟨m, rfl⟩ : ∃ m, n = m + 1 := ⟨n - 1, by omega⟩
    obtain ⟨s, hs⟩ : ∃ s, 32 - nbits y = s := ⟨_, rfl⟩
    have hlz := c_LeadingZeros32 y hyl
    rw [hs] at hlz
    have hnb := nbits_le (k := 32) (n := y) (by omega)
    have hnb0 : nbits y ≠ 0 := by rw [nbits_pos hy0]; omega
    have hs31 : s ≤ 31 := by omega
    have hylo := nbits_low hy0
    have hyhi := lt_nbits y
    have p1 : 2 ^ (nbits y - 1) * 2 ^ s = 2147483648 := by rw [← Nat.pow_add, show nbits y - 1 + s = 31 by omega]
    have p2 : 2 ^ nbits y * 2 ^ s = 4294967296 := by rw [← Nat.pow_add, show nbits y + s = 32 by omega]
    have p3 : 2 ^ s ≤ 2147483648 := Nat.le_trans (Nat.pow_le_pow_right (by decide) hs31) (by decide)
    have hup1 := c_up (limbs A) fa s (by omega)
    have hup2 := c_up (limbs B) fb s (by omega)
    rw [val_limbs] at hup1 hup2
    obtain ⟨S, hS⟩ : ∃ S, 2 ^ s = S := ⟨_, rfl⟩
    rw [hS] at p1 p2 p3 hup1 hup2
    have hSp : 0 < S := by rw [← hS]; exact Nat.two_pow_pos s
    -- the divisor
    have hBlo : y * 4294967296 ^ (m + 1) ≤ B := by
      have h := val_cut (l := limbs B) (k := m + 1) (by omega)
      rw [val_limbs, val_drop_cons hn, List.drop_eq_nil_of_le (i := m + 1 + 1) (by omega), hny] at h
      simp only [val, Nat.mul_zero, Nat.add_zero] at h
      rw [Nat.mul_comm]
      exact Nat.le_trans (Nat.le_add_left _ _) (Nat.le_of_eq h.symm)
    have hBhi : B < (y + 1) * 4294967296 ^ (m + 1) := by
      have h := val_cut (l := limbs B) (k := m + 1) (by omega)
      rw [val_limbs, val_drop_cons hn, List.drop_eq_nil_of_le (i := m + 1 + 1) (by omega), hny] at h
      simp only [val, Nat.mul_zero, Nat.add_zero] at h
      have h2 := val_lt ((limbs_lim B).take (m + 1))
      rw [List.length_take, Nat.min_eq_left (by omega)] at h2
      rw [Nat.add_mul, Nat.one_mul, Nat.mul_comm y]
      exact Nat.lt_of_le_of_lt (Nat.le_of_eq h) (by rw [Nat.add_comm]; exact Nat.add_lt_add_left h2 _)
    have hVlo : 2147483648 * 4294967296 ^ (m + 1) ≤ B * S := by
      have h1 : 2 ^ (nbits y - 1) * S * 4294967296 ^ (m + 1) ≤ y * S * 4294967296 ^ (m + 1) := Nat.mul_le_mul_right _ (Nat.mul_le_mul_right _ hylo)
      rw [p1] at h1
      refine Nat.le_trans h1 ?_
      rw [Nat.mul_right_comm]
      exact Nat.mul_le_mul_right _ hBlo
    have hVhi : B * S < 4294967296 ^ (m + 1 + 1) := by
      have h1 : (y + 1) * S ≤ 4294967296 := by rw [← p2]; exact Nat.mul_le_mul_right _ hyhi
      have h2 : B * S < (y + 1) * 4294967296 ^ (m + 1) * S := Nat.mul_lt_mul_of_pos_right hBhi hSp
      refine Nat.lt_of_lt_of_le h2 ?_
      rw [Nat.mul_right_comm, Nat.pow_succ (m := m + 1), Nat.mul_comm (4294967296 ^ (m + 1))]
      exact Nat.mul_le_mul_right _ h1
    obtain ⟨hvn, hvl, hvt⟩ := limbs_just (v := B * S) (n := m + 1) (Nat.le_trans (Nat.le_mul_of_pos_left _ (by decide)) hVlo) hVhi
    have hvt2 : 2147483648 ≤ (limbs (B * S))[m + 1] := by
      rw [hvt, Nat.le_div_iff_mul_le (Nat.pow_pos (by decide))]
      exact hVlo
    -- the dividend
    have hAl := val_lt (limbs_lim A)
    rw [val_limbs] at hAl
    have hmono := limbs_mono (m := B) (n := A) (by omega)
    have hUl : (limbs (A * S)).length ≤ (limbs A).length + 1 := by
      refine limbs_len_le ?_
      rw [Nat.pow_succ]
      exact Nat.lt_of_lt_of_le (Nat.mul_lt_mul_of_pos_right hAl hSp) (Nat.mul_le_mul_left _ (by omega))
    obtain ⟨w, hw⟩ : ∃ w, (limbs A).length + 1 - (limbs (A * S)).length = w := ⟨_, rfl⟩
    have hpad := pad_loop (limbs A) (limbs (B * S)) fal s w (limbs (A * S)) hw hUl
    have hpv := val_pad (limbs (A * S)) w
    rw [val_limbs] at hpv
    have hpl : (limbs (A * S) ++ List.replicate w 0).length = (limbs A).length + 1 := by simp; omega
    have hpm : Lim (limbs (A * S) ++ List.replicate w 0) := (limbs_lim _).append fun z hz => by rw [(List.mem_replicate.1 hz).2]; omega
    obtain ⟨u, hu⟩ : ∃ u, limbs (A * S) ++ List.replicate w 0 = u := ⟨_, rfl⟩
    obtain ⟨v, hv⟩ : ∃ v, limbs (B * S) = v := ⟨_, rfl⟩
    have hvv := val_limbs (B * S)
    have hvm := limbs_lim (B * S)
    rw [hu] at hpad hpv hpl hpm
    simp only [hv] at hpad hvl hvt2 hvv hvm hup2 hvn
    have hd : val (u.drop (u.length - v.length)) < val v := by
      rw [val_drop hpm, hpv, hvv, Nat.div_lt_iff_lt_mul (Nat.pow_pos (by decide))]
      have h1 : A * S < 4294967296 ^ (limbs A).length * 2147483648 := Nat.lt_of_lt_of_le (Nat.mul_lt_mul_of_pos_right hAl hSp) (Nat.mul_le_mul_left _ p3)
      refine Nat.lt_of_lt_of_le h1 (Nat.le_trans ?_ (Nat.mul_le_mul_right _ hVlo))
      rw [Nat.mul_assoc, ← Nat.pow_add, show m + 1 + (u.length - v.length) = (limbs A).length by omega, Nat.mul_comm]
      exact Nat.le_refl _
    obtain ⟨u', q', k0, k1, k2, k3, k4, k5, k6⟩ := c_long u v ⟨hpm, by have := fa.2; omega⟩ ⟨hvm, by omega⟩ (m := m) (by omega) rfl hvt2 (by omega) hd
    have hdm : A * S / (B * S) = A / B := Nat.mul_div_mul_right _ _ hSp
    have hmm : A * S % (B * S) = A % B * S := Nat.mul_mod_mul_right _ _ _
    rw [hpv, hvv, hmm] at k5
    rw [hpv, hvv, hdm] at k6
    have t3 := c_trimO q' (by omega)
    rw [← limbs_val k2, k6] at t3
    have hAS := Nat.mod_lt A (show 0 < B by omega)
    have hrl : A % B * S < 4294967296 ^ v.length := by
      rw [hvl]
      exact Nat.lt_trans (Nat.mul_lt_mul_of_pos_right hAS hSp) hVhi
    have hcut := val_cut (l := u') (k := v.length) (by omega)
    rw [k5] at hcut
    have hz : val (u'.drop v.length) = 0 := by
      rcases Nat.eq_zero_or_pos (val (u'.drop v.length)) with h0 | h0
      · exact h0
      · have : 4294967296 ^ v.length * 1 ≤ 4294967296 ^ v.length * val (u'.drop v.length) := Nat.mul_le_mul_left _ h0
        omega
    rw [hz, Nat.mul_zero, Nat.add_zero] at hcut
    have hvul : v.length ≤ u'.length := by omega
    have t4 := c_trimO (u'.take v.length) (by simp; omega)
    rw [← limbs_val (k1.take _), ← hcut] at t4
    have hrf : Fit (limbs (A % B * S)) := ⟨limbs_lim _, by have := limbs_len_le hrl; omega⟩
    have t5 := c_down (limbs (A % B * S)) hrf s (by omega)
    rw [val_limbs, hS, Nat.mul_div_cancel _ hSp] at t5
    have e0 : ¬ (limbs B).length = 1 := by omega
    have w1 : IntKind.i64.wrap (((limbs B).length : Int) - 1) = ((m + 1 : Nat) : Int) := by rw [wrap_i64] <;> omega
    obtain ⟨m1, hm1⟩ : ∃ m1, m + 1 = m1 := ⟨_, rfl⟩
    rw [hm1] at w1
    simp only [hm1] at hny hn
    rw [← ul_take] at t4
    have p6 := p6_DivMod (limbs A) (limbs B) (limbs (A * S)) v u u' q' (limbs (A / B)) (limbs (A % B * S)) (limbs (A % B)) s m1 y w1 hn hny hlz hup1 hup2 hpad k0 t3 t4 t5 hvul
    simp [-tl5_limbs_DivMod, Run, t1, t2, hcmp, hcn, hnB, e0, p6]
end Go.AM.F

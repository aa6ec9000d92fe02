/- Long division: the loops within a step. No conditions. -/
import Derived.Test.YtlokekpiajholaaDoorL17
import Derived.Test.YtlokekpiajholaaDoorL20
namespace Go.AM.F
open Go Go.AM
set_option maxRecDepth 10000
set_option linter.unusedSimpArgs false
attribute [local simp] b_bits_Add32 a_bits_Add32 w1_limbs_long j0_limbs_long j1_limbs_long w2_limbs_long j2_limbs_long j3_limbs_long w3_limbs_long j4_limbs_long j5_limbs_long
/-- Limbs, a few more. -/
def Fit2 (l : List Nat) : Prop := Lim l ∧ l.length ≤ 4398046511104
theorem c_Add32 (x y c : Nat) (hx : x < 4294967296) (hy : y < 4294967296) (hc : c ≤ 1) : Cinf T n_bits_Add32 [.v (.int .u32 x), .v (.int .u32 y), .v (.int .u32 c)] =
    some (.tup [.v (.int .u32 ((x + y + c) % 4294967296 : Nat)), .v (.int .u32 ((x + y + c) / 4294967296 : Nat))], [.dead, .dead, .dead]) := by
  have w0 := u64_nat (k := x) (by omega)
  have w1 := u64_nat (k := y) (by omega)
  have w2 := u64_nat (k := c) (by omega)
  obtain ⟨t, ht⟩ : ∃ t, t = x + y := ⟨_, rfl⟩
  obtain ⟨s, hs⟩ : ∃ s, s = t + c := ⟨_, rfl⟩
  have w3 : IntKind.u64.wrap ((x : Int) + y) = (t : Int) := by rw [wrap_u64] <;> omega
  have w4 : IntKind.u64.wrap ((t : Int) + c) = (s : Int) := by rw [wrap_u64] <;> omega
  have w5 := mod_u32 s
  obtain ⟨e, he⟩ : ∃ e, s / 4294967296 = e := ⟨_, rfl⟩
  obtain ⟨f, hf⟩ : ∃ f, s % 4294967296 = f := ⟨_, rfl⟩
  have h1 := shr32_64 he
  have w6 := u32_nat (k := e) (by omega)
  rw [hf] at w5
  rw [show x + y + c = s by omega, he, hf, run_bits_Add32]
  simp [-binInt_shr, Run, w0, w1, w2, w3, w4, w5, h1, w6]
/-- One limb of the subtraction. -/
theorem lsub_step {V1 V V0 J P x d lo b b' c g y s hi : Nat} (hset : V1 + P * x = V + P * d) (hst : x + 4294967296 * b' = d + lo + b) (hs : s = c + g * y) (hlo : s % 4294967296 = lo) (hhi : s / 4294967296 = hi) (hv : V + J = V0 + P * (b + c)) :
    V1 + (J + P * (g * y)) = V0 + P * 4294967296 * (b' + hi) := by
  have e0 : c + g * y = lo + 4294967296 * hi := by omega
  have e1 : P * x + P * (4294967296 * b') = P * d + P * lo + P * b := by rw [← Nat.mul_add, ← Nat.mul_add, ← Nat.mul_add, hst]
  have e2 : P * c + P * (g * y) = P * lo + P * (4294967296 * hi) := by rw [← Nat.mul_add, ← Nat.mul_add, e0]
  rw [Nat.mul_add] at hv
  rw [Nat.mul_assoc, Nat.mul_add, Nat.mul_add]
  omega
def subE (u v q : List Nat) (top next g c b j k : Nat) : Env := [(0, .ref 100000 []), (1, .ro 1 (ul v)), (5, .v (.int .i64 v.length)), (6, .own 1 (ul q)), (7, .v (.int .u64 top)), (8, .v (.int .u64 next)), (9, .v (.int .i64 j)), (11, .v (.int .u64 g)), (13, .v (.int .u64 c)), (14, .v (.int .u32 b)), (24, .dead), (94, .v (.int .i64 v.length)), (95, .v (.int .i64 k)), (100000, .own 1 (ul u))]
theorem lsub_loop (v q u0 : List Nat) (hv : Fit v) (top next g j : Nat) (hg : g < 4294967296) (hj : j + v.length < u0.length) (hul : u0.length ≤ 4398046511104) : ∀ (m k c b : Nat) (u : List Nat), v.length - k = m → k ≤ v.length → c < 4294967296 → b ≤ 1 → Lim u → u.length = u0.length → (∀ r, r < j ∨ j + k ≤ r → at0 u r = at0 u0 r) → val u + 4294967296 ^ j * (g * val (v.take k)) = val u0 + 4294967296 ^ (j + k) * (b + c) →
    ∃ (u' : List Nat) (c' b' : Nat), Exec T l2_limbs_long (subE u v q top next g c b j k) = some (.exit 5, subE u' v q top next g c' b' j v.length) ∧ c' < 4294967296 ∧ b' ≤ 1 ∧ Lim u' ∧ u'.length = u0.length ∧ (∀ r, r < j ∨ j + v.length ≤ r → at0 u' r = at0 u0 r) ∧ val u' + 4294967296 ^ j * (g * val v) = val u0 + 4294967296 ^ (j + v.length) * (b' + c') := by
  intro m
  induction m with
  | zero =>
    intro k c b u hm hk hc hb hl ho hz he
    obtain rfl : k = v.length := by omega
    refine ⟨u, c, b, ?_, hc, hb, hl, ho, hz, ?_⟩
    · rw [ex2_limbs_long]
      simp [subE]
    · rwa [List.take_of_length_le (Nat.le_refl _)] at he
  | succ m ih =>
    intro k c b u hm hk hc hb hl ho hz he
    have hvl := hv.2
    have hlt : k < v.length := by omega
    have hw := wrap_succ hlt (by omega)
    obtain ⟨y, hy⟩ : ∃ y, v[k] = y := ⟨_, rfl⟩
    have hyl := hv.1.get hlt
    rw [hy] at hyl
    obtain ⟨p, hp⟩ : ∃ p, p = k + j := ⟨_, rfl⟩
    have hpu : p < u.length := by omega
    have hji : IntKind.i64.wrap ((k : Int) + j) = (p : Int) := by rw [wrap_i64] <;> omega
    obtain ⟨x, hx⟩ : ∃ x, u[p] = x := ⟨_, rfl⟩
    have hxl := hl.get hpu
    rw [hx] at hxl
    have hgy : g * y ≤ 4294967295 * 4294967295 := Nat.mul_le_mul (by omega) (by omega)
    obtain ⟨t, ht⟩ : ∃ t, g * y = t := ⟨_, rfl⟩
    have hti : (g : Int) * (y : Int) = (t : Int) := by rw [← ht]; exact (Int.natCast_mul g y).symm
    rw [ht] at hgy
    obtain ⟨s, hs⟩ : ∃ s, s = c + t := ⟨_, rfl⟩
    have w0 := u64_nat (k := y) (by omega)
    have w1 := u64_nat (k := t) (by omega)
    have w2 : IntKind.u64.wrap ((c : Int) + t) = (s : Int) := by rw [wrap_u64] <;> omega
    have h1 := c_low s (by omega)
    have h2 := c_high s
    obtain ⟨lo, hlo⟩ : ∃ lo, s % 4294967296 = lo := ⟨_, rfl⟩
    obtain ⟨hi, hhi⟩ : ∃ hi, s / 4294967296 = hi := ⟨_, rfl⟩
    rw [hlo] at h1
    rw [hhi] at h2
    have hc3 := c_Sub32 x lo b hxl (by omega) hb
    have hb2 : (if x < lo + b then 1 else 0) ≤ 1 := by split <;> omega
    have hst : x + 4294967296 * (if x < lo + b then 1 else 0) = (x + 8589934592 - lo - b) % 4294967296 + lo + b := by split <;> omega
    have hdl : (x + 8589934592 - lo - b) % 4294967296 < 4294967296 := by omega
    generalize (if x < lo + b then 1 else 0 : Nat) = b' at hc3 hb2 hst
    generalize (x + 8589934592 - lo - b) % 4294967296 = d at hc3 hst hdl
    have hset := val_set hpu d
    rw [hx, hp, Nat.add_comm k j] at hset
    have he2 := lsub_step hset hst (by rw [hs, ← ht]) hlo hhi he
    rw [← Nat.pow_succ, show (4294967296 : Nat) ^ j * (g * val (v.take k)) + 4294967296 ^ (j + k) * (g * y) = 4294967296 ^ j * (g * val (v.take (k + 1))) by
      rw [val_take_succ' hlt hy, Nat.pow_add, Nat.mul_assoc, ← Nat.mul_add, Nat.mul_add g, Nat.mul_left_comm g]] at he2
    rw [Nat.add_comm j k, ← hp] at he2
    obtain ⟨u', c', b2, h0, h3⟩ := ih (k + 1) hi b' (u.set p d) (by omega) (by omega) (by omega) hb2 (hl.set hdl) (by simp [ho]) (fun r hr => by rw [at0_set_ne (by omega)]; exact hz r (by omega)) (by rw [he2, show p.succ = j + (k + 1) by omega])
    refine ⟨u', c', b2, ?_, h3⟩
    rw [← h0, ex2_limbs_long]
    simp [subE, hlt, hy, hw, hji, hpu, hx, w0, hti, w1, w2, h1, h2, hc3, ul_set]
def addE (u v q : List Nat) (top next c j k : Nat) : Env := [(0, .ref 100000 []), (1, .ro 1 (ul v)), (5, .v (.int .i64 v.length)), (6, .own 1 (ul q)), (7, .v (.int .u64 top)), (8, .v (.int .u64 next)), (9, .v (.int .i64 j)), (16, .v (.int .u32 c)), (24, .dead), (159, .v (.int .i64 v.length)), (160, .v (.int .i64 k)), (100000, .own 1 (ul u))]
theorem ladd_step {V1 V V0 J P x d c y c' : Nat} (hset : V1 + P * x = V + P * d) (hst : x + y + c = d + 4294967296 * c') (hv : V + P * c = V0 + J) : V1 + P * 4294967296 * c' = V0 + (J + P * y) := by
  have e1 : P * x + P * y + P * c = P * d + P * (4294967296 * c') := by rw [← Nat.mul_add, ← Nat.mul_add, ← Nat.mul_add, hst]
  rw [Nat.mul_assoc]
  omega
theorem ladd_loop (v q u0 : List Nat) (hv : Fit v) (top next j : Nat) (hj : j + v.length < u0.length) (hul : u0.length ≤ 4398046511104) : ∀ (m k c : Nat) (u : List Nat), v.length - k = m → k ≤ v.length → c ≤ 1 → Lim u → u.length = u0.length → (∀ r, r < j ∨ j + k ≤ r → at0 u r = at0 u0 r) → val u + 4294967296 ^ (j + k) * c = val u0 + 4294967296 ^ j * val (v.take k) →
    ∃ (u' : List Nat) (c' : Nat), Exec T l3_limbs_long (addE u v q top next c j k) = some (.exit 7, addE u' v q top next c' j v.length) ∧ c' ≤ 1 ∧ Lim u' ∧ u'.length = u0.length ∧ (∀ r, r < j ∨ j + v.length ≤ r → at0 u' r = at0 u0 r) ∧ val u' + 4294967296 ^ (j + v.length) * c' = val u0 + 4294967296 ^ j * val v := by
  intro m
  induction m with
  | zero =>
    intro k c u hm hk hc hl ho hz he
    obtain rfl : k = v.length := by omega
    refine ⟨u, c, ?_, hc, hl, ho, hz, ?_⟩
    · rw [ex3_limbs_long]
      simp [addE]
    · rwa [List.take_of_length_le (Nat.le_refl _)] at he
  | succ m ih =>
    intro k c u hm hk hc hl ho hz he
    have hvl := hv.2
    have hlt : k < v.length := by omega
    have hw := wrap_succ hlt (by omega)
    obtain ⟨y, hy⟩ : ∃ y, v[k] = y := ⟨_, rfl⟩
    have hyl := hv.1.get hlt
    rw [hy] at hyl
    obtain ⟨p, hp⟩ : ∃ p, p = k + j := ⟨_, rfl⟩
    have hpu : p < u.length := by omega
    have hji : IntKind.i64.wrap ((k : Int) + j) = (p : Int) := by rw [wrap_i64] <;> omega
    obtain ⟨x, hx⟩ : ∃ x, u[p] = x := ⟨_, rfl⟩
    have hxl := hl.get hpu
    rw [hx] at hxl
    have hc3 := c_Add32 x y c hxl hyl hc
    have hst : x + y + c = (x + y + c) % 4294967296 + 4294967296 * ((x + y + c) / 4294967296) := by omega
    have hdl : (x + y + c) % 4294967296 < 4294967296 := by omega
    have hcl : (x + y + c) / 4294967296 ≤ 1 := by omega
    generalize (x + y + c) % 4294967296 = d at hc3 hst hdl
    generalize (x + y + c) / 4294967296 = c' at hc3 hst hcl
    have hset := val_set hpu d
    rw [hx, hp, Nat.add_comm k j] at hset
    have he2 := ladd_step hset hst he
    rw [← Nat.pow_succ, show (4294967296 : Nat) ^ j * val (v.take k) + 4294967296 ^ (j + k) * y = 4294967296 ^ j * val (v.take (k + 1)) by
      rw [val_take_succ' hlt hy, Nat.pow_add, Nat.mul_assoc, ← Nat.mul_add]] at he2
    rw [Nat.add_comm j k, ← hp] at he2
    obtain ⟨u', c2, h0, h3⟩ := ih (k + 1) c' (u.set p d) (by omega) (by omega) hcl (hl.set hdl) (by simp [ho]) (fun r hr => by rw [at0_set_ne (by omega)]; exact hz r (by omega)) (by rw [show j + (k + 1) = p.succ by omega, he2])
    refine ⟨u', c2, ?_, h3⟩
    rw [← h0, ex3_limbs_long]
    simp [addE, hlt, hy, hw, hji, hpu, hx, hc3, ul_set]
/-- The guess, set right. -/
def gsE (u v q : List Nat) (top next g r j : Nat) : Env := [(0, .ref 100000 []), (1, .ro 1 (ul v)), (5, .v (.int .i64 v.length)), (6, .own 1 (ul q)), (7, .v (.int .u64 top)), (8, .v (.int .u64 next)), (9, .v (.int .i64 j)), (11, .v (.int .u64 g)), (12, .v (.int .u64 r)), (24, .dead), (100000, .own 1 (ul u))]
theorem guess_loop (v q u : List Nat) (hv : v.length ≤ 1099511627776) (hv2 : 2 ≤ v.length) (hu : u.length ≤ 4398046511104) (j i2 : Nat) (hi2 : i2 + 2 = j + v.length) (hiu : i2 < u.length) {N top next vl head u2 ul' U V : Nat} (hS : Stp N top next vl head u2 ul' U V) (hx : u[i2] = u2) :
    ∀ (g r : Nat), g * top + r = head → U / V ≤ g → g ≤ 4294967297 → r < 8589934592 → ∃ g' r', Exec T l1_limbs_long (gsE u v q top next g r j) = some (.exit 2, gsE u v q top next g' r' j) ∧ g' < 4294967296 ∧ U / V ≤ g' ∧ g' ≤ U / V + 1 := by
  intro g
  induction g using Nat.strongRecOn with
  | _ g ih =>
    intro r hgr hq hgl hrl
    have h3 := hS.tl
    have h4 := hS.nx
    have h5 := hS.u2
    by_cases h1 : r < 4294967296
    · have q1 : IntKind.i64.wrap ((j : Int) + v.length) = ((j + v.length : Nat) : Int) := by rw [wrap_i64] <;> omega
      have q2 : IntKind.i64.wrap (((j + v.length : Nat) : Int) - 2) = (i2 : Int) := by rw [wrap_i64] <;> omega
      obtain ⟨a, ha⟩ : ∃ a, j + v.length = a := ⟨_, rfl⟩
      rw [ha] at q1 q2
      have w0 := u64_nat (k := u2) (by omega)
      have hsh := shl32_64 r h1
      have hor : r * 4294967296 ||| u2 = u2 + r * 4294967296 := by rw [Nat.or_comm, or_high h5]
      have hor2 := or64 (x := r * 4294967296) (y := u2) (e := u2 + r * 4294967296) (by omega) (by omega) hor
      obtain ⟨e, he⟩ : ∃ e, u2 + r * 4294967296 = e := ⟨_, rfl⟩
      rw [he] at hor2
      obtain ⟨f, hf⟩ : ∃ f, r * 4294967296 = f := ⟨_, rfl⟩
      rw [hf] at hor2 hsh
      have less : U / V ≤ g - 1 ∧ 0 < g → ∃ g' r', Exec T l1_limbs_long (gsE u v q top next (g - 1) (r + top) j) = some (.exit 2, gsE u v q top next g' r' j) ∧ g' < 4294967296 ∧ U / V ≤ g' ∧ g' ≤ U / V + 1 := by
        intro hl
        refine ih (g - 1) (by omega) (r + top) ?_ hl.1 (by omega) (by omega)
        rw [← hgr, Nat.sub_mul, Nat.one_mul]
        have : top ≤ g * top := Nat.le_mul_of_pos_left _ hl.2
        omega
      have q4 : IntKind.u64.wrap ((r : Int) + top) = ((r + top : Nat) : Int) := by rw [wrap_u64] <;> omega
      by_cases h2 : 4294967296 ≤ g
      · obtain ⟨g', r', k0, k1⟩ := less ⟨by have := hS.quo_lt; omega, by omega⟩
        refine ⟨g', r', ?_, k1⟩
        have q3 : IntKind.u64.wrap ((g : Int) - 1) = ((g - 1 : Nat) : Int) := by rw [wrap_u64] <;> omega
        obtain ⟨g1, hg1⟩ : ∃ g1, g - 1 = g1 := ⟨_, rfl⟩
        obtain ⟨r1, hr1⟩ : ∃ r1, r + top = r1 := ⟨_, rfl⟩
        rw [hg1] at q3 k0
        rw [hr1] at q4 k0
        rw [← k0, ex1_limbs_long]
        simp [gsE, h1, h2, q3, q4]
      · have hp : g * next ≤ 4294967295 * 4294967295 := Nat.mul_le_mul (by omega) (by omega)
        obtain ⟨p, hpp⟩ : ∃ p, g * next = p := ⟨_, rfl⟩
        have hpi : (g : Int) * (next : Int) = (p : Int) := by rw [← hpp]; exact (Int.natCast_mul g next).symm
        have w1 := u64_nat (k := p) (by omega)
        by_cases h6 : e < p
        · have hless := hS.too hgr hq (by rw [hpp]; omega)
          obtain ⟨g', r', k0, k1⟩ := less hless
          refine ⟨g', r', ?_, k1⟩
          have q3 : IntKind.u64.wrap ((g : Int) - 1) = ((g - 1 : Nat) : Int) := by rw [wrap_u64] <;> omega
          obtain ⟨g1, hg1⟩ : ∃ g1, g - 1 = g1 := ⟨_, rfl⟩
          obtain ⟨r1, hr1⟩ : ∃ r1, r + top = r1 := ⟨_, rfl⟩
          rw [hg1] at q3 k0
          rw [hr1] at q4 k0
          rw [← k0, ex1_limbs_long]
          simp [-binInt_shl, -binInt_or, gsE, h1, h2, q1, q2, q3, q4, hiu, hx, w0, hsh, hor2, hpi, w1, h6]
        · refine ⟨g, r, ?_, by omega, hq, hS.good hgr (by omega) (.inr (by rw [hpp]; omega))⟩
          rw [ex1_limbs_long]
          simp [-binInt_shl, -binInt_or, gsE, h1, h2, q1, q2, hiu, hx, w0, hsh, hor2, hpi, w1, h6]
    · have hgB : g < 4294967296 := by
        have h6 := hS.head_lt
        rw [← hgr, Nat.add_mul] at h6
        have h7 : g * top < 4294967296 * top := by omega
        exact Nat.lt_of_mul_lt_mul_right h7
      refine ⟨g, r, ?_, hgB, hq, hS.good hgr hgB (.inl (by omega))⟩
      rw [ex1_limbs_long]
      simp [gsE, h1]
end Go.AM.F

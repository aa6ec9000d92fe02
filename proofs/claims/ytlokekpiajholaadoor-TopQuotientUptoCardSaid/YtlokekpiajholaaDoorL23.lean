/- Long division: a step. No conditions. -/
import Derived.Test.YtlokekpiajholaaDoorL22
namespace Go.AM.F
open Go Go.AM
set_option maxRecDepth 10000
set_option linter.unusedSimpArgs false
attribute [local simp] w0_limbs_long j6_limbs_long j7_limbs_long j8_limbs_long j9_limbs_long j10_limbs_long j11_limbs_long j12_limbs_long b_limbs_long a_limbs_long
theorem p11_long (u v q : List Nat) (top next j p p1 x1 x0 f head g0 r0 g r : Nat) (q1 : IntKind.i64.wrap ((j : Int) + v.length) = (p : Int)) (q2 : IntKind.i64.wrap ((p : Int) - 1) = (p1 : Int)) (hpu : p < u.length) (hp1u : p1 < u.length) (hx1 : u[p] = x1) (hx0 : u[p1] = x0) (w1 : IntKind.u64.wrap (x1 : Int) = x1) (w0 : IntKind.u64.wrap (x0 : Int) = x0)
    (hsh : binInt .shl .u64 x1 32 = some (.int .u64 f)) (hor : binInt .or .u64 f x0 = some (.int .u64 head)) (q3 : (head : Int).tdiv top = (g0 : Int)) (q4 : (head : Int).tmod top = (r0 : Int)) (q5 : IntKind.u64.wrap (g0 : Int) = g0) (q6 : ¬ top = 0)
    (k0 : Exec T l1_limbs_long (gsE u v q top next g0 r0 j) = some (.exit 2, gsE u v q top next g r j)) :
    Exec T j11_limbs_long (lgE u v q top next j) = andThen (inBlock 1 (Exec T k9_limbs_long (gsE u v q top next g r j))) (Exec T k10_limbs_long) := by
  simp only [gsE] at k0
  simp [-tl9_limbs_long, -tl10_limbs_long, -binInt_shl, -binInt_or, lgE, gsE, q1, q2, hpu, hp1u, hx1, hx0, w1, w0, hsh, hor, q3, q4, q5, q6, k0]
theorem keep_lgE (u v q : List Nat) (top next : Nat) (j : Int) : (lgE u v q top next j).keep [0, 1, 5, 6, 7, 8, 9, 24, 100000] = lgE u v q top next j := by simp [lgE]
theorem w0_list (u v q : List Nat) (top next j : Nat) : Exec T w0_limbs_long [(0, .ref 100000 []), (1, .ro 1 (ul v)), (5, .v (.int .i64 v.length)), (6, .own 1 (ul q)), (7, .v (.int .u64 top)), (8, .v (.int .u64 next)), (9, .v (.int .i64 j)), (24, .dead), (100000, .own 1 (ul u))] = Exec T k11_limbs_long [(0, .ref 100000 []), (1, .ro 1 (ul v)), (5, .v (.int .i64 v.length)), (6, .own 1 (ul q)), (7, .v (.int .u64 top)), (8, .v (.int .u64 next)), (9, .v (.int .i64 j)), (24, .dead), (100000, .own 1 (ul u))] := by
  simp only [w0_limbs_long, Exec_seq]
  simp [-tl11_limbs_long]
theorem w0_long (u v q : List Nat) (top next j : Nat) : Exec T w0_limbs_long (lgE u v q top next j) = Exec T j11_limbs_long (lgE u v q top next j) := by
  refine (w0_list u v q top next j).trans ?_
  rw [tl11_limbs_long]
  exact congrArg (Exec T j11_limbs_long) (keep_lgE u v q top next j)
theorem x0_long (u v q : List Nat) (top next j : Nat) : Exec T l0_limbs_long (lgE u v q top next j) = andThen (Exec T j11_limbs_long (lgE u v q top next j)) (Exec T l0_limbs_long) := by
  rw [ex0_limbs_long, keep_lgE, w0_long]
theorem long_step (v : List Nat) (hv : Fit v) {m top next : Nat} (hm : v.length = m + 2) (ht : v[m + 1] = top) (hn : v[m] = next) (htop : 2147483648 ≤ top) (u q : List Nat) (hu : Fit2 u) (j : Nat) (hj : j + v.length < u.length) (hjq : j < q.length) (hlt : val (u.drop (j + 1)) < val v) :
    ∃ u', Exec T l0_limbs_long (lgE u v q top next j) = Exec T l0_limbs_long (lgE u' v (q.set j (val (u.drop j) / val v)) top next ((j : Int) - 1)) ∧ Lim u' ∧ u'.length = u.length ∧ u'.take j = u.take j ∧ val (u'.drop j) = val (u.drop j) % val v ∧ val (u.drop j) / val v < 4294967296 := by
  obtain ⟨x1, hx1⟩ : ∃ x, u[j + (m + 2)] = x := ⟨_, rfl⟩
  obtain ⟨x0, hx0⟩ : ∃ x, u[j + (m + 1)] = x := ⟨_, rfl⟩
  obtain ⟨u2, hu2⟩ : ∃ x, u[j + m] = x := ⟨_, rfl⟩
  obtain ⟨hS, hz⟩ := step_numbers hu.1 hv.1 hm hj ht hn htop hx1 hx0 hu2 hlt
  have hx1l : x1 < 4294967296 := by rw [← hx1]; exact hu.1.get _
  have hx0l : x0 < 4294967296 := by rw [← hx0]; exact hu.1.get _
  have htl := hS.tl
  have hul := hu.2
  have hvl := hv.2
  obtain ⟨head, hh⟩ : ∃ h, x1 * 4294967296 + x0 = h := ⟨_, rfl⟩
  rw [hh] at hS
  have hq0 := hS.first
  have hdm := Nat.div_add_mod head top
  have hr0 : head % top < top := Nat.mod_lt _ (by omega)
  have hhl := hS.head_lt
  have hg0 : head / top ≤ 4294967297 := by
    have h1 : head / top < 4294967298 := by
      rw [Nat.div_lt_iff_lt_mul (by omega)]
      omega
    omega
  obtain ⟨g0, hg0e⟩ : ∃ g, head / top = g := ⟨_, rfl⟩
  obtain ⟨r0, hr0e⟩ : ∃ g, head % top = g := ⟨_, rfl⟩
  rw [hg0e] at hq0 hdm hg0
  rw [hr0e] at hdm hr0
  obtain ⟨g, r, k0, hgl, hgq, hgq2⟩ := guess_loop v q u hvl (by omega) hul j (j + m) (by omega) (by omega) hS hu2 g0 r0 (by rw [Nat.mul_comm]; exact hdm) hq0 hg0 (by omega)
  obtain ⟨u1, c, b, k1, hcl, hbl, hl1, ho1, hz1, he1⟩ := lsub_loop v q u hv top next g j hgl hj hul v.length 0 0 0 u rfl (Nat.zero_le _) (by omega) (by omega) hu.1 rfl (fun _ _ => rfl) (by simp [val])
  have hp : j + v.length < u1.length := by omega
  obtain ⟨p, hpp⟩ : ∃ p, j + v.length = p := ⟨_, rfl⟩
  obtain ⟨x, hx⟩ : ∃ x, u1[j + v.length] = x := ⟨_, rfl⟩
  have hxl : x < 4294967296 := by rw [← hx]; exact hl1.get _
  have hs := c_Sub32 x c b hxl hcl hbl
  have hb2 : (if x < c + b then 1 else 0) ≤ 1 := by split <;> omega
  have hst : x + 4294967296 * (if x < c + b then 1 else 0) = (x + 8589934592 - c - b) % 4294967296 + c + b := by split <;> omega
  have hdl : (x + 8589934592 - c - b) % 4294967296 < 4294967296 := by omega
  generalize (if x < c + b then 1 else 0 : Nat) = b' at hs hb2 hst
  generalize (x + 8589934592 - c - b) % 4294967296 = d at hs hst hdl
  have hset := val_set hp d
  rw [hx] at hset
  have he2 := last_step hset hst he1
  rw [← Nat.pow_succ] at he2
  have hl2 := hl1.set (k := j + v.length) hdl
  have ho2 : (u1.set (j + v.length) d).length = u.length := by simp [ho1]
  have hz2 : ∀ r, r < j ∨ j + v.length + 1 ≤ r → at0 (u1.set (j + v.length) d) r = at0 u r := fun r hr => by
    rw [at0_set_ne (by omega)]
    exact hz1 r (by omega)
  have hzz : val (u.drop (j + v.length + 1)) = 0 := by rw [show j + v.length + 1 = j + (m + 3) by omega]; exact hz
  obtain ⟨hw1, hw2⟩ := within hl2 ho2 hj hz2 hzz
  have hcut := val_cut (l := u) (k := j) (by omega)
  rw [hpp] at hw1 hw2 he2 hl2 ho2 hz2
  simp only [hpp] at hx
  obtain ⟨uu, huu⟩ : ∃ l, u1.set p d = l := ⟨_, rfl⟩
  rw [huu] at hw1 hw2 he2 hl2 ho2 hz2
  have hpu : p < u.length := by omega
  have hpu1 : p < u1.length := by omega
  have hpow : 4294967296 ^ (p + 1) = 4294967296 ^ j * 4294967296 ^ (v.length + 1) := by rw [← Nat.pow_add, ← hpp, Nat.add_assoc]
  have hB : 0 < 4294967296 ^ j := Nat.pow_pos (by decide)
  have he3 : val (uu.drop j) + g * val v = val (u.drop j) + 4294967296 ^ (v.length + 1) * b' := by
    apply Nat.eq_of_mul_eq_mul_left hB
    rw [Nat.mul_add, Nat.mul_add, ← Nat.mul_assoc _ _ b', ← hpow]
    rw [hw1, hcut] at he2
    rw [Nat.succ_eq_add_one] at he2
    omega
  obtain ⟨U, hU⟩ : ∃ U, val (u.drop j) = U := ⟨_, rfl⟩
  obtain ⟨V, hV⟩ : ∃ V, val v = V := ⟨_, rfl⟩
  have hQ := hS.quo_lt
  have hVp := hS.pos
  rw [hU, hV] at hgq hgq2 hQ
  rw [hV] at hVp
  rw [hU, hV] at he3
  -- numbers that the machine works with
  have q1 : IntKind.i64.wrap ((j : Int) + v.length) = (p : Int) := by rw [wrap_i64] <;> omega
  have q2 : IntKind.i64.wrap ((p : Int) - 1) = ((j + (m + 1) : Nat) : Int) := by rw [wrap_i64] <;> omega
  obtain ⟨p1, hp1⟩ : ∃ p1, j + (m + 1) = p1 := ⟨_, rfl⟩
  have hpm : j + (m + 2) = p := by omega
  simp only [hp1] at q2 hx0
  simp only [hpm] at hx1
  have hp1u : p1 < u.length := by omega
  have w1 := u64_nat (k := x1) (by omega)
  have w0 := u64_nat (k := x0) (by omega)
  have wg := u32_nat (k := g) hgl
  have wc := u32_nat (k := c) hcl
  have hsh := shl32_64 x1 hx1l
  have hor := or64 (x := x1 * 4294967296) (y := x0) (e := head) (by omega) (by omega) (by rw [Nat.or_comm, or_high hx0l]; omega)
  obtain ⟨f, hf⟩ : ∃ f, x1 * 4294967296 = f := ⟨_, rfl⟩
  rw [hf] at hsh hor
  have q3 : (head : Int).tdiv top = (g0 : Int) := by rw [← hg0e]; rfl
  have q4 : (head : Int).tmod top = (r0 : Int) := by rw [← hr0e]; rfl
  have q5 := u64_nat (k := g0) (by omega)
  have q6 : ¬ top = 0 := by omega
  have q7 : IntKind.i64.wrap ((j : Int) - 1) = (j : Int) - 1 := by rw [wrap_i64] <;> omega
  have hP := p11_long u v q top next j p p1 x1 x0 f head g0 r0 g r q1 q2 hpu hp1u hx1 hx0 w1 w0 hsh hor q3 q4 q5 q6 k0
  rw [p9_long u u1 v q top next j g r c b k1, p8_long u1 v q top next j p g c b x d b' hjq hpu1 hx wg wc q1 hs, huu] at hP
  have hqs : j < (q.set j g).length := by simpa using hjq
  by_cases hb0 : b' = 0
  · subst hb0
    rw [Nat.mul_zero, Nat.add_zero] at he3
    obtain ⟨hgU, hWU⟩ := rest_fits (W := val (uu.drop j)) hVp hgq hgq2 he3
    refine ⟨uu, ?_, hl2, ho2, take_at0 ho2 fun r hr => hz2 r (.inl hr), by rw [hWU, hU, hV], by rw [hU, hV]; exact hQ⟩
    rw [x0_long, hP, hU, hV, ← hgU, if_pos rfl, inBlock_exit, if_pos rfl, andThen_normal, p10_long uu v _ top next j q7, andThen_normal]
  · have hb1 : b' = 1 := by omega
    subst hb1
    rw [Nat.mul_one] at he3
    obtain ⟨hgU, hWU⟩ := rest_back (W := val (uu.drop j)) hVp hgq2 hw2 he3
    obtain ⟨u3, c3, k3, hc3, hl3, ho3, hz3, he4⟩ := ladd_loop v (q.set j (U / V)) uu hv top next j (by omega) (by omega) v.length 0 0 uu rfl (Nat.zero_le _) (by omega) hl2 rfl (fun _ _ => rfl) (by simp [val])
    have hp3 : p < u3.length := by omega
    obtain ⟨y, hy⟩ : ∃ y, u3[p] = y := ⟨_, rfl⟩
    have hyl : y < 4294967296 := by rw [← hy]; exact hl3.get _
    have hst3 : y + c3 = (y + c3) % 4294967296 + 4294967296 * ((y + c3) / 4294967296) := by omega
    have hdl3 : (y + c3) % 4294967296 < 4294967296 := by omega
    have hel3 : (y + c3) / 4294967296 ≤ 1 := by omega
    have wy := mod_u32 (y + c3)
    rw [Int.natCast_add] at wy
    generalize (y + c3) % 4294967296 = d3 at wy hst3 hdl3
    generalize (y + c3) / 4294967296 = e3 at hst3 hel3
    have hset3 := val_set hp3 d3
    rw [hy] at hset3
    rw [hpp] at he4
    have he5 := last_add hset3 hst3 he4
    rw [← Nat.pow_succ] at he5
    have hl4 := hl3.set (k := p) hdl3
    have ho4 : (u3.set p d3).length = u.length := by simp [ho3, ho2]
    have hz4 : ∀ r, r < j ∨ j + v.length + 1 ≤ r → at0 (u3.set p d3) r = at0 u r := fun r hr => by
      rw [at0_set_ne (by omega), hz3 r (by omega)]
      exact hz2 r (by omega)
    obtain ⟨hw3, hw4⟩ := within hl4 ho4 hj hz4 hzz
    have he6 : val ((u3.set p d3).drop j) + 4294967296 ^ (v.length + 1) * e3 = val (uu.drop j) + V := by
      apply Nat.eq_of_mul_eq_mul_left hB
      rw [Nat.mul_add, Nat.mul_add, ← Nat.mul_assoc _ _ e3, ← hpow]
      rw [hw3, hw1, hV] at he5
      rw [Nat.succ_eq_add_one] at he5
      omega
    have hrest : val ((u3.set p d3).drop j) = U % V := by
      have h1 : e3 = 0 ∨ e3 = 1 := by omega
      generalize 4294967296 ^ (v.length + 1) = M at he6 hw4 hWU
      rcases h1 with rfl | rfl
      · rw [Nat.mul_zero, Nat.add_zero] at he6
        omega
      · rw [Nat.mul_one] at he6
        omega
    refine ⟨u3.set p d3, ?_, hl4, ho4, take_at0 ho4 fun r hr => hz4 r (.inl hr), by rw [hrest, hU, hV], by rw [hU, hV]; exact hQ⟩
    have wq : IntKind.u32.wrap ((g : Int) - 1) = ((U / V : Nat) : Int) := by
      rw [hgU]
      obtain ⟨Q, hQe⟩ : ∃ Q, U / V = Q := ⟨_, rfl⟩
      rw [hQe] at hQ ⊢
      rw [wrap_u32] <;> omega
    have h7 := p7_long uu u3 v (q.set j g) top next j p g (U / V) c3 y d3 (by simpa using hjq) (by simp) wq (by simpa using k3) q1 hp3 hy wy
    rw [x0_long, hP, hU, hV, if_neg (by decide), h7, inBlock_normal, andThen_normal, p10_long _ v _ top next j q7, andThen_normal, List.set_set]
end Go.AM.F

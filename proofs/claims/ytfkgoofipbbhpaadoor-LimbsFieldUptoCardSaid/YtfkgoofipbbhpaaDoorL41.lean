/- The laws of quotients. No conditions. -/
import Derived.Test.YtfkgoofipbbhpaaDoorL40
namespace Go.AM.F
open Go Go.AM
set_option maxRecDepth 10000
set_option linter.unusedSimpArgs false
attribute [local simp] j0_thicketlaw01_LimbsField j1_thicketlaw01_LimbsField j2_thicketlaw01_LimbsField j3_thicketlaw01_LimbsField j4_thicketlaw01_LimbsField b_thicketlaw01_LimbsField a_thicketlaw01_LimbsField

theorem sgn_of {w u a b : Int} (ha : 0 < a) (hb : 0 < b) (h : w * a = u * b) : sgnZ w = sgnZ u := by
  have p1 : (w * a < 0) ↔ w < 0 := by
    constructor
    · intro k
      refine Classical.byContradiction fun k2 => ?_
      have := Int.mul_nonneg (show 0 ≤ w by omega) (show (0 : Int) ≤ a by omega)
      omega
    · intro k
      exact Int.mul_neg_of_neg_of_pos k ha
  have p2 : (u * b < 0) ↔ u < 0 := by
    constructor
    · intro k
      refine Classical.byContradiction fun k2 => ?_
      have := Int.mul_nonneg (show 0 ≤ u by omega) (show (0 : Int) ≤ b by omega)
      omega
    · intro k
      exact Int.mul_neg_of_neg_of_pos k hb
  have p3 : w * a = 0 ↔ w = 0 := by
    rw [Int.mul_eq_zero]
    omega
  have p4 : u * b = 0 ↔ u = 0 := by
    rw [Int.mul_eq_zero]
    omega
  rw [h] at p1 p3
  unfold sgnZ
  by_cases h0 : u = 0
  · rw [if_pos h0, if_pos (p3.1 (p4.2 h0))]
  · rw [if_neg h0, if_neg (fun k => h0 (p4.1 (p3.2 k)))]
    by_cases h1 : u < 0
    · rw [if_pos h1, if_pos (p1.1 (p2.2 h1))]
    · rw [if_neg h1, if_neg (fun k => h1 (p2.1 (p1.2 k)))]
theorem pos_cast {d : Nat} (h : 0 < d) : (0 : Int) < (d : Int) := by omega
theorem c_AlikeC (z : Int) (d k : Nat) (h : Rt z d k) (hk : k ≤ 4398046511104) : Cinf T n_thicketref01_Alike [canA z d, canA z d] = some (.v (.bool true), [.dead, .dead]) :=
  c_Alike (cbN z) (limbs (cnN z d)) (limbs (cdN z d)) (by have := h.num'; omega) (by have := h.den'; omega)
theorem canA_eq {z z' : Int} {d d' : Nat} (h : canR z d = canR z' d') : canA z d = canA z' d' := by
  unfold canR rat at h
  simp only [PV.agg.injEq, List.cons.injEq, and_true, PV.v.injEq, Value.bool.injEq, PV.own.injEq, true_and] at h
  unfold canA ratA
  rw [h.1, h.2.1, h.2.2]
theorem can_parts (z : Int) (d : Nat) : ∃ s n m, canR z d = rat s n m ∧ canA z d = ratA s (limbs n) (limbs m) := ⟨_, _, _, rfl, rfl⟩
set_option maxHeartbeats 2000000 in
theorem c_LimbsField (neg1 neg2 neg3 : Bool) (n1 d1 n2 d2 n3 d3 : List Nat) (h1 : Lim n1) (h2 : Lim d1) (h3 : Lim n2) (h4 : Lim d2) (h5 : Lim n3) (h6 : Lim d3) (l1 : n1.length ≤ 1048576) (l2 : d1.length ≤ 1048576) (l3 : n2.length ≤ 1048576) (l4 : d2.length ≤ 1048576) (l5 : n3.length ≤ 1048576) (l6 : d3.length ≤ 1048576) :
    ∃ backs, Cinf T n_thicketlaw01_LimbsField [ratA neg1 n1 d1, ratA neg2 n2 d2, ratA neg3 n3 d3] = some (.v (.bool true), backs) := by
  have k1 := Nat.le_trans (limbs_len h1) l1
  have k2 := Nat.le_trans (limbs_len h2) l2
  have k3 := Nat.le_trans (limbs_len h3) l3
  have k4 := Nat.le_trans (limbs_len h4) l4
  have k5 := Nat.le_trans (limbs_len h5) l5
  have k6 := Nat.le_trans (limbs_len h6) l6
  have o1 := c_Over neg1 n1 d1 ⟨h1, by omega⟩ ⟨h2, by omega⟩
  have o2 := c_Over neg2 n2 d2 ⟨h3, by omega⟩ ⟨h4, by omega⟩
  have o3 := c_Over neg3 n3 d3 ⟨h5, by omega⟩ ⟨h6, by omega⟩
  have e1 := c_Len d1 ⟨h2, by omega⟩
  have e2 := c_Len d2 ⟨h4, by omega⟩
  have e3 := c_Len d3 ⟨h6, by omega⟩
  rw [run_thicketlaw01_LimbsField]
  by_cases c1 : val d1 = 0
  · rw [c1, overR_zero] at o1
    rw [c1, nbits_zero] at e1
    obtain ⟨s2, m2, p2, f2, ho2, _⟩ := ans_over (neg := neg2) (n := val n2) (d := val d2) (by omega) (by omega)
    obtain ⟨s3, m3, p3, f3, ho3, _⟩ := ans_over (neg := neg3) (n := val n3) (d := val d3) (by omega) (by omega)
    rw [ho2] at o2
    rw [ho3] at o3
    simp only [ratA, rat, limbs_zero, ul_nil, Int.natCast_zero] at *
    exact ⟨_, by simp [Run, c_lives, o1, o2, o3, e1]; rfl⟩
  have b1 : ¬ nbits (val d1) = 0 := fun h => c1 (nbits_eq_zero.1 h)
  rw [overR_pos _ _ c1] at o1
  by_cases c2 : val d2 = 0
  · rw [c2, overR_zero] at o2
    rw [c2, nbits_zero] at e2
    obtain ⟨s3, m3, p3, f3, ho3, _⟩ := ans_over (neg := neg3) (n := val n3) (d := val d3) (by omega) (by omega)
    rw [ho3] at o3
    simp only [ratA, canR, rat, limbs_zero, ul_nil, Int.natCast_zero] at *
    exact ⟨_, by simp [Run, c_lives, o1, o2, o3, e1, e2, b1]; rfl⟩
  have b2 : ¬ nbits (val d2) = 0 := fun h => c2 (nbits_eq_zero.1 h)
  rw [overR_pos _ _ c2] at o2
  by_cases c3 : val d3 = 0
  · rw [c3, overR_zero] at o3
    rw [c3, nbits_zero] at e3
    simp only [ratA, canR, rat, limbs_zero, ul_nil, Int.natCast_zero] at *
    exact ⟨_, by simp [Run, c_lives, o1, o2, o3, e1, e2, e3, b1, b2]; rfl⟩
  rw [overR_pos _ _ c3] at o3
  have rx : Rt (sg neg1 (val n1)) (val d1) 1048576 := ⟨by omega, by rw [sg_abs]; exact k1, k2⟩
  have ry : Rt (sg neg2 (val n2)) (val d2) 1048576 := ⟨by omega, by rw [sg_abs]; exact k3, k4⟩
  have rz : Rt (sg neg3 (val n3)) (val d3) 1048576 := ⟨by omega, by rw [sg_abs]; exact k5, k6⟩
  obtain ⟨X, hX⟩ : ∃ X, sg neg1 (val n1) = X := ⟨_, rfl⟩
  obtain ⟨Y, hY⟩ : ∃ X, sg neg2 (val n2) = X := ⟨_, rfl⟩
  obtain ⟨Z, hZ⟩ : ∃ X, sg neg3 (val n3) = X := ⟨_, rfl⟩
  obtain ⟨A, hA⟩ : ∃ X, val d1 = X := ⟨_, rfl⟩
  obtain ⟨B, hB⟩ : ∃ X, val d2 = X := ⟨_, rfl⟩
  obtain ⟨C, hC⟩ : ∃ X, val d3 = X := ⟨_, rfl⟩
  rw [hX, hA] at rx o1
  rw [hY, hB] at ry o2
  rw [hZ, hC] at rz o3
  have ryz := ry.plus rz
  have t1 := c_PlusC ry rz (by omega) (by omega)
  have t2 := c_TimesC rx ryz (by omega) (by omega)
  have rl := rx.times ryz
  have t3 := c_TimesC rx ry (by omega) (by omega)
  have rxy := rx.times ry
  have t4 := c_TimesC rx rz (by omega) (by omega)
  have rxz := rx.times rz
  have t5 := c_PlusC rxy rxz (by omega) (by omega)
  have rr := rxy.plus rxz
  have q1 : canR (X * Y * ((A * C : Nat) : Int) + X * Z * ((A * B : Nat) : Int)) (A * B * (A * C)) = canR (X * (Y * C + Z * B)) (A * (B * C)) := can_eq rr.pos rl.pos (by simp only [Int.natCast_mul]; grind)
  have a1 := c_AlikeC _ _ _ rl (by omega)
  have t6 := c_PlusC rx ry (by omega) (by omega)
  have rs := rx.plus ry
  have t7 := c_MinusC rs ry (by omega) (by omega)
  have rd := rs.plus ry.neg
  have q2 : canR ((X * B + Y * A) * (B : Nat) + -Y * ((A * B : Nat) : Int)) (A * B * B) = canR X A := can_eq rd.pos rx.pos (by simp only [Int.natCast_mul]; grind)
  have a2 := c_AlikeC _ _ _ rx (by omega)
  have t8 := c_ByC rx ry (by omega) (by omega)
  have t9 := c_Len (limbs (cnN Y B)) (fit_of ry.num' (by omega))
  rw [val_limbs] at t9
  rw [q1] at t5
  rw [q2] at t7
  by_cases y0 : Y = 0
  · rw [if_pos y0] at t8
    rw [(cn_zero ry.pos).2 y0, nbits_zero, limbs_zero, ul_nil] at t9
    have hcn := (cn_zero ry.pos).2 y0
    simp only [canA, ratA, canR, rat, hcn, limbs_zero, ul_nil, Int.natCast_zero] at *
    exact ⟨_, by simp [Run, c_lives, o1, o2, o3, t1, t2, t3, t4, t5, a1, t6, t7, a2, t8, t9]; rfl⟩
  · rw [if_neg y0] at t8
    obtain ⟨ye, e, t8, rq, hq⟩ := t8
    have t10 := c_TimesC rq ry (by omega) (by omega)
    have rp := rq.times ry
    have q3 : canR (ye * Y) (e * B) = canR X A := can_eq rp.pos rx.pos (by rw [Int.natCast_mul]; grind)
    rw [q3] at t10
    obtain ⟨w1, t11, hw1⟩ := c_OrderC rs rx (by omega) (by omega)
    have t12 := c_Whole 0 (by decide) (by decide)
    have h01 : canR 0 1 = rat (decide ((0 : Int) < 0)) (0 : Int).natAbs 1 := rfl
    rw [← h01] at t12
    have r0 : Rt 0 1 1 := ⟨by decide, by rw [Int.natAbs_zero, limbs_zero]; simp, by rw [limbs_one]; simp⟩
    obtain ⟨w2, t13, hw2⟩ := c_OrderC ry r0 (by omega) (by omega)
    have hs1 : sgnZ w1 = sgnZ Y := by
      have i1 := pos_cast rs.pos
      have i2 := pos_cast rx.pos
      have i3 := pos_cast (can_val (X * B + Y * A) rs.pos).2
      have i4 := pos_cast (can_val X rx.pos).2
      refine sgn_of (a := ((A * B : Nat) : Int) * A) (b := (A : Int) * A * (cdN (X * B + Y * A) (A * B) * cdN X A)) (Int.mul_pos i1 i2) (Int.mul_pos (Int.mul_pos i2 i2) (Int.mul_pos i3 i4)) ?_
      rw [hw1, Int.natCast_mul]
      grind
    have hs2 : sgnZ w2 = sgnZ Y := by
      have i1 := pos_cast ry.pos
      have i3 := pos_cast (can_val Y ry.pos).2
      have i4 := pos_cast (can_val 0 (d := 1) (by decide)).2
      refine sgn_of (a := (B : Int) * ((1 : Nat) : Int)) (b := (cdN Y B : Int) * cdN 0 1) (Int.mul_pos i1 (by decide)) (Int.mul_pos i3 i4) ?_
      rw [hw2]
      simp
    rw [hs1] at t11
    rw [hs2] at t13
    clear hs1 hs2 hw1 hw2 hq q1 q2 q3 h01
    obtain ⟨bx, nx, dx, x1, x2⟩ := can_parts X A
    obtain ⟨b_y, ny, dy, y1, y2⟩ := can_parts Y B
    obtain ⟨bz, nz, dz, z1, z2⟩ := can_parts Z C
    obtain ⟨byz, nyz, dyz, u1, u2⟩ := can_parts (Y * (C : Nat) + Z * (B : Nat)) (B * C)
    obtain ⟨bl, nl, dl, v1, v2⟩ := can_parts (X * (Y * (C : Nat) + Z * (B : Nat))) (A * (B * C))
    obtain ⟨bxy, nxy, dxy, f1, f2⟩ := can_parts (X * Y) (A * B)
    obtain ⟨bxz, nxz, dxz, g1, g2⟩ := can_parts (X * Z) (A * C)
    obtain ⟨bs, ns, ds, s1, s2⟩ := can_parts (X * (B : Nat) + Y * (A : Nat)) (A * B)
    obtain ⟨bq, nq, dq, p1, p2⟩ := can_parts ye e
    obtain ⟨b0, n0, d0, m1, m2⟩ := can_parts 0 1
    simp only [x1, x2, y1, y2, z1, z2, u1, u2, v1, v2, f1, f2, g1, g2, s1, s2, p1, p2, m1, m2] at o1 o2 o3 t1 t2 t3 t4 t5 a1 t6 t7 a2 t8 t10 t11 t12 t13
    clear x1 x2 y1 y2 z1 z2 u1 u2 v1 v2 f1 f2 g1 g2 s1 s2 p1 p2 m1 m2 rx ry rz ryz rl rxy rxz rr rs rd rq rp r0 t9 e1 e2 e3 hX hY hZ hA hB hC
    simp only [ratA, rat] at *
    exact ⟨_, by simp [Run, c_lives, o1, o2, o3, t1, t2, t3, t4, t5, a1, t6, t7, a2, t8, t10, t11, t12, t13]; rfl⟩
end Go.AM.F

/- The document's division; greatest common divisors; every DivMod and Gcd. No conditions. -/
import Derived.Test.YtfkgoofipbbhpaaDoorL26
namespace Go.AM.F
open Go Go.AM
set_option maxRecDepth 10000
set_option linter.unusedSimpArgs false
attribute [local simp] j0_thicketref01_DivMod j1_thicketref01_DivMod w0_thicketref01_DivMod j2_thicketref01_DivMod j3_thicketref01_DivMod j4_thicketref01_DivMod w1_thicketref01_DivMod j5_thicketref01_DivMod j6_thicketref01_DivMod j7_thicketref01_DivMod b_thicketref01_DivMod a_thicketref01_DivMod
theorem shl_one_32 {r P : Nat} (hr : r < 32) (hP : 2 ^ r = P) : binInt .shl .u32 1 r = some (.int .u32 (P : Nat)) := by
  have h1 : ¬ (r : Int) < 0 := by omega
  have h2 : P < 4294967296 := by have := pow31 hr; omega
  rw [binInt_shl, if_neg h1, Int.toNat_natCast, show IntKind.u32.bits = 32 from rfl, Nat.min_eq_left (by omega), show (1 : Int) * 2 ^ r = ((2 ^ r : Nat) : Int) by simp, hP, u32_nat h2]
def rdE (x y q : List Nat) (R k : Nat) (x74 x79 x82 x83 : PV) : Env := [(7, .own 1 (ul x)), (8, .own 1 (ul y)), (9, .own 1 (ul q)), (12, .own 1 (ul (limbs R))), (13, .v (.int .i64 ((k : Int) - 1))), (15, .dead), (17, .dead), (23, .dead), (74, x74), (79, x79), (82, x82), (83, x83)]
theorem rdm_step (x y q : List Nat) (k R R' : Nat) (x74 x79 x82 x83 : PV) (hx : Fit x) (b : Bool) (hk32 : (k : Int) < 9223372036854775808) (hb : (val x).testBit k = b) (hyf : Fit y) (hRf : Fit (limbs R)) (hRl : (limbs R).length + 1 ≤ 1099511627776) (hR' : 2 * R + b.toNat = R') (hRf' : Fit (limbs R')) {Y j w P : Nat} (hY : val y = Y)
    (hj : k / 32 = j) (hjq : j < q.length) (hw : q[j] = w) (hP : 2 ^ (k % 32) = P) (hor : ¬ R' < Y → w ||| P = w + P) (hwl : ¬ R' < Y → w + P < 4294967296) :
    ∃ z74 z79 z82 z83, Exec T l1_thicketref01_DivMod (rdE x y q R (k + 1) x74 x79 x82 x83) = Exec T l1_thicketref01_DivMod (rdE x y (if R' < Y then q else q.set j (w + P)) (if R' < Y then R' else R' - Y) k z74 z79 z82 z83) := by
  have h1 := c_rBit x hx k hk32
  have h1b : bitV x k = b := by unfold bitV; simp [hb]
  rw [h1b] at h1
  have h2 := c_double (limbs R) hRf hRl b
  rw [val_limbs, hR'] at h2
  have h3 := c_rCmp (limbs R') y hRf' hyf
  have h4 := c_rSub (limbs R') y hRf' hyf
  rw [val_limbs, hY] at h3 h4
  have w1 : IntKind.i64.wrap ((k : Int) - 1) = (k : Int) - 1 := by rw [wrap_i64] <;> omega
  by_cases hlt : R' < Y
  · rw [if_pos hlt, if_pos hlt]
    rw [cmp_lt hlt] at h3
    refine ⟨?z1, ?z2, ?z3, ?z4, ?_⟩
    rotate_left 4
    rw [ex1_thicketref01_DivMod]
    unfold rdE
    rw [show ((k + 1 : Nat) : Int) - 1 = (k : Int) by omega]
    simp [h1, h2, h3, w1]
    rfl
  · rw [if_neg hlt, if_neg hlt]
    have hcn : ¬ cmpN R' Y < 0 := by
      unfold cmpN
      rw [if_neg hlt]
      split <;> decide
    have hcn2 : 0 ≤ cmpN R' Y := by omega
    unfold subR at h4
    rw [if_neg hlt] at h4
    have hr : k % 32 < 32 := Nat.mod_lt _ (by decide)
    have hsh := shl_one_32 hr hP
    have hwq : w < 4294967296 := by have := hwl hlt; omega
    have hPl : P < 4294967296 := by have := hwl hlt; omega
    have h5 := or32 hwq hPl (hor hlt) (hwl hlt)
    have q1 : (k : Int).tdiv 32 = (j : Nat) := by rw [← hj]; rfl
    have q2 : (k : Int).tmod 32 = ((k % 32 : Nat) : Int) := rfl
    have w2 : IntKind.i64.wrap (j : Int) = j := by rw [wrap_i64] <;> omega
    obtain ⟨r, hre⟩ : ∃ r, k % 32 = r := ⟨_, rfl⟩
    rw [hre] at q2 hsh hr
    have w3 := u64_nat (k := r) (by omega)
    refine ⟨?y1, ?y2, ?y3, ?y4, ?_⟩
    rotate_left 4
    rw [ex1_thicketref01_DivMod]
    unfold rdE
    rw [show ((k + 1 : Nat) : Int) - 1 = (k : Int) by omega, ← ul_set]
    simp at q1
    simp [-binInt_shl, -binInt_or, h1, h2, h3, h4, w1, hcn2, q1, q2, w2, w3, hsh, h5, hjq, hw, ul_set]
    rfl
theorem rdm_loop (x y : List Nat) (hx : Fit x) (hxl : x.length ≤ 17179869184) (hyf : Fit y) {Y : Nat} (hY : val y = Y) (hYp : 0 < Y) (hyl : y.length + 3 ≤ 1099511627776) : ∀ (k : Nat) (q : List Nat) (x74 x79 x82 x83 : PV), k ≤ 32 * x.length → q.length = x.length → Lim q → val q = 2 ^ k * (val x / 2 ^ k / Y) →
    ∃ (q' : List Nat) (z74 z79 z82 z83 : PV), Exec T l1_thicketref01_DivMod (rdE x y q (val x / 2 ^ k % Y) k x74 x79 x82 x83) = some (.exit 2, rdE x y q' (val x % Y) 0 z74 z79 z82 z83) ∧ Lim q' ∧ q'.length = x.length ∧ val q' = val x / Y := by
  intro k
  induction k with
  | zero =>
    intro q x74 x79 x82 x83 hk hq hl hv
    refine ⟨q, x74, x79, x82, x83, ?_, hl, hq, by simpa using hv⟩
    rw [ex1_thicketref01_DivMod]
    simp [rdE]
  | succ k ih =>
    intro q x74 x79 x82 x83 hk hq hl hv
    obtain ⟨X, hX⟩ : ∃ X, val x / 2 ^ (k + 1) = X := ⟨_, rfl⟩
    have hstep : val x / 2 ^ k = 2 * X + ((val x).testBit k).toNat := by
      rw [← hX, Nat.pow_succ, ← Nat.div_div_eq_div_mul, Nat.testBit_eq_decide_div_mod_eq]
      have : ((decide (val x / 2 ^ k % 2 = 1)).toNat) = val x / 2 ^ k % 2 := by
        rcases Nat.mod_two_eq_zero_or_one (val x / 2 ^ k) with h | h <;> simp [h]
      rw [this]
      omega
    obtain ⟨b, hb⟩ : ∃ b, (val x).testBit k = b := ⟨_, rfl⟩
    rw [hb] at hstep
    have hRlt : X % Y < Y := Nat.mod_lt _ hYp
    obtain ⟨Q, hQ⟩ : ∃ Q, X / Y = Q := ⟨_, rfl⟩
    obtain ⟨R, hR⟩ : ∃ R, X % Y = R := ⟨_, rfl⟩
    have hdm := Nat.div_add_mod X Y
    rw [hX, hQ] at hv
    rw [hQ, hR] at hdm
    rw [hR] at hRlt
    obtain ⟨R', hR'⟩ : ∃ R', 2 * R + b.toNat = R' := ⟨_, rfl⟩
    have hbl := Bool.toNat_le b
    have hYl := val_lt hyf.1
    rw [hY] at hYl
    have hlen : ∀ r, r < 2 * Y → (limbs r).length ≤ y.length + 1 := fun r hr => limbs_len_le (by
      rw [Nat.pow_succ]
      omega)
    have hfit : ∀ r, r < 2 * Y → Fit (limbs r) := fun r hr => ⟨limbs_lim r, by have := hlen r hr; omega⟩
    have hjq : k / 32 < q.length := by omega
    obtain ⟨w, hw⟩ : ∃ w, q[k / 32] = w := ⟨_, rfl⟩
    obtain ⟨hor, hwl⟩ := bit_word hl hjq hv hw
    obtain ⟨z74, z79, z82, z83, hs⟩ := rdm_step x y q k R R' x74 x79 x82 x83 hx b (by omega) hb hyf (hfit R (by omega)) (by have := hlen R (by omega); omega) hR' (hfit R' (by omega)) hY rfl hjq hw rfl (fun _ => hor) (fun _ => hwl)
    rw [hX, hR, hs]
    have hXk : val x / 2 ^ k = Y * (2 * Q) + R' := by
      rw [hstep, ← hdm, ← hR', Nat.mul_left_comm]
      omega
    by_cases hlt : R' < Y
    · rw [if_pos hlt, if_pos hlt]
      have e1 : val x / 2 ^ k % Y = R' := by rw [hXk, Nat.mul_add_mod, Nat.mod_eq_of_lt hlt]
      have e2 : val x / 2 ^ k / Y = 2 * Q := by rw [hXk, Nat.mul_add_div hYp, Nat.div_eq_of_lt hlt, Nat.add_zero]
      have := ih q z74 z79 z82 z83 (by omega) hq hl (by rw [e2, hv, Nat.pow_succ, Nat.mul_assoc])
      rw [e1] at this
      exact this
    · rw [if_neg hlt, if_neg hlt]
      obtain ⟨S, hS⟩ : ∃ S, R' = Y + S := ⟨R' - Y, by omega⟩
      have hSl : S < Y := by omega
      have hXk2 : val x / 2 ^ k = Y * (2 * Q + 1) + S := by rw [hXk, hS, Nat.mul_add Y, Nat.mul_one]; omega
      have e1 : val x / 2 ^ k % Y = R' - Y := by rw [hXk2, Nat.mul_add_mod, Nat.mod_eq_of_lt hSl]; omega
      have e2 : val x / 2 ^ k / Y = 2 * Q + 1 := by rw [hXk2, Nat.mul_add_div hYp, Nat.div_eq_of_lt hSl, Nat.add_zero]
      have hset := val_set hjq (w + 2 ^ (k % 32))
      rw [hw, Nat.mul_add] at hset
      have hval : val (q.set (k / 32) (w + 2 ^ (k % 32))) = 2 ^ k * (2 * Q + 1) := by
        rw [Nat.mul_add, Nat.mul_one, ← Nat.mul_assoc, ← Nat.pow_succ, ← hv, pow_split k]
        omega
      have := ih (q.set (k / 32) (w + 2 ^ (k % 32))) z74 z79 z82 z83 (by omega) (by simpa using hq) (hl.set hwl) (by rw [e2, hval])
      rw [e1] at this
      exact this
theorem c_rDivMod (a b : List Nat) (ha : Fit a) (hb : Fit b) (hal : a.length ≤ 17179869184) (hbl : b.length + 3 ≤ 1099511627776) : Cinf T n_thicketref01_DivMod [.ro 1 (ul a), .ro 1 (ul b)] = some (divR (val a) (val b), [.dead, .dead]) := by
  have t1 := c_rNorm a ha
  have t2 := c_rNorm b hb
  have la := limbs_len ha.1
  have lb := limbs_len hb.1
  obtain ⟨A, hA⟩ : ∃ A, val a = A := ⟨_, rfl⟩
  obtain ⟨B, hB⟩ : ∃ B, val b = B := ⟨_, rfl⟩
  have fa := ha.limbs
  have fb := hb.limbs
  rw [hA] at t1 fa la ⊢
  rw [hB] at t2 fb lb ⊢
  rw [run_thicketref01_DivMod]
  by_cases hb0 : B = 0
  · subst hb0
    rw [limbs_zero] at t2
    simp at t2
    simp [Run, t1, t2, divR]
  rw [divR_pos hb0]
  obtain ⟨n, y, hn, hnl, hny, hyl, hy0, _⟩ := limbs_top hb0
  have hnB : ¬ limbs B = [] := by intro h; rw [h] at hnl; simp at hnl
  have fal := fa.2
  have fbl := fb.2
  have hzl : Lim (List.replicate (limbs A).length 0) := fun y hy => by rw [(List.mem_replicate.1 hy).2]; omega
  have hur : ul (List.replicate (limbs A).length 0) = List.replicate (limbs A).length (.v (.int .u32 0)) := by simp [ul]
  by_cases h1 : n = 0
  · subst h1
    have hBy : limbs B = [y] := by
      match hL : limbs B, hnl with
      | [z], _ => simp only [hL, List.getElem_cons_zero] at hny; rw [hny]
    have hBv : B = y := by
      have := val_limbs B
      rw [hBy] at this
      simpa [val] using this.symm
    subst hBv
    obtain ⟨q', r', k0, k1, k2, k3, k4⟩ := rone_loop (limbs A) fa B hyl hy0 (limbs A).length (List.replicate (limbs A).length 0) 0 (Nat.le_refl _) (by simp) hzl (by omega) (by simp [val])
    rw [val_limbs] at k4
    have hd : A / B = val q' := by rw [k4, Nat.mul_add_div (by omega), Nat.div_eq_of_lt k3, Nat.add_zero]
    have hm : A % B = r' := by rw [k4, Nat.mul_add_mod, Nat.mod_eq_of_lt k3]
    have t3 := c_rNorm q' ⟨k1, by omega⟩
    have t4 := c_rFrom r' (by omega)
    rw [hur] at k0
    simp only [Int.natCast_zero] at k0
    rw [hd, hm]
    rw [hBy] at t2
    generalize limbs A = l at *
    have w : IntKind.i64.wrap ((l.length : Int) - 1) = (l.length : Int) - 1 := by rw [wrap_i64] <;> omega
    have e1 : (l.length : Int) * 4 ≤ 281474976710656 := by omega
    have e2 : l.length ≤ 4611686018427387904 := by omega
    simp at k0 t2
    simp [Run, t1, t2, e1, e2, w, k0, t3, t4]
  · have hX : A / 2 ^ (32 * (limbs A).length) = 0 := by
      rw [Nat.div_eq_zero_iff]
      right
      have := val_lt (limbs_lim A)
      rw [val_limbs] at this
      rwa [Nat.pow_mul]
    have hR0 : val (limbs A) / 2 ^ (32 * (limbs A).length) % val (limbs B) = 0 := by rw [val_limbs, hX, Nat.zero_mod]
    obtain ⟨q', z74, z79, z82, z83, k0, k1, k2, k3⟩ := rdm_loop (limbs A) (limbs B) fa (by omega) fb rfl (by rw [val_limbs]; omega) (by omega) (32 * (limbs A).length) (List.replicate (limbs A).length 0) .dead .dead .dead .dead (Nat.le_refl _) (by simp) hzl (by rw [val_zeros, val_limbs, hX]; simp)
    rw [hR0] at k0
    rw [val_limbs, val_limbs] at k0 k3
    have t3 := c_rNorm q' ⟨k1, by omega⟩
    rw [k3] at t3
    obtain ⟨N, hN⟩ : ∃ N, 32 * (limbs A).length = N := ⟨_, rfl⟩
    rw [hN] at k0
    simp only [rdE, limbs_zero, ul_nil, hur, Int.natCast_zero] at k0
    have w1 : IntKind.i64.wrap (32 * ((limbs A).length : Int)) = (N : Int) := by rw [wrap_i64] <;> omega
    have w2 : IntKind.i64.wrap ((N : Int) - 1) = (N : Int) - 1 := by rw [wrap_i64] <;> omega
    have e0 : ¬ (limbs B).length = 1 := by omega
    have e1 : ((limbs A).length : Int) * 4 ≤ 281474976710656 := by omega
    have e2 : (limbs A).length ≤ 4611686018427387904 := by omega
    simp [Run, t1, t2, e1, e2, e0, hnB, w1, w2, k0, t3]
end Go.AM.F

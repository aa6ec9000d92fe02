/- Greatest common divisors; every DivMod and Gcd. No conditions. -/
import Derived.Test.YtlokekpiajholaaDoorL27
namespace Go.AM.F
open Go Go.AM
set_option maxRecDepth 10000
set_option linter.unusedSimpArgs false
attribute [local simp] j0_limbs_Gcd w0_limbs_Gcd j1_limbs_Gcd b_limbs_Gcd a_limbs_Gcd
def gcE (a b : List Nat) (x6 x9 x11 x15 x18 x20 x22 x23 : PV) : Env := [(0, .own 1 (ul a)), (1, .own 1 (ul b)), (6, x6), (9, x9), (11, x11), (15, x15), (18, x18), (20, x20), (22, x22), (23, x23)]
theorem gcd_step (A B : Nat) (hA : Fit (limbs A)) (hB : Fit (limbs B)) (h0 : B ≠ 0) (x6 x9 x11 x15 x18 x20 x22 x23 : PV) :
    ∃ z6 z9 z11 z15 z18 z20 z22 z23, Exec T l0_limbs_Gcd (gcE (limbs A) (limbs B) x6 x9 x11 x15 x18 x20 x22 x23) = Exec T l0_limbs_Gcd (gcE (limbs B) (limbs (A % B)) z6 z9 z11 z15 z18 z20 z22 z23) := by
  have h1 := c_DivMod (limbs A) (limbs B) hA hB
  rw [val_limbs, val_limbs, divR_pos h0] at h1
  have h2 : ¬ limbs B = [] := by rw [limbs_pos h0]; simp
  have h3 : 0 < (limbs B).length := List.length_pos_iff.2 h2
  refine ⟨?z6, ?z9, ?z11, ?z15, ?z18, ?z20, ?z22, ?z23, ?_⟩
  rotate_left 8
  rw [ex0_limbs_Gcd]
  unfold gcE
  simp [h1, h2, h3]
  rfl
theorem gcd_loop : ∀ (B A : Nat), Fit (limbs A) → Fit (limbs B) → ∀ (x6 x9 x11 x15 x18 x20 x22 x23 : PV), ∃ z6 z9 z11 z15 z18 z20 z22 z23, Exec T l0_limbs_Gcd (gcE (limbs A) (limbs B) x6 x9 x11 x15 x18 x20 x22 x23) = some (.exit 0, gcE (limbs (Nat.gcd A B)) [] z6 z9 z11 z15 z18 z20 z22 z23) := by
  intro B
  induction B using Nat.strongRecOn with
  | _ B ih =>
    intro A hA hB x6 x9 x11 x15 x18 x20 x22 x23
    by_cases h0 : B = 0
    · subst h0
      rw [limbs_zero, Nat.gcd_zero_right]
      refine ⟨x6, x9, x11, x15, x18, x20, x22, x23, ?_⟩
      rw [ex0_limbs_Gcd]
      simp [gcE]
    · have hlt : A % B < B := Nat.mod_lt _ (by omega)
      have hm := limbs_mono (m := A % B) (n := B) (by omega)
      obtain ⟨z6, z9, z11, z15, z18, z20, z22, z23, hs⟩ := gcd_step A B hA hB h0 x6 x9 x11 x15 x18 x20 x22 x23
      have hB2 := hB.2
      obtain ⟨w6, w9, w11, w15, w18, w20, w22, w23, hw⟩ := ih (A % B) hlt B hB ⟨limbs_lim _, by omega⟩ z6 z9 z11 z15 z18 z20 z22 z23
      refine ⟨w6, w9, w11, w15, w18, w20, w22, w23, ?_⟩
      rw [hs, hw, Nat.gcd_comm B (A % B), ← Nat.gcd_rec, Nat.gcd_comm]
theorem c_Gcd (a b : List Nat) (ha : Fit a) (hb : Fit b) : Cinf T n_limbs_Gcd [.ro 1 (ul a), .ro 1 (ul b)] = some (.own 1 (ul (limbs (Nat.gcd (val a) (val b)))), [.dead, .dead]) := by
  have t1 := c_Norm a ha
  have t2 := c_Norm b hb
  have la := limbs_len ha.1
  have lb := limbs_len hb.1
  obtain ⟨z6, z9, z11, z15, z18, z20, z22, z23, hs⟩ := gcd_loop (val b) (val a) ha.limbs hb.limbs .dead .dead .dead .dead .dead .dead .dead .dead
  simp only [gcE] at hs
  rw [run_limbs_Gcd]
  simp [Run, t1, t2, hs]
def rgcE (a b : List Nat) (x8 x11 x13 x17 x20 x22 x24 x25 : PV) : Env := [(5, .own 1 (ul a)), (6, .own 1 (ul b)), (8, x8), (11, x11), (13, x13), (17, x17), (20, x20), (22, x22), (24, x24), (25, x25)]
theorem limbs_le {v : Nat} {l : List Nat} (hl : Lim l) (h : v ≤ val l) : (limbs v).length ≤ l.length := Nat.le_trans (limbs_mono h) (limbs_len hl)
theorem limbs_gcd_len {a b : List Nat} (ha : Lim a) (hb : Lim b) : (limbs (Nat.gcd (val a) (val b))).length ≤ a.length + b.length := by
  rcases Nat.eq_zero_or_pos (val a) with h | h
  · rw [h, Nat.gcd_zero_left]
    have := limbs_len hb
    omega
  · have := limbs_le ha (Nat.gcd_le_left (val b) h)
    omega
end Go.AM.F

/- Naturals compared. No conditions. -/
import Derived.Test.YtlokekpiajholaaDoorL4
namespace Go.AM.F
open Go Go.AM
set_option maxRecDepth 10000
set_option linter.unusedSimpArgs false
attribute [local simp] j0_limbs_Cmp j1_limbs_Cmp j2_limbs_Cmp w0_limbs_Cmp j3_limbs_Cmp j4_limbs_Cmp b_limbs_Cmp a_limbs_Cmp
theorem val_split {l : List Nat} {k : Nat} (h : k < l.length) : val l = val (l.take k) + 4294967296 ^ k * (l[k] + 4294967296 * val (l.drop (k + 1))) := by
  have h1 : l = l.take k ++ (l[k] :: l.drop (k + 1)) := by rw [← List.drop_eq_getElem_cons h, List.take_append_drop]
  have h2 : (l.take k).length = k := by simp; omega
  conv => lhs; rw [h1]
  rw [val_append, h2]
  rfl
theorem cmp_at {a b : List Nat} (ha : Lim a) {k : Nat} (hka : k < a.length) (hkb : k < b.length) (hd : a.drop (k + 1) = b.drop (k + 1)) (h : a[k] < b[k]) : val a < val b := by
  rw [val_split hka, val_split hkb, hd]
  have h1 := val_lt (ha.take k)
  have h2 : (a.take k).length = k := by simp; omega
  rw [h2] at h1
  have h3 : 4294967296 ^ k * (a[k] + 4294967296 * val (b.drop (k + 1)) + 1) ≤ 4294967296 ^ k * (b[k] + 4294967296 * val (b.drop (k + 1))) := Nat.mul_le_mul_left _ (by omega)
  rw [Nat.mul_add (4294967296 ^ k) _ 1, Nat.mul_one] at h3
  omega
theorem limbs_lt {m n : Nat} (h : (limbs m).length < (limbs n).length) : m < n := by
  refine Nat.lt_of_not_le fun hle => ?_
  have h1 := val_lt (limbs_lim m)
  rw [val_limbs] at h1
  have := limbs_len_le (n := n) (k := (limbs m).length) (by omega)
  omega
def cmpN (m n : Nat) : Int := if m < n then -1 else if m = n then 0 else 1
def cR (z : Int) : Option (Out × Env) := some (.ret, [(4, .v (.int .i64 z))])
theorem cmp_loop (a b : List Nat) (ha : Lim a) (hb : Lim b) (hl : a.length ≤ 1099511627776) (hab : a.length = b.length) (x7 x9 : PV) : ∀ (k : Nat), k ≤ a.length → a.drop k = b.drop k →
    andThen (inBlock 0 (Exec T l0_limbs_Cmp [(0, .ro 1 (ul a)), (1, .ro 1 (ul b)), (5, .v (.int .i64 ((k : Int) - 1))), (7, x7), (9, x9)])) (Exec T k3_limbs_Cmp) = cR (cmpN (val a) (val b)) := by
  intro k
  induction k with
  | zero =>
    intro _ hd
    have : a = b := by simpa using hd
    subst this
    rw [ex0_limbs_Cmp]
    simp [cR, cmpN]
  | succ k ih =>
    intro hk hd
    have hka : k < a.length := by omega
    have hkb : k < b.length := by omega
    rw [ex0_limbs_Cmp]
    obtain ⟨x, hx⟩ : ∃ x, a[k] = x := ⟨_, rfl⟩
    obtain ⟨y, hy⟩ : ∃ y, b[k] = y := ⟨_, rfl⟩
    have hw : IntKind.i64.wrap ((k : Int) - 1) = (k : Int) - 1 := by rw [wrap_i64] <;> omega
    by_cases h1 : x < y
    · have hv := cmp_at ha hka hkb hd (by rw [hx, hy]; exact h1)
      simp [cR, cmpN, hka, hkb, hx, hy, h1, hv]
    · by_cases h2 : y < x
      · have hv := cmp_at hb hkb hka hd.symm (by rw [hx, hy]; exact h2)
        have n1 : ¬ val a < val b := by omega
        have n2 : ¬ val a = val b := by omega
        simp [cR, cmpN, hka, hkb, hx, hy, h1, h2, n1, n2]
      · have hxy : x = y := by omega
        have h0 := ih (by omega) (by rw [List.drop_eq_getElem_cons hka, List.drop_eq_getElem_cons hkb, hd, hx, hy, hxy])
        rw [← h0]
        simp [hka, hkb, hx, hy, hxy, hw]
theorem cmp_lt {m n : Nat} (h : m < n) : cmpN m n = -1 := by unfold cmpN; rw [if_pos h]
theorem cmp_gt {m n : Nat} (h : n < m) : cmpN m n = 1 := by unfold cmpN; rw [if_neg (by omega), if_neg (by omega)]
theorem c_Cmp (a b : List Nat) (ha : Fit a) (hb : Fit b) : Cinf T n_limbs_Cmp [.ro 1 (ul a), .ro 1 (ul b)] = some (.v (.int .i64 (cmpN (val a) (val b))), [.dead, .dead]) := by
  have t1 := c_trim a ha.2
  have t2 := c_trim b hb.2
  rw [← limbs_val ha.1] at t1
  rw [← limbs_val hb.1] at t2
  have l1 := limbs_len ha.1
  have hal := ha.2
  have f1 := limbs_lim (val a)
  have f2 := limbs_lim (val b)
  have v1 := val_limbs (val a)
  have v2 := val_limbs (val b)
  have lt1 := fun h => limbs_lt (m := val a) (n := val b) h
  have lt2 := fun h => limbs_lt (m := val b) (n := val a) h
  generalize limbs (val a) = a' at t1 l1 f1 v1 lt1 lt2
  generalize limbs (val b) = b' at t2 f2 v2 lt1 lt2
  rw [run_limbs_Cmp]
  by_cases h1 : a'.length = b'.length
  · have h0 := cmp_loop a' b' f1 f2 (by omega) h1 (.ro 1 (ul a')) (.ro 1 (ul b')) a'.length (Nat.le_refl _) (by simp [h1])
    have hw : IntKind.i64.wrap ((a'.length : Int) - 1) = (a'.length : Int) - 1 := by rw [wrap_i64] <;> omega
    rw [v1, v2] at h0
    simp only [cR] at h0
    simp [-tl3_limbs_Cmp, Run, t1, t2, ← h1, hw, h0]
  · have h3 : ¬ (a'.length : Int) = b'.length := by omega
    by_cases h2 : a'.length < b'.length
    · rw [cmp_lt (lt1 h2)]
      simp [Run, t1, t2, h1, h2, h3]
    · rw [cmp_gt (lt2 (by omega))]
      simp [Run, t1, t2, h1, h2, h3]
end Go.AM.F

/- Powers of naturals; every Pow, Up, Down. No conditions. -/
import Derived.Test.YtlokekpiajholaaDoorL12
import Derived.Test.YtlokekpiajholaaDoorL18
namespace Go.AM.F
open Go Go.AM
set_option maxRecDepth 10000
set_option linter.unusedSimpArgs false
attribute [local simp] j0_limbs_Pow j1_limbs_Pow w0_limbs_Pow j2_limbs_Pow j3_limbs_Pow j4_limbs_Pow b_limbs_Pow a_limbs_Pow
theorem lt_nbits (v : Nat) : v < 2 ^ nbits v := by
  induction v using Nat.strongRecOn with
  | _ v ih =>
    by_cases h : v = 0
    · rw [h, nbits_zero]; decide
    · rw [nbits_pos h, Nat.pow_succ]
      have := ih (v / 2) (by omega)
      omega
theorem nbits_val {l : List Nat} (h : Lim l) : nbits (val l) ≤ 32 * l.length := by
  refine nbits_le ?_
  rw [Nat.pow_mul]
  exact val_lt h
theorem pow_fit {v n m : Nat} (h : nbits v * n ≤ 65536) (hm : m ≤ n) : Fit (limbs (v ^ m)) ∧ (limbs (v ^ m)).length ≤ 2049 := by
  have key : ∀ K, 65536 < 32 * K → (limbs (v ^ m)).length ≤ K := by
    intro K hK
    refine limbs_len_le ?_
    rw [show (4294967296 : Nat) = 2 ^ 32 from rfl, ← Nat.pow_mul]
    rcases Nat.eq_zero_or_pos v with h0 | h0
    · rw [h0]
      refine Nat.lt_of_le_of_lt (m := 1) ?_ (Nat.one_lt_two_pow (by omega))
      cases m with
      | zero => exact Nat.le_refl _
      | succ m => rw [Nat.zero_pow (Nat.succ_pos m)]; exact Nat.zero_le _
    · refine Nat.lt_of_le_of_lt (Nat.pow_le_pow_right h0 hm) ?_
      refine Nat.lt_of_le_of_lt (Nat.pow_le_pow_left (Nat.le_of_lt (lt_nbits v)) n) ?_
      rw [← Nat.pow_mul]
      exact Nat.pow_lt_pow_right (by decide) (by omega)
  have h1 := key 2049 (by decide)
  exact ⟨⟨limbs_lim _, by omega⟩, h1⟩
theorem shr_i64 (x r : Nat) (hr : r ≤ 64) : binInt .shr .i64 x r = some (.int .i64 (x / 2 ^ r : Nat)) := by
  have h1 : ¬ (r : Int) < 0 := by omega
  rw [binInt_shr, if_neg h1, Int.toNat_natCast, show IntKind.i64.bits = 64 from rfl, Nat.min_eq_left hr, show (2 : Int) ^ r = ((2 ^ r : Nat) : Int) by simp, Int.fdiv_eq_ediv_of_nonneg _ (Int.natCast_nonneg _)]
  rfl
theorem and1_i64 (y : Nat) (hy : y < 18446744073709551616) : binInt .and .i64 y 1 = some (.int .i64 (y % 2 : Nat)) := by
  have h1 : (BitVec.ofInt IntKind.i64.bits (y : Int)).toNat = y := bv64 y hy
  rw [binInt_and, BitVec.toNat_and, h1, show (BitVec.ofInt IntKind.i64.bits 1).toNat = 1 from rfl, Nat.and_one_is_mod, wrap_nat (by omega)]
theorem limbs_one : limbs 1 = [1] := by rw [limbs_pos (by decide), limbs_zero]
theorem pow_loop (l : List Nat) (h : Fit l) (n : Nat) (hs : nbits (val l) * n ≤ 65536) (hn : n ≤ 65536) : ∀ (k : Nat), k ≤ 17 →
    Exec T l0_limbs_Pow [(0, .ro 1 (ul l)), (1, .v (.int .i64 n)), (6, .own 1 (ul (limbs (val l ^ (n / 2 ^ k))))), (7, .v (.int .i64 ((k : Int) - 1))), (19, .dead), (26, .dead), (34, .dead)] =
      some (.exit 0, [(0, .ro 1 (ul l)), (1, .v (.int .i64 n)), (6, .own 1 (ul (limbs (val l ^ n)))), (7, .v (.int .i64 (-1))), (19, .dead), (26, .dead), (34, .dead)]) := by
  intro k
  induction k with
  | zero =>
    intro _
    rw [ex0_limbs_Pow, Nat.pow_zero, Nat.div_one]
    simp
  | succ k ih =>
    intro hk
    have h0 := ih (by omega)
    obtain ⟨m, hm⟩ : ∃ m, n / 2 ^ (k + 1) = m := ⟨_, rfl⟩
    obtain ⟨y, hy⟩ : ∃ y, n / 2 ^ k = y := ⟨_, rfl⟩
    have hym : y / 2 = m := by rw [← hy, ← hm, Nat.pow_succ, Nat.div_div_eq_div_mul]
    have hyn : y ≤ n := by rw [← hy]; exact Nat.div_le_self _ _
    have f1 := pow_fit (m := m) hs (by omega)
    have h1 := c_Mul _ _ f1.1 f1.1
    rw [val_limbs, ← Nat.pow_add] at h1
    have f2 := pow_fit (m := m + m) hs (by omega)
    have h2 := c_Mul _ _ f2.1 h
    rw [val_limbs, ← Nat.pow_succ] at h2
    have q1 := shr_i64 n k (by omega)
    rw [hy] at q1 h0
    have q2 := and1_i64 y (by omega)
    obtain ⟨z, hz⟩ : ∃ z, y % 2 = z := ⟨_, rfl⟩
    rw [hz] at q2
    have w1 : IntKind.i64.wrap ((k : Int) - 1) = (k : Int) - 1 := by rw [wrap_i64] <;> omega
    rw [hm, ex0_limbs_Pow, ← h0]
    by_cases hb : z = 1
    · have hye : (m + m).succ = y := by omega
      rw [hye] at h2
      rw [hb] at q2
      simp [-binInt_shr, -binInt_and, succ_cast, q1, q2, h1, h2, w1]
    · have hye : m + m = y := by omega
      rw [hye] at h1
      simp [-binInt_shr, -binInt_and, succ_cast, q1, q2, hb, h1, w1]
/-- What Pow answers. -/
def powR (v : Nat) (n : Int) : PV := if n < 0 ∨ 65536 < n then .tup [.own 1 [], .v (.int .i64 2)] else if 65536 < nbits v * n.toNat then .tup [.own 1 [], .v (.int .i64 3)] else .tup [.own 1 (ul (limbs (v ^ n.toNat))), .v (.int .i64 0)]
theorem c_Pow (l : List Nat) (h : Fit l) (hl : l.length ≤ 16777216) (n : Int) : Cinf T n_limbs_Pow [.ro 1 (ul l), .v (.int .i64 n)] = some (powR (val l) n, [.dead, .dead]) := by
  rw [run_limbs_Pow]
  unfold powR
  by_cases g1 : n < 0
  · simp [Run, g1]
  · by_cases g2 : 65536 < n
    · simp [Run, g1, g2]
    · obtain ⟨n, rfl⟩ : ∃ k : Nat, n = k := ⟨n.toNat, by omega⟩
      have g4 : ¬ 65536 < n := by omega
      have h1 := c_Len l h
      have hb := nbits_val h.1
      obtain ⟨L, hL⟩ : ∃ L, nbits (val l) = L := ⟨_, rfl⟩
      have hLn : L * n ≤ 536870912 * 65536 := Nat.mul_le_mul (by omega) (by omega)
      have hk : ∀ p, L * n = p → (L : Int) * n = (p : Nat) := fun p hp => by rw [← hp]; exact (Int.natCast_mul L n).symm
      rw [hL] at h1 ⊢
      obtain ⟨p, hp⟩ : ∃ p, L * n = p := ⟨_, rfl⟩
      have q1 := hk p hp
      have w1 : IntKind.i64.wrap (p : Int) = p := by rw [wrap_i64] <;> omega
      by_cases g5 : 65536 < p
      · simp [Run, g4, h1, q1, w1, g5, hp]
      · have k0 := pow_loop l h n (by rw [hL, hp]; omega) (by omega) 17 (by omega)
        have hz : n / 2 ^ 17 = 0 := Nat.div_eq_of_lt (by omega)
        rw [hz, Nat.pow_zero, limbs_one] at k0
        simp at k0
        simp [Run, g4, h1, q1, w1, g5, hp, k0]
/-- What the three answer: a natural that fits, and a fault's number. -/
def Ans (x : PV) : Prop := ∃ (l : List Nat) (e : Nat), x = .tup [.own 1 (ul l), .v (.int .i64 e)] ∧ l.length ≤ 4398046511104
theorem ans_none (e : Nat) : Ans (.tup [.own 1 [], .v (.int .i64 e)]) := ⟨[], e, rfl, by simp⟩
theorem ans_pow (v : Nat) (n : Int) : Ans (powR v n) := by
  unfold powR
  split
  · exact ans_none 2
  · rename_i h1
    split
    · exact ans_none 3
    · rename_i h2
      refine ⟨_, 0, rfl, ?_⟩
      have := (pow_fit (v := v) (n := n.toNat) (m := n.toNat) (by omega) (Nat.le_refl _)).2
      omega
theorem ans_up {l : List Nat} (h : Lim l) (hl : l.length ≤ 16777216) (n : Int) : Ans (upR (val l) n) := by
  unfold upR
  split
  · exact ans_none 2
  · rename_i h1
    refine ⟨_, 0, rfl, ?_⟩
    have key : ∀ K, n.toNat ≤ 32 * K → (limbs (val l * 2 ^ n.toNat)).length ≤ l.length + K := fun K hK => limbs_len_le (by
      rw [Nat.pow_add]
      refine Nat.mul_lt_mul_of_lt_of_le (val_lt h) ?_ (Nat.pow_pos (by decide))
      rw [show (4294967296 : Nat) = 2 ^ 32 from rfl, ← Nat.pow_mul]
      exact Nat.pow_le_pow_right (by decide) hK)
    have := key 32768 (by omega)
    omega
theorem ans_down {l : List Nat} (h : Lim l) (hl : l.length ≤ 16777216) (n : Int) : Ans (downR (val l) n) := by
  unfold downR
  split
  · exact ans_none 2
  · refine ⟨_, 0, rfl, ?_⟩
    have := limbs_len_le (n := val l / 2 ^ n.toNat) (k := l.length) (Nat.lt_of_le_of_lt (Nat.div_le_self _ _) (val_lt h))
    omega
end Go.AM.F

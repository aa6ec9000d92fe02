/- What binary64s' sums, products and whole numbers are; FixedNear. No conditions. -/
import Derived.Test.YtbghahcgjnlnlaaDoorF7
import Derived.KernelRfl
namespace Go.AM.F
open Go Go.AM
set_option maxRecDepth 10000
set_option linter.unusedSimpArgs false
set_option exponentiation.threshold 110000

theorem wrd_fields (neg : Bool) (r : Nat) (h : r < 9223372036854775808) : rg (wrd neg r) = r ∧ sgn (wrd neg r) = neg ∧ wrd neg r < 18446744073709551616 := by
  unfold rg sgn wrd
  cases neg with
  | true =>
    rw [if_pos (rfl : true = true), show (9223372036854775808 + r) / 9223372036854775808 = 1 by omega]
    exact ⟨by omega, rfl, by omega⟩
  | false =>
    rw [if_neg (by decide), show r / 9223372036854775808 = 0 by omega]
    exact ⟨by omega, rfl, by omega⟩
theorem dval_zero : dval 0 = 0 := rfl
theorem near_all (neg : Bool) (mag : Nat) (place : Int) (K p Y : Nat) (hp : place + 1074 + K = p) (hY : mag * 2 ^ p = Y * 2 ^ K) :
    ∃ ρ, Ieee.double.nearest neg mag place = wrd neg ρ ∧ Near Y ρ := by
  by_cases h : mag = 0
  · subst h
    have hY0 : Y = 0 := by
      rw [Nat.zero_mul] at hY
      rcases Nat.mul_eq_zero.1 hY.symm with h | h
      · exact h
      · have := Nat.two_pow_pos K; omega
    subst hY0
    refine ⟨0, ?_, ⟨?_, fun r _ => Nat.zero_le r, by decide⟩⟩
    · unfold Ieee.Format.nearest
      rw [if_pos rfl]
      unfold Ieee.Format.word wrd
      rw [double_sw]
    · intro r _ h
      rcases Nat.eq_zero_or_pos r with h0 | h0
      · omega
      · have := dval_lt h0
        omega
  · exact near_core neg mag h place K p Y hp hY
structure RN (Z : Int) (w : Nat) : Prop where
  ge : ∀ u, rg u < infR → sv u ≤ Z → sv u ≤ sv w
  le : ∀ u, rg u < infR → Z ≤ sv u → sv w ≤ sv u
  fin : ∀ r, r < infR → Z.natAbs ≤ dval r → rg w ≤ r
theorem RN_of {neg : Bool} {ρ Y : Nat} {Z : Int} (h : Near Y ρ) (hZ : (if neg = true then -(Y : Int) else Y) = Z) : RN Z (wrd neg ρ) := by
  have hf := h.fin
  have hi := infR_lt
  obtain ⟨e1, e2, _⟩ := wrd_fields neg ρ (by omega)
  refine ⟨?_, ?_, ?_⟩
  · intro u hu hl
    have h1 := h.ge (rg u) (by omega)
    have h2 := h.le (rg u)
    unfold sv at hl ⊢
    rw [e1, e2]
    subst hZ
    cases neg with
    | true =>
      rw [if_pos (rfl : true = true)] at hl ⊢
      cases hs : sgn u with
      | true =>
        rw [hs, if_pos (rfl : true = true)] at hl
        rw [if_pos (rfl : true = true)]
        have := dval_le.1 (h2 (by omega))
        omega
      | false =>
        rw [hs, if_neg Bool.false_ne_true] at hl
        rw [if_neg Bool.false_ne_true]
        have h3 := h.le 0
        rw [dval_zero] at h3
        have h4 := h3 (by omega)
        have h5 : ρ = 0 := by omega
        rw [h5, dval_zero]
        omega
    | false =>
      rw [if_neg Bool.false_ne_true] at hl ⊢
      cases hs : sgn u with
      | true => rw [if_pos (rfl : true = true)]; omega
      | false =>
        rw [hs, if_neg Bool.false_ne_true] at hl
        rw [if_neg Bool.false_ne_true]
        have := dval_le.1 (h1 (by omega))
        omega
  · intro u hu hl
    have h1 := h.ge (rg u) (by omega)
    have h2 := h.le (rg u)
    unfold sv at hl ⊢
    rw [e1, e2]
    subst hZ
    cases neg with
    | true =>
      rw [if_pos (rfl : true = true)] at hl ⊢
      cases hs : sgn u with
      | true =>
        rw [hs, if_pos (rfl : true = true)] at hl
        rw [if_pos (rfl : true = true)]
        have := dval_le.1 (h1 (by omega))
        omega
      | false => rw [if_neg Bool.false_ne_true]; omega
    | false =>
      rw [if_neg Bool.false_ne_true] at hl ⊢
      cases hs : sgn u with
      | true =>
        rw [hs, if_pos (rfl : true = true)] at hl
        rw [if_pos (rfl : true = true)]
        have h3 := h.le 0
        rw [dval_zero] at h3
        have h4 := h3 (by omega)
        have h5 : ρ = 0 := by omega
        rw [h5, dval_zero]
        omega
      | false =>
        rw [hs, if_neg Bool.false_ne_true] at hl
        rw [if_neg Bool.false_ne_true]
        have := dval_le.1 (h2 (by omega))
        omega
  · intro r _ hz
    rw [e1]
    refine h.le r ?_
    subst hZ
    cases neg <;> simp at hz <;> omega
theorem sum_RN (s t : Bool) (r q : Nat) : ∃ w, (Ieee.Datum.sum (.number s (dmag r) (-1074 + (dexp r : Int))) (.number t (dmag q) (-1074 + (dexp q : Int)))).map Ieee.double.write = some w ∧
    RN ((if s = true then -(dval r : Int) else dval r) + (if t = true then -(dval q : Int) else dval q)) w := by
  simp only [Ieee.Datum.sum, Option.map_some, Option.some.injEq, exists_eq_left', Ieee.Format.write]
  obtain ⟨b, hb⟩ : ∃ b, min (dexp r) (dexp q) = b := ⟨_, rfl⟩
  have e0 : min (-1074 + (dexp r : Int)) (-1074 + (dexp q : Int)) = -1074 + (b : Int) := by omega
  rw [e0, show (-1074 + (dexp r : Int) - (-1074 + (b : Int))).toNat = dexp r - b by omega, show (-1074 + (dexp q : Int) - (-1074 + (b : Int))).toNat = dexp q - b by omega]
  have h1 := signed_val s r b (by omega)
  have h2 := signed_val t q b (by omega)
  rw [← h1, ← h2, ← Int.add_mul]
  obtain ⟨X, hX⟩ : ∃ X, Ieee.signed s (dmag r) (dexp r - b) + Ieee.signed t (dmag q) (dexp q - b) = X := ⟨_, rfl⟩
  rw [hX]
  obtain ⟨ng, hng⟩ : ∃ ng, (if X = 0 then (s && t) else decide (X < 0)) = ng := ⟨_, rfl⟩
  rw [hng]
  obtain ⟨ρ, e, hρ⟩ := near_all ng X.natAbs (-1074 + (b : Int)) 0 b (X.natAbs * 2 ^ b) (by omega) (by rw [Nat.pow_zero, Nat.mul_one])
  rw [e]
  refine RN_of hρ ?_
  by_cases hx : X = 0
  · subst hx
    cases ng <;> simp
  · rw [if_neg hx] at hng
    subst hng
    rw [Int.natCast_mul]
    by_cases hn : X < 0
    · rw [decide_eq_true hn, if_pos (rfl : true = true), ← Int.neg_mul]
      congr 1
      omega
    · rw [decide_eq_false hn, if_neg (by decide)]
      congr 1
      omega
theorem f_add {x y : Nat} (hx : rg x < infR) (hy : rg y < infR) : ∃ w, FloatKind.f64.format.add x y = some w ∧ RN (sv x + sv y) w := by
  have h := sum_RN (sgn x) (sgn y) (rg x) (rg y)
  rw [← read_fin hx, ← read_fin hy] at h
  exact h
theorem f_sub {x y : Nat} (hx : rg x < infR) (hy : rg y < infR) : ∃ w, FloatKind.f64.format.sub x y = some w ∧ RN (sv x - sv y) w := by
  have h := sum_RN (sgn x) (!sgn y) (rg x) (rg y)
  have e : Ieee.Datum.number (!sgn y) (dmag (rg y)) (-1074 + (dexp (rg y) : Int)) = (Ieee.double.read y).opposite := by rw [read_fin hy]; rfl
  rw [← read_fin hx, e] at h
  have e2 : (if (!sgn y) = true then -(dval (rg y) : Int) else dval (rg y)) = -sv y := by
    unfold sv
    cases sgn y <;> simp
  rw [e2] at h
  exact h
/-- The word of a million. -/
theorem read_mio : Ieee.double.read 4696837146684686336 = .number false (1000000 * 8589934592) (-33) := by decide +kernel
theorem f_mul {x : Nat} (hx : rg x < infR) : ∃ w, FloatKind.f64.format.mul x 4696837146684686336 = some w ∧ RN (sv x * 1000000) w := by
  change ∃ w, ((Ieee.double.read x).product (Ieee.double.read 4696837146684686336)).map Ieee.double.write = some w ∧ _
  rw [read_mio, read_fin hx]
  simp only [Ieee.Datum.product, Option.map_some, Option.some.injEq, exists_eq_left', Ieee.Format.write, Bool.xor_false]
  obtain ⟨ρ, e, hρ⟩ := near_all (sgn x) (dmag (rg x) * (1000000 * 8589934592)) (-1074 + (dexp (rg x) : Int) + -33) 33 (dexp (rg x)) (dval (rg x) * 1000000) (by omega) (by
    unfold dval
    rw [show (2 : Nat) ^ 33 = 8589934592 by decide]
    generalize 2 ^ dexp (rg x) = P
    rw [Nat.mul_right_comm, Nat.mul_assoc (_ * P)])
  rw [e]
  refine RN_of hρ ?_
  unfold sv
  cases sgn x <;> simp
  · rw [Int.neg_mul]
/-- One. -/
def U : Nat := 2 ^ 1074
theorem U_pos : 0 < U := Nat.two_pow_pos _
theorem f_conv (a : Int) : RN (a * U) (FloatKind.f64.nearest a) := by
  change RN _ (Ieee.double.nearest (decide (a < 0)) a.natAbs 0)
  obtain ⟨ρ, e, hρ⟩ := near_all (decide (a < 0)) a.natAbs 0 0 1074 (a.natAbs * U) (by decide) (by unfold U; rw [Nat.pow_zero, Nat.mul_one])
  rw [e]
  refine RN_of hρ ?_
  rw [Int.natCast_mul]
  by_cases hn : a < 0
  · rw [decide_eq_true hn, if_pos (rfl : true = true), ← Int.neg_mul]
    congr 1
    omega
  · rw [decide_eq_false hn, if_neg (by decide)]
    congr 1
    omega
theorem rep (n : Nat) (hn : n < 9007199254740992) : ∃ r, r < infR ∧ dval r = n * U := by
  by_cases h0 : n = 0
  · subst h0
    exact ⟨0, by decide, by rw [Nat.zero_mul]; rfl⟩
  · have hlo := Nat.log2_self_le h0
    have hhi : n < 2 ^ (n.log2 + 1) := Nat.lt_log2_self
    have hl : n.log2 ≤ 52 := by
      rcases Nat.lt_or_ge 52 n.log2 with h | h
      · have : 2 ^ 53 ≤ 2 ^ n.log2 := Nat.pow_le_pow_right (by decide) h
        omega
      · exact h
    obtain ⟨l, hl'⟩ : ∃ l, n.log2 = l := ⟨_, rfl⟩
    rw [hl'] at hlo hhi hl
    obtain ⟨m, hm⟩ : ∃ m, n * 2 ^ (52 - l) = m := ⟨_, rfl⟩
    have m1 : 4503599627370496 ≤ m := by
      rw [← hm]
      calc 4503599627370496 = 2 ^ (l + (52 - l)) := by rw [show l + (52 - l) = 52 by omega]
        _ = 2 ^ l * 2 ^ (52 - l) := Nat.pow_add _ _ _
        _ ≤ n * 2 ^ (52 - l) := Nat.mul_le_mul_right _ hlo
    have m2 : m < 9007199254740992 := by
      rw [← hm]
      calc n * 2 ^ (52 - l) < 2 ^ (l + 1) * 2 ^ (52 - l) := Nat.mul_lt_mul_of_pos_right hhi (Nat.two_pow_pos _)
        _ = 2 ^ (l + 1 + (52 - l)) := (Nat.pow_add _ _ _).symm
        _ = 9007199254740992 := by rw [show l + 1 + (52 - l) = 53 by omega]
    have hi : infR = 9218868437227405312 := rfl
    refine ⟨(1074 - (52 - l)) * 4503599627370496 + m, by omega, ?_⟩
    have e1 : dexp ((1074 - (52 - l)) * 4503599627370496 + m) = 1074 - (52 - l) := by unfold dexp; omega
    have e2 : dmag ((1074 - (52 - l)) * 4503599627370496 + m) = m := by unfold dmag; rw [if_neg (by omega)]; omega
    unfold dval U
    rw [e1, e2, ← hm, Nat.mul_assoc, ← Nat.pow_add, show 52 - l + (1074 - (52 - l)) = 1074 by omega]
theorem repI (a : Int) (h : a.natAbs < 9007199254740992) : ∃ u, rg u < infR ∧ sv u = a * U := by
  obtain ⟨r, hr, hd⟩ := rep a.natAbs h
  have hi := infR_lt
  obtain ⟨e1, e2, _⟩ := wrd_fields (decide (a < 0)) r (by omega)
  refine ⟨wrd (decide (a < 0)) r, by rw [e1]; exact hr, ?_⟩
  unfold sv
  rw [e1, e2, hd, Int.natCast_mul]
  by_cases hn : a < 0
  · rw [decide_eq_true hn, if_pos (rfl : true = true), ← Int.neg_mul]
    congr 1
    omega
  · rw [decide_eq_false hn, if_neg (by decide)]
    congr 1
    omega
theorem huge : 1180591620717411303424 * U + U ≤ dval (infR - 1) := by decide +kernel
theorem d70 : dval (1093 * 4503599627370496) = 1180591620717411303424 * U := by decide +kernel
end Go.AM.F

/- JSON: the document's reader: numbers. No conditions. -/
import Derived.Test.YtkcnnifgdhabgaaDoorM1
namespace Go.AM.F
open Go Go.AM
set_option maxRecDepth 10000
set_option linter.unusedSimpArgs false

theorem tk_of {s : ByteArray} {p : Nat → Bool} (h : (List.range 256).all (fun c => inSet s c == p c) = true) (h0 : p 0 = false) (L : List UInt8) (i : Nat) : tk s L i = p (lt L i) := by
  unfold tk
  by_cases hi : i < L.length
  · have := List.all_eq_true.1 h (lt L i) (by simpa using lt_small L i)
    rw [beq_iff_eq] at this
    simp [hi, this]
  · rw [lt_end hi, h0]
    simp [hi]
theorem tk_minus (L : List UInt8) (i : Nat) : tk sMinus L i = (lt L i == 45) := tk_of (p := fun c => c == 45) (by kernel_rfl) rfl L i
theorem tk_zero (L : List UInt8) (i : Nat) : tk sZero L i = (lt L i == 48) := tk_of (p := fun c => c == 48) (by kernel_rfl) rfl L i
theorem tk_point (L : List UInt8) (i : Nat) : tk sPoint L i = (lt L i == 46) := tk_of (p := fun c => c == 46) (by kernel_rfl) rfl L i
theorem tk_exp (L : List UInt8) (i : Nat) : tk sExp L i = (lt L i == 101 || lt L i == 69) := tk_of (p := fun c => c == 101 || c == 69) (by kernel_rfl) rfl L i
theorem tk_sign (L : List UInt8) (i : Nat) : tk sSign L i = (lt L i == 43 || lt L i == 45) := tk_of (p := fun c => c == 43 || c == 45) (by kernel_rfl) rfl L i
theorem tk_end (L : List UInt8) (i : Nat) : tk sEnd L i = (lt L i == 93) := tk_of (p := fun c => c == 93) (by kernel_rfl) rfl L i
theorem tk_stop (L : List UInt8) (i : Nat) : tk sStop L i = (lt L i == 125) := tk_of (p := fun c => c == 125) (by kernel_rfl) rfl L i
theorem lt_pos {L : List UInt8} {i : Nat} (h : lt L i ≠ 0) : i < L.length := Classical.byContradiction fun hn => h (lt_end hn)
attribute [local simp] b_thicketref10_reading_number a_thicketref10_reading_number
def mTo (L : List UInt8) (a j : Nat) : ByteArray := tx ((L.drop a).take (j - a))
theorem num_end (L : List UInt8) (a j w b : Nat) (h1 : a ≤ j) (h2 : j ≤ L.length) : Exec T j1_thicketref10_reading_number [(0, .ref 100000 []), (3, .v (.int .i64 a)), (100000, rg L j w b)] = some (.ret, [(2, .v (.string (mTo L a j))), (100000, rg L j w b)]) := by
  have hcut : ((bl L).take j).drop a = bl ((L.drop a).take (j - a)) := by
    rw [← bl_cut, show a + (j - a) = j by omega]
  simp [j1_thicketref10_reading_number, h1, h2, hcut, bytesOf_bl, mTo, tx]
/-- How the document's number ends. -/
def NumEnd (L : List UInt8) (a : Nat) (x : Option (Out × Env)) : PR Unit → Prop
  | .ok j _ => x = some (.ret, [(2, .v (.string (mTo L a j))), (100000, rg L j 0 0)])
  | .bad w b => w ≠ 0 ∧ ∃ j s, j ≤ L.length ∧ x = some (.ret, [(2, .v (.string s)), (100000, rg L j w b)])
theorem num_exp (L : List UInt8) (a i w b : Nat) (hw : w ≠ 0) (h1 : a ≤ i) (h2 : i ≤ L.length) : Exec T j2_thicketref10_reading_number [(0, .ref 100000 []), (3, .v (.int .i64 a)), (100000, rg L i w b)] = some (.ret, [(2, .v (.string (mTo L a i))), (100000, rg L i w b)]) := by
  have ho := c_rokN L i b hw
  have he := num_end L a i w b h1 h2
  simp only [rg_eq] at ho he
  simp [j2_thicketref10_reading_number, ho, he]
theorem pDigits_bad {L : List UInt8} {i w b : Nat} (h : pDigits L i = .bad w b) : w = 100 ∧ b = i := by
  unfold pDigits at h
  split at h
  · cases h
  · cases h
    exact ⟨rfl, rfl⟩
/-- Digits, exactly. -/
def digOut (L : List UInt8) (i : Nat) : PR Unit → PV
  | .ok j _ => rg L j 0 0
  | .bad _ _ => rg L i 100 i
theorem c_rdigits' (L : List UInt8) (i : Nat) (hi : i ≤ L.length) (hl : L.length ≤ 16777216) : Cinf T n_thicketref10_reading_digits [rg L i 0 0] = some (.tup [], [digOut L i (pDigits L i)]) := by
  have hd := c_rnext L i 0 0
  have hz := c_isDigit (lt L i)
  simp only [rg_eq, Int.natCast_zero] at hd
  unfold pDigits
  by_cases hc : i < L.length ∧ digit (lt L i) = true
  · have h := rdigits_loop L 0 0 hl _ i rfl hi
    simp only [rg_eq, Int.natCast_zero] at h
    simp [digOut, run_thicketref10_reading_digits, j1_thicketref10_reading_digits, b_thicketref10_reading_digits, a_thicketref10_reading_digits, Run, home, hd, hz, h, hc.1, hc.2]
  · have h0 : digit (lt L i) = false := by
      by_cases h1 : i < L.length
      · simpa [h1] using hc
      · rw [lt_end h1]
        rfl
    have h := rdigits_loop L 100 i hl _ i rfl hi
    have hsk : skip digit L i = i := by
      by_cases h1 : i < L.length
      · rw [skip_step _ _ h1, h0]
        rfl
      · exact skip_end _ _ (by omega)
    have hf := c_rfail L i 100 i
    have h100 : ((100 : Nat) : Int) = 100 := rfl
    rw [hsk] at h
    simp only [rg_eq, Int.natCast_zero, h100] at h hf
    rw [h0, Bool.and_false]
    simp [digOut, run_thicketref10_reading_digits, j1_thicketref10_reading_digits, b_thicketref10_reading_digits, a_thicketref10_reading_digits, Run, home, hd, hz, h, h0, hf]
attribute [local simp] j0_thicketref10_reading_number
theorem num_exp0 (L : List UInt8) (a i : Nat) (hl : L.length ≤ 16777216) (h1 : a ≤ i) (h2 : i ≤ L.length) : NumEnd L a (Exec T j2_thicketref10_reading_number [(0, .ref 100000 []), (3, .v (.int .i64 a)), (100000, rg L i 0 0)]) (pExp L i) := by
  have ho := c_rok0 L i 0
  have hn := c_rnext L i 0 0
  unfold pExp
  rw [tk_exp]
  simp only [rg_eq, Int.natCast_zero] at ho hn
  by_cases hc : (lt L i == 101 || lt L i == 69) = true
  · rw [if_pos hc]
    have hlt : i < L.length := lt_pos (fun h => by rw [h] at hc; cases hc)
    have hw := wrap_succ hlt (by omega)
    have hn2 := c_rnext L (i + 1) 0 0
    obtain ⟨k, hk⟩ : ∃ k, past sSign L (i + 1) = k := ⟨_, rfl⟩
    have hb := past_le sSign L (show i + 1 ≤ L.length by omega)
    have hk2 : k = if (lt L (i + 1) == 43 || lt L (i + 1) == 45) = true then i + 1 + 1 else i + 1 := by
      rw [← hk, past, tk_sign]
    have hd := c_rdigits' L k (by omega) hl
    rw [hk] at hb ⊢
    have hfin : ∀ p : PR Unit, pDigits L k = p → ∃ j w b, digOut L k p = rg L j w b ∧ a ≤ j ∧ j ≤ L.length := by
      intro p hp
      cases p with
      | ok j u => exact ⟨j, 0, 0, rfl, by have := pDigits_le hp; omega, by have := pDigits_le hp; omega⟩
      | bad w b => exact ⟨k, 100, k, rfl, by omega, by omega⟩
    obtain ⟨j, w, b, e1, e2, e3⟩ := hfin _ rfl
    have he := num_end L a j w b e2 e3
    have hres : Exec T j2_thicketref10_reading_number [(0, .ref 100000 []), (3, .v (.int .i64 a)), (100000, rg L i 0 0)] = some (.ret, [(2, .v (.string (mTo L a j))), (100000, rg L j w b)]) := by
      rw [e1] at hd
      have hor : lt L i = 101 ∨ (¬ lt L i = 101 ∧ lt L i = 69) := by
        simp at hc
        omega
      have hor2 : lt L (i + 1) = 43 ∨ (¬ lt L (i + 1) = 43 ∧ lt L (i + 1) = 45) ∨ (¬ lt L (i + 1) = 43 ∧ ¬ lt L (i + 1) = 45) := by omega
      have hw2 : lt L (i + 1) ≠ 0 → IntKind.i64.wrap ((i : Int) + 1 + 1) = ((i + 1 + 1 : Nat) : Int) := by
        intro h
        have := wrap_succ (lt_pos h) (by omega)
        simpa [succ_cast] using this
      simp only [rg_eq, succ_cast, Int.natCast_zero] at hd hn2 he
      rcases hor2 with g | ⟨g0, g⟩ | ⟨g0, g⟩
      · have hk3 : k = i + 1 + 1 := by rw [hk2, g]; rfl
        have hw3 := hw2 (by omega)
        subst hk3
        simp only [succ_cast] at hd hw3
        rcases hor with h | ⟨h0, h⟩
        · simp [j2_thicketref10_reading_number, ho, hn, h, hn2, g, hw, hw3, hd, he]
        · simp [j2_thicketref10_reading_number, ho, hn, h0, h, hn2, g, hw, hw3, hd, he]
      · have hk3 : k = i + 1 + 1 := by rw [hk2, g]; rfl
        have hw3 := hw2 (by omega)
        subst hk3
        simp only [succ_cast] at hd hw3
        rcases hor with h | ⟨h0, h⟩
        · simp [j2_thicketref10_reading_number, ho, hn, h, hn2, g0, g, hw, hw3, hd, he]
        · simp [j2_thicketref10_reading_number, ho, hn, h0, h, hn2, g0, g, hw, hw3, hd, he]
      · have hk3 : k = i + 1 := by rw [hk2, if_neg]; simp [g0, g]
        subst hk3
        simp only [succ_cast] at hd
        rcases hor with h | ⟨h0, h⟩
        · simp [j2_thicketref10_reading_number, ho, hn, h, hn2, g0, g, hw, hd, he]
        · simp [j2_thicketref10_reading_number, ho, hn, h0, h, hn2, g0, g, hw, hd, he]
    rw [hres]
    cases hp : pDigits L k with
    | ok j' u =>
      rw [hp] at e1
      simp only [digOut, rg_eq, PV.box.injEq, List.cons.injEq, PV.v.injEq, Value.int.injEq, true_and, and_true, Int.natCast_inj] at e1
      obtain ⟨rfl, rfl, rfl⟩ := e1
      rfl
    | bad w' b' =>
      obtain ⟨rfl, rfl⟩ := pDigits_bad hp
      rw [hp] at e1
      simp only [digOut, rg_eq, PV.box.injEq, List.cons.injEq, PV.v.injEq, Value.int.injEq, true_and, and_true, Int.natCast_inj] at e1
      obtain ⟨rfl, rfl, rfl⟩ := e1
      exact ⟨by omega, _, _, e3, rfl⟩
  · rw [if_neg hc]
    have he := num_end L a i 0 0 h1 h2
    simp at hc
    simp only [rg_eq, Int.natCast_zero] at he
    simp [NumEnd, j2_thicketref10_reading_number, ho, hn, hc.1, hc.2, he]
end Go.AM.F

/- JSON: the document's reader: faults, blanks, letters, words, digits, numbers. No conditions. -/
import Derived.Test.YtkcnnifgdhabgaaDoorK8
namespace Go.AM.F
open Go Go.AM
set_option maxRecDepth 10000
set_option linter.unusedSimpArgs false

/-- The document's reader: where it stands, what is wrong, where. -/
def rg (L : List UInt8) (i w b : Nat) : PV := .box [.ro 1 (bl L), .v (.int .i64 i), .v (.int .i64 w), .v (.int .i64 b)]
@[simp] theorem rg_eq (L : List UInt8) (i w b : Nat) : rg L i w b = .box [.ro 1 (bl L), .v (.int .i64 i), .v (.int .i64 w), .v (.int .i64 b)] := rfl
/-- The answer of the document's reader, told as the plain reading tells it. -/
def Rg {α : Type} (L : List UInt8) (k : Nat) (f : α → PV) (x : Option (PV × List PV)) : PR α → Prop
  | .ok i a => x = some (f a, rg L i 0 0 :: List.replicate k .dead)
  | .bad w a => w ≠ 0 ∧ ∃ i a', i ≤ L.length ∧ x = some (f a', rg L i w a :: List.replicate k .dead)
attribute [local simp] b_thicketref10_reading_fail a_thicketref10_reading_fail
attribute [local simp] b_thicketref10_reading_ok a_thicketref10_reading_ok
attribute [local simp] j0_thicketref10_reading_next b_thicketref10_reading_next a_thicketref10_reading_next
attribute [local simp] j0_thicketref10_reading_digits w0_thicketref10_reading_digits j1_thicketref10_reading_digits b_thicketref10_reading_digits a_thicketref10_reading_digits
attribute [local simp] b_thicketref10_isDigit a_thicketref10_isDigit
theorem c_rfail (L : List UInt8) (i w a : Nat) : Cinf T n_thicketref10_reading_fail [rg L i 0 0, .v (.int .i64 w), .v (.int .i64 a)] = some (.tup [], [rg L i w a, .dead, .dead]) := by
  simp [run_thicketref10_reading_fail, Run, home]
theorem c_rok (L : List UInt8) (i w b : Nat) : Cinf T n_thicketref10_reading_ok [rg L i w b] = some (.v (.bool (decide (w = 0))), [rg L i w b]) := by
  have h : ((w : Int) = 0) = (w = 0) := propext (by omega)
  simp [run_thicketref10_reading_ok, Run, home, h]
theorem c_rok0 (L : List UInt8) (i b : Nat) : Cinf T n_thicketref10_reading_ok [rg L i 0 b] = some (.v (.bool true), [rg L i 0 b]) := by
  simpa using c_rok L i 0 b
theorem c_rokN (L : List UInt8) (i b : Nat) {w : Nat} (h : w ≠ 0) : Cinf T n_thicketref10_reading_ok [rg L i w b] = some (.v (.bool false), [rg L i w b]) := by
  simpa [h] using c_rok L i w b
theorem lt_end {L : List UInt8} {i : Nat} (h : ¬ i < L.length) : lt L i = 0 := by
  unfold lt
  rw [List.getElem?_eq_none (by omega)]
  rfl
theorem c_rnext (L : List UInt8) (i w b : Nat) : Cinf T n_thicketref10_reading_next [rg L i w b] = some (.v (.int .u8 (lt L i : Nat)), [rg L i w b]) := by
  by_cases h : i < L.length
  · simp [run_thicketref10_reading_next, Run, home, h, bl_getE h]
  · simp [run_thicketref10_reading_next, Run, home, h, lt_end h]
theorem c_isDigit (c : Nat) : Cinf T n_thicketref10_isDigit [.v (.int .u8 c)] = some (.v (.bool (digit c)), [.dead]) := by
  by_cases h : 48 ≤ c
  · simp [run_thicketref10_isDigit, Run, home, h, digit]
  · simp [run_thicketref10_isDigit, Run, home, h, digit]
theorem rdigits_loop (L : List UInt8) (w b : Nat) (hl : L.length ≤ 16777216) : ∀ (m i : Nat), L.length - i = m → i ≤ L.length → Exec T l0_thicketref10_reading_digits [(0, .ref 100000 []), (100000, rg L i w b)] = some (.exit 0, [(0, .ref 100000 []), (100000, rg L (skip digit L i) w b)]) := by
  intro m
  induction m with
  | zero =>
    intro i hm hi
    have h1 : ¬ i < L.length := by omega
    have hd := c_rnext L i w b
    have hz := c_isDigit 0
    rw [lt_end h1] at hd
    simp only [rg_eq] at hd
    have hz0 : digit 0 = false := rfl
    simp only [Int.natCast_zero, hz0] at hd hz
    rw [ex0_thicketref10_reading_digits, skip_end _ _ (by omega)]
    simp [h1, hd, hz]
  | succ m ih =>
    intro i hm hi
    have h1 : i < L.length := by omega
    have h0 := ih (i + 1) (by omega) (by omega)
    have hw := wrap_succ h1 (by omega)
    have hd := c_rnext L i w b
    have hz := c_isDigit (lt L i)
    rw [ex0_thicketref10_reading_digits, skip_step _ _ h1]
    simp only [rg_eq, succ_cast] at h0 hd
    cases c1 : digit (lt L i)
    · simp [h1, hd, hz, c1]
    · simp [h1, hd, hz, c1, hw, h0]
theorem c_rdigits (L : List UInt8) (i : Nat) (hi : i ≤ L.length) (hl : L.length ≤ 16777216) : Rg L 0 unitPV (Cinf T n_thicketref10_reading_digits [rg L i 0 0]) (pDigits L i) := by
  have hd := c_rnext L i 0 0
  have hz := c_isDigit (lt L i)
  simp only [rg_eq, Int.natCast_zero] at hd
  unfold pDigits
  by_cases hc : i < L.length ∧ digit (lt L i) = true
  · have h := rdigits_loop L 0 0 hl _ i rfl hi
    simp only [rg_eq, Int.natCast_zero] at h
    simp [Rg, run_thicketref10_reading_digits, Run, home, hd, hz, h, hc.1, hc.2]
  · have h0 : digit (lt L i) = false := by
      by_cases h1 : i < L.length
      · simpa [h1] using hc
      · rw [lt_end h1]
        rfl
    have h := rdigits_loop L 100 i hl _ i rfl hi
    have hsk : skip digit L i = i := by
      by_cases h1 : i < L.length
      · rw [skip_step _ _ h1, h0]
        rfl
      · exact skip_end _ _ (by omega)
    have hf := c_rfail L i 100 i
    have h100 : ((100 : Nat) : Int) = 100 := rfl
    rw [hsk] at h
    simp only [rg_eq, Int.natCast_zero, h100] at h hf
    rw [h0, Bool.and_false]
    refine ⟨by omega, i, (), hi, ?_⟩
    simp [run_thicketref10_reading_digits, Run, home, hd, hz, h, h0, hf]
end Go.AM.F

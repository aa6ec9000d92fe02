/- JSON: the document's reader: four hexadecimal digits. No conditions. -/
import Derived.Test.YtkcnnifgdhabgaaDoorM3
namespace Go.AM.F
open Go Go.AM
set_option maxRecDepth 10000
set_option linter.unusedSimpArgs false

attribute [local simp] j0_thicketref10_reading_four j1_thicketref10_reading_four j2_thicketref10_reading_four w0_thicketref10_reading_four j3_thicketref10_reading_four b_thicketref10_reading_four a_thicketref10_reading_four
theorem rfour_loop (L : List UInt8) (hl : L.length ≤ 16777216) : ∀ (m k v i : Nat), k + m = 4 → i ≤ L.length → v < 16 ^ k →
    match pFour L m v i with
    | .ok j u => Exec T l0_thicketref10_reading_four [(0, .ref 100000 []), (3, .v (.int .i64 v)), (4, .v (.int .i64 k)), (100000, rg L i 0 0)] = some (.exit 0, [(0, .ref 100000 []), (3, .v (.int .i64 u)), (4, .v (.int .i64 4)), (100000, rg L j 0 0)])
    | .bad w a => w = 100 ∧ a ≤ L.length ∧ Exec T l0_thicketref10_reading_four [(0, .ref 100000 []), (3, .v (.int .i64 v)), (4, .v (.int .i64 k)), (100000, rg L i 0 0)] = some (.ret, [(2, .v (.int .i64 0)), (100000, rg L a 100 a)]) := by
  intro m
  induction m with
  | zero =>
    intro k v i hm hi hv
    obtain rfl : k = 4 := by omega
    simp only [pFour]
    rw [ex0_thicketref10_reading_four]
    simp
  | succ m ih =>
    intro k v i hm hi hv
    have hlt : k < 4 := by omega
    have hw := wrap_succ hlt (by omega)
    have hf := c_rfail L i 100 i
    have h100 : ((100 : Nat) : Int) = 100 := rfl
    simp only [rg_eq, Int.natCast_zero, h100] at hf
    simp only [pFour]
    rw [ex0_thicketref10_reading_four]
    have hv2 : v < 4096 := by
      have : k = 0 ∨ k = 1 ∨ k = 2 ∨ k = 3 := by omega
      rcases this with rfl | rfl | rfl | rfl <;> simp at hv <;> omega
    have hsm := lt_small L i
    have hx := c_hex (lt L i) hsm
    by_cases h1 : i < L.length
    · rw [if_pos h1]
      have hw2 := wrap_succ h1 (by omega)
      have hn : ¬ L.length ≤ i := by omega
      cases hv3 : hexv (lt L i) with
      | none =>
        simp only [hexI, hv3] at hx
        refine ⟨rfl, by omega, ?_⟩
        simp [hlt, h1, hn, bl_getE h1, hx, hf]
      | some x =>
        simp only [hexI, hv3] at hx
        have hx2 := hexv_lt hv3
        have hp : 16 ^ (k + 1) = 16 * 16 ^ k := by rw [Nat.pow_succ, Nat.mul_comm]
        have h0 := ih (k + 1) (16 * v + x) (i + 1) (by omega) (by omega) (by omega)
        have w1 : IntKind.i64.wrap (16 * (v : Int)) = ((16 * v : Nat) : Int) := by rw [wrap_i64] <;> omega
        have w2 : IntKind.i64.wrap (((16 * v : Nat) : Int) + (x : Int)) = ((16 * v + x : Nat) : Int) := by rw [wrap_i64] <;> omega
        have hx3 : ¬ ((x : Int) < 0) := by omega
        simp only [rg_eq, Int.natCast_zero, succ_cast] at h0 ⊢
        split at h0
        · simpa [hlt, h1, hn, bl_getE h1, hx, hx3, w1, w2, hw, hw2, -Int.natCast_mul, -Int.natCast_add] using h0
        · simpa [hlt, h1, hn, bl_getE h1, hx, hx3, w1, w2, hw, hw2, -Int.natCast_mul, -Int.natCast_add] using h0
    · rw [if_neg h1]
      have hn : L.length ≤ i := by omega
      refine ⟨rfl, by omega, ?_⟩
      simp [hlt, h1, hn, hf]
/-- Four digits, exactly. -/
def fourOut (L : List UInt8) : PR Nat → Option (PV × List PV)
  | .ok j u => some (.v (.int .i64 u), [rg L j 0 0])
  | .bad _ a => some (.v (.int .i64 0), [rg L a 100 a])
theorem c_rfour (L : List UInt8) (i : Nat) (hi : i ≤ L.length) (hl : L.length ≤ 16777216) : Cinf T n_thicketref10_reading_four [rg L i 0 0] = fourOut L (pFour L 4 0 i) ∧ (∀ w a, pFour L 4 0 i = .bad w a → w = 100 ∧ a ≤ L.length) := by
  have h := rfour_loop L hl 4 0 0 i rfl hi (by simp)
  simp only [rg_eq, Int.natCast_zero] at h
  cases hp : pFour L 4 0 i with
  | ok j u =>
    rw [hp] at h
    simp only at h
    refine ⟨?_, fun w a h => by cases h⟩
    simp [run_thicketref10_reading_four, Run, home, fourOut, h]
  | bad w a =>
    rw [hp] at h
    obtain ⟨rfl, ha, h⟩ := h
    refine ⟨?_, fun w' a' h => by cases h; exact ⟨rfl, ha⟩⟩
    simp [run_thicketref10_reading_four, Run, home, fourOut, h]
end Go.AM.F

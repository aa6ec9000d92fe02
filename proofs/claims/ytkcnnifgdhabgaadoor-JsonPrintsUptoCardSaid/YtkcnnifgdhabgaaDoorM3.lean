/- JSON: the document's reader: numbers. No conditions. -/
import Derived.Test.YtkcnnifgdhabgaaDoorM2
namespace Go.AM.F
open Go Go.AM
set_option maxRecDepth 10000
set_option linter.unusedSimpArgs false

attribute [local simp] b_thicketref10_reading_number a_thicketref10_reading_number j3_thicketref10_reading_number j4_thicketref10_reading_number
theorem num_fracN (L : List UInt8) (a i w b : Nat) (hw : w ≠ 0) (h1 : a ≤ i) (h2 : i ≤ L.length) : Exec T j3_thicketref10_reading_number [(0, .ref 100000 []), (3, .v (.int .i64 a)), (100000, rg L i w b)] = some (.ret, [(2, .v (.string (mTo L a i))), (100000, rg L i w b)]) := by
  have ho := c_rokN L i b hw
  have he := num_exp L a i w b hw h1 h2
  simp only [rg_eq] at ho he
  simp [ho, he]
theorem num_frac (L : List UInt8) (a i : Nat) (hl : L.length ≤ 16777216) (h1 : a ≤ i) (h2 : i ≤ L.length) : NumEnd L a (Exec T j3_thicketref10_reading_number [(0, .ref 100000 []), (3, .v (.int .i64 a)), (100000, rg L i 0 0)]) ((pFrac L i).bind fun i _ => pExp L i) := by
  have ho := c_rok0 L i 0
  have hn := c_rnext L i 0 0
  unfold pFrac
  rw [tk_point]
  simp only [rg_eq, Int.natCast_zero] at ho hn
  by_cases hc : lt L i = 46
  · rw [if_pos (by simp [hc])]
    have hlt : i < L.length := lt_pos (fun h => by rw [h] at hc; cases hc)
    have hw := wrap_succ hlt (by omega)
    have hd := c_rdigits' L (i + 1) (by omega) hl
    cases hp : pDigits L (i + 1) with
    | ok j u =>
      have hj := pDigits_le hp
      have he := num_exp0 L a j hl (by omega) hj.2
      rw [PR.bind_ok]
      rw [hp] at hd
      simp only [digOut, rg_eq, Int.natCast_zero, succ_cast] at hd he
      simpa [ho, hn, hc, hw, hd] using he
    | bad w b =>
      obtain ⟨rfl, rfl⟩ := pDigits_bad hp
      rw [PR.bind_bad]
      rw [hp] at hd
      have he := num_exp L a (i + 1) 100 (i + 1) (by omega) (by omega) (by omega)
      refine ⟨by omega, i + 1, mTo L a (i + 1), hlt, ?_⟩
      have h100 : ((100 : Nat) : Int) = 100 := rfl
      simp only [digOut, rg_eq, Int.natCast_zero, succ_cast, h100] at hd he
      simpa [ho, hn, hc, hw, hd] using he
  · rw [if_neg (by simp [hc]), PR.bind_ok]
    have he := num_exp0 L a i hl h1 h2
    simp only [rg_eq, Int.natCast_zero] at he
    simpa [ho, hn, hc] using he
theorem num_int (L : List UInt8) (a i : Nat) (hl : L.length ≤ 16777216) (h1 : a ≤ i) (h2 : i ≤ L.length) : NumEnd L a (Exec T j4_thicketref10_reading_number [(0, .ref 100000 []), (3, .v (.int .i64 a)), (100000, rg L i 0 0)]) ((pInt L i).bind fun i _ => (pFrac L i).bind fun i _ => pExp L i) := by
  have hn := c_rnext L i 0 0
  unfold pInt
  rw [tk_zero]
  simp only [rg_eq, Int.natCast_zero] at hn
  by_cases hc : lt L i = 48
  · rw [if_pos (by simp [hc]), PR.bind_ok]
    have hlt : i < L.length := lt_pos (fun h => by rw [h] at hc; cases hc)
    have hw := wrap_succ hlt (by omega)
    have he := num_frac L a (i + 1) hl (by omega) (by omega)
    simp only [rg_eq, Int.natCast_zero, succ_cast] at he
    simpa [hn, hc, hw, -j3_thicketref10_reading_number] using he
  · rw [if_neg (by simp [hc])]
    have hd := c_rdigits' L i h2 hl
    cases hp : pDigits L i with
    | ok j u =>
      have hj := pDigits_le hp
      have he := num_frac L a j hl (by omega) hj.2
      rw [PR.bind_ok]
      rw [hp] at hd
      simp only [digOut, rg_eq, Int.natCast_zero] at hd he
      simpa [hn, hc, hd, -j3_thicketref10_reading_number] using he
    | bad w b =>
      obtain ⟨rfl, rfl⟩ := pDigits_bad hp
      rw [PR.bind_bad]
      rw [hp] at hd
      have he := num_fracN L a b 100 b (by omega) h1 h2
      refine ⟨by omega, b, mTo L a b, h2, ?_⟩
      have h100 : ((100 : Nat) : Int) = 100 := rfl
      simp only [digOut, rg_eq, Int.natCast_zero, h100] at hd he
      simpa [hn, hc, hd, -j3_thicketref10_reading_number] using he
/-- A number, with its text. -/
def pNum (L : List UInt8) (i : Nat) : PR ByteArray := (pNumber L i).bind fun j _ => .ok j (mTo L i j)
theorem c_rnumber (L : List UInt8) (i : Nat) (hi : i ≤ L.length) (hl : L.length ≤ 16777216) : Rg L 0 strP (Cinf T n_thicketref10_reading_number [rg L i 0 0]) (pNum L i) := by
  have hn := c_rnext L i 0 0
  have key : ∀ {x : Option (Out × Env)} {r : PR Unit}, NumEnd L i x r → Rg L 0 strP (finish a_thicketref10_reading_number [rg L i 0 0] x) (r.bind fun j _ => .ok j (mTo L i j)) := by
    intro x r h
    cases r with
    | ok j u =>
      subst h
      simp [Rg, home]
    | bad w b =>
      obtain ⟨h1, j, s, h2, rfl⟩ := h
      refine ⟨h1, j, s, h2, ?_⟩
      simp [home]
  unfold pNum pNumber past
  rw [tk_minus]
  simp only [rg_eq, Int.natCast_zero] at hn
  by_cases hc : lt L i = 45
  · rw [if_pos (by simp [hc])]
    have hlt : i < L.length := lt_pos (fun h => by rw [h] at hc; cases hc)
    have hw := wrap_succ hlt (by omega)
    have h := key (num_int L i (i + 1) hl (by omega) hlt)
    simp only [rg_eq, Int.natCast_zero, succ_cast] at h
    rw [run_thicketref10_reading_number]
    simpa [Run, home, hn, hc, hw, -j4_thicketref10_reading_number] using h
  · rw [if_neg (by simp [hc])]
    have h := key (num_int L i i hl (Nat.le_refl _) hi)
    simp only [rg_eq, Int.natCast_zero] at h
    rw [run_thicketref10_reading_number]
    simpa [Run, home, hn, hc, -j4_thicketref10_reading_number] using h
def hexI (c : Nat) : Int := match hexv c with
  | some v => v
  | none => -1
end Go.AM.F

/- JSON: the program's Parse. No conditions. -/
import Derived.Test.YtkcnnifgdhabgaaDoorK12
namespace Go.AM.F
open Go Go.AM
set_option maxRecDepth 10000
set_option linter.unusedSimpArgs false

def zeroJ : J := .mk 0 eS [] []
/-- What a text is read as: the value, what is wrong, where. -/
def pEnd (L : List UInt8) : PR J → J × Nat × Nat
  | .bad w a => (zeroJ, w, a)
  | .ok j v => if skip blank L j < L.length then (zeroJ, 100, skip blank L j) else (v, 0, 0)
def pParse (L : List UInt8) (f : Nat) : Option (J × Nat × Nat) :=
  if 16777216 < L.length then some (zeroJ, 4, 0) else (pV L f 0 (skip blank L 0)).map (pEnd L)
def told (r : J × Nat × Nat) : PV := .tup [r.1.copied, .v (.int .i64 (r.2.1 : Nat)), .v (.int .i64 (r.2.2 : Nat))]
attribute [local simp] j0_json_Parse j1_json_Parse j2_json_Parse b_json_Parse a_json_Parse hnd_json_Parse
theorem c_Parse (L : List UInt8) (f : Nat) (r : J × Nat × Nat) (hr : pParse L f = some r) (hL : L.length ≤ 140737488355328) : Cinf T n_json_Parse [.ro 1 (bl L)] = some (told r, [.dead]) := by
  unfold pParse at hr
  by_cases hl : 16777216 < L.length
  · rw [if_pos hl, Option.some.injEq] at hr
    subst hr
    have h2 : (16777216 : Int) < L.length := by omega
    simp [run_json_Parse, Run, home, hl, h2, told, zeroJ, J.copied, J.parts, eS]
  · rw [if_neg hl] at hr
    have hl2 : L.length ≤ 16777216 := by omega
    have h2 : ¬ (16777216 : Int) < L.length := by omega
    have b1 := c_blanks L 0 (Nat.zero_le _) hl2
    have hs := skip_le blank L (Nat.zero_le L.length)
    generalize skip blank L 0 = p at *
    cases hv : pV L f 0 p with
    | none => rw [hv] at hr; cases hr
    | some q =>
      rw [hv, Option.map_some, Option.some.injEq] at hr
      subst hr
      have hc := (all_ok L hl2 f).1 0 p q hv hs.2 (by omega)
      cases q with
      | bad w a =>
        simp only [rd_eq, res_bad, Int.natCast_zero] at hc b1
        simp [run_json_Parse, Run, home, hl, h2, told, zeroJ, J.copied, J.parts, eS, b1, hc, pEnd, wrong]
      | ok j v =>
        have k1 := (p_le L f).1 _ _ _ _ hs.2 hv
        have b2 := c_blanks L j k1.2 hl2
        have k2 := skip_le blank L k1.2
        unfold pEnd
        simp only
        generalize skip blank L j = i at *
        have hf := c_fail L i
        obtain ⟨k0, tt0, ns0, is0⟩ := v
        simp only [rd_eq, res_ok, Int.natCast_zero, J.copied, J.parts] at hc b1 b2 hf
        by_cases hi : i < L.length
        · rw [if_pos hi]
          simp [run_json_Parse, Run, home, hl, h2, told, zeroJ, J.copied, J.parts, eS, b1, hc, b2, hi, hf, wrong]
        · rw [if_neg hi]
          simp [run_json_Parse, Run, home, hl, h2, told, J.copied, J.parts, b1, hc, b2, hi, imm_strs, imm_pvs]
end Go.AM.F

/- JSON: the document's reader: lists. No conditions. -/
import Derived.Test.YtkcnnifgdhabgaaDoorM11
namespace Go.AM.F
open Go Go.AM
set_option maxRecDepth 10000
set_option linter.unusedSimpArgs false

def RValOK (L : List UInt8) (f : Nat) : Prop := ∀ (d i : Nat) (r : PR J), pV L f d (skip blank L i) = some r → i ≤ L.length → d ≤ 256 → Rg L 1 J.copied (Cinf T n_thicketref10_reading_value [rg L i 0 0, .v (.int .i64 d)]) r
/-- How the loop of the document's list or object ends. -/
def ColEnd (L : List UInt8) (x : Option (Out × Env)) : PR J → Prop
  | .ok j v => x = some (.ret, [(4, v.boxed), (100000, rg L j 0 0)])
  | .bad w b => w ≠ 0 ∧ ∃ (j : Nat) (v : J) (e' : Env), j ≤ L.length ∧ x = some (.exit 0, e') ∧ e'.get 4 = z4 ∧ e'.get 5 = v.boxed ∧ e'.get 100000 = rg L j w b
attribute [local simp] j0_thicketref10_reading_list j1_thicketref10_reading_list j2_thicketref10_reading_list w0_thicketref10_reading_list j3_thicketref10_reading_list j4_thicketref10_reading_list b_thicketref10_reading_list a_thicketref10_reading_list
abbrev liE (L : List UInt8) (d : Nat) (acc : List J) (i w b : Nat) : Env := [(0, .ref 100000 []), (1, .v (.int .i64 d)), (4, z4), (5, .box [.v (.int .u8 6), .v (.string ⟨#[]⟩), .own 1 [], .own 4 (acc.map J.pv)]), (100000, rg L i w b)]
theorem list_out (L : List UInt8) (d : Nat) (acc : List J) (i w b : Nat) (hw : w ≠ 0) : Exec T l0_thicketref10_reading_list (liE L d acc i w b) = some (.exit 0, liE L d acc i w b) := by
  have ho := c_rokN L i b hw
  simp only [rg_eq] at ho
  rw [ex0_thicketref10_reading_list]
  simp [liE, ho]
def RListOK (L : List UInt8) (f : Nat) : Prop := ∀ (d i : Nat) (acc : List J) (r : PR J), pItems L f d i acc = some r → i ≤ L.length → d ≤ 256 → acc.length ≤ i →
  ColEnd L (Exec T l0_thicketref10_reading_list (liE L d acc i 0 0)) r
theorem rlist_loop (L : List UInt8) (hl : L.length ≤ 16777216) (f : Nat) (hV : RValOK L f) (hI : RListOK L f) : RListOK L (f + 1) := by
  intro d i acc r hr hi hd ha
  have ho := c_rok0 L i 0
  have hC : (⟨#[44]⟩ : ByteArray) = sComma := rfl
  have hs := skip_le blank L hi
  have e1 : (acc.length + 1) * 72 ≤ 140737488355328 := by omega
  have e2 : acc.length ≤ 4611686018427387903 := by omega
  rw [ex0_thicketref10_reading_list]
  simp only [pItems] at hr
  simp only [rg_eq, Int.natCast_zero] at ho
  cases hv : pV L f d (skip blank L i) with
  | none => rw [hv] at hr; cases hr
  | some r1 =>
    have hc := hV d i r1 hv hi hd
    rw [hv] at hr
    cases r1 with
    | bad w a =>
      simp only [Option.some.injEq] at hr
      subst hr
      obtain ⟨g1, k, v, g2, hc⟩ := hc
      have b2 := c_rblanks L k w a g2 hl
      have k2 := skip_le blank L g2
      have ho2 := c_rokN L (skip blank L k) a g1
      obtain ⟨k0, t0, ns0, is0⟩ := v
      generalize skip blank L k = q at *
      simp only [rg_eq, Int.natCast_zero, J.copied, J.parts] at hc b2 ho2
      refine ⟨g1, q, .mk 6 eS [] (acc ++ [.mk k0 t0 ns0 is0]), [(0, .ref 100000 []), (1, .v (.int .i64 d)), (4, z4), (5, .box [.v (.int .u8 6), .v (.string ⟨#[]⟩), .own 1 [], .own 4 ((acc ++ [J.mk k0 t0 ns0 is0]).map J.pv)]), (100000, rg L q w a)], k2.2, ?_, by simp, by simp [J.boxed, J.parts, eS], by simp⟩
      simp [liE, ho, hc, b2, ho2, imm_strs, imm_pvs, e1, e2, J.pv_mk]
    | ok j v =>
      have k1 := (p_le L f).1 _ _ _ _ hs.2 hv
      have k2 := skip_le blank L k1.2
      have b2 := c_rblanks L j 0 0 k1.2 hl
      simp only at hr
      generalize skip blank L j = q at *
      have ho2 := c_rok0 L q 0
      have hn := c_rnext L q 0 0
      obtain ⟨k0, t0, ns0, is0⟩ := v
      simp only [Rg, rg_eq, Int.natCast_zero, J.copied, J.parts] at hc b2 ho2 hn
      rw [tk_end] at hr
      by_cases ht : lt L q = 93
      · rw [if_pos (by simp [ht]), Option.some.injEq] at hr
        subst hr
        have hq : q < L.length := lt_pos (fun h => by omega)
        have hw := wrap_succ hq (by omega)
        simp [ColEnd, ho, hc, b2, ho2, hn, ht, hw, imm_strs, imm_pvs, e1, e2, J.boxed, J.parts, J.pv_mk, eS]
      · rw [if_neg (by simp [ht])] at hr
        have w1 := c_must L q sComma k2.2 hl (by decide)
        cases hw : pWant sComma L q with
        | bad w a =>
          rw [hw] at hr w1
          simp only [Option.some.injEq] at hr
          subst hr
          obtain ⟨g1, k, u, g2, w1⟩ := w1
          have hout := list_out L d (acc ++ [.mk k0 t0 ns0 is0]) k w a g1
          refine ⟨g1, k, .mk 6 eS [] (acc ++ [.mk k0 t0 ns0 is0]), liE L d (acc ++ [.mk k0 t0 ns0 is0]) k w a, g2, ?_, by simp [liE], by simp [liE, J.boxed, J.parts, eS], by simp [liE]⟩
          simp only [liE, rg_eq, Int.natCast_zero, unitPV_eq] at w1 hout
          simpa [liE, ho, hc, b2, ho2, hn, ht, hC, w1, imm_strs, imm_pvs, e1, e2, J.pv_mk] using hout
        | ok k u =>
          rw [hw] at hr w1
          have k3 := pComma_le k2.2 hw
          have h0 := hI d k (acc ++ [.mk k0 t0 ns0 is0]) r hr k3.2 hd (by simp; omega)
          simp only [Rg, liE, rg_eq, Int.natCast_zero, unitPV_eq] at w1 h0
          simpa [liE, ho, hc, b2, ho2, hn, ht, hC, w1, imm_strs, imm_pvs, e1, e2, J.pv_mk] using h0
theorem col_list (L : List UInt8) (hl : L.length ≤ 16777216) (f : Nat) (hI : RListOK L f) (d i : Nat) (r : PR J) (hr : pList L f d i = some r) (hi : i ≤ L.length) (hd : d ≤ 256) :
    Rg L 1 J.copied (Cinf T n_thicketref10_reading_list [rg L i 0 0, .v (.int .i64 d)]) r := by
  have hs := skip_le blank L hi
  have b1 := c_rblanks L i 0 0 hi hl
  unfold pList at hr
  generalize skip blank L i = p at *
  have hn := c_rnext L p 0 0
  simp only [rg_eq, Int.natCast_zero] at b1 hn
  rw [tk_end] at hr
  by_cases ht : lt L p = 93
  · rw [if_pos (by simp [ht]), Option.some.injEq] at hr
    subst hr
    have hq : p < L.length := lt_pos (fun h => by omega)
    have hw := wrap_succ hq (by omega)
    simp [Rg, run_thicketref10_reading_list, Run, home, b1, hn, ht, hw, J.copied, J.parts, eS]
  · rw [if_neg (by simp [ht])] at hr
    have h0 := hI d p [] r hr hs.2 hd (by simp)
    simp only [liE, rg_eq, Int.natCast_zero, List.map_nil] at h0
    cases r with
    | ok j v =>
      obtain ⟨k0, t0, ns0, is0⟩ := v
      simp only [ColEnd, rg_eq, Int.natCast_zero, J.boxed, J.parts] at h0
      simp [Rg, run_thicketref10_reading_list, Run, home, b1, hn, ht, h0, J.copied, J.parts, -w0_thicketref10_reading_list]
    | bad w a =>
      obtain ⟨g1, j, ⟨k0, t0, ns0, is0⟩, e', g2, h0, h4, h5, h6⟩ := h0
      simp only [rg_eq, J.boxed, J.parts] at h4 h5 h6
      refine ⟨g1, j, .mk k0 t0 ns0 is0, g2, ?_⟩
      simp [run_thicketref10_reading_list, Run, home, b1, hn, ht, h0, h4, h5, h6, Env.keep, J.copied, J.parts, -w0_thicketref10_reading_list]
end Go.AM.F

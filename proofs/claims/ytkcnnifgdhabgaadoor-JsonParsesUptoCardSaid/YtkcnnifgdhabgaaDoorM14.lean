/- JSON: the document's reader: objects, then every value. No conditions. -/
import Derived.Test.YtkcnnifgdhabgaaDoorM13
namespace Go.AM.F
open Go Go.AM
set_option maxRecDepth 10000
set_option linter.unusedSimpArgs false

attribute [local simp] j2_thicketref10_reading_object j3_thicketref10_reading_object j4_thicketref10_reading_object j5_thicketref10_reading_object j6_thicketref10_reading_object w0_thicketref10_reading_object j7_thicketref10_reading_object j8_thicketref10_reading_object b_thicketref10_reading_object a_thicketref10_reading_object
abbrev obE (L : List UInt8) (d : Nat) (ns : List ByteArray) (acc : List J) (i w b : Nat) : Env := [(0, .ref 100000 []), (1, .v (.int .i64 d)), (4, z4), (5, oB ns acc), (100000, rg L i w b)]
theorem obj_out (L : List UInt8) (d : Nat) (ns : List ByteArray) (acc : List J) (i w b : Nat) (hw : w ≠ 0) : Exec T l0_thicketref10_reading_object (obE L d ns acc i w b) = some (.exit 0, obE L d ns acc i w b) := by
  have ho := c_rokN L i b hw
  simp only [rg_eq] at ho
  rw [ex0_thicketref10_reading_object]
  simp [obE, oB, ho]
def RObjOK (L : List UInt8) (f : Nat) : Prop := ∀ (d i : Nat) (ns : List ByteArray) (acc : List J) (r : PR J), pMembers L f d i ns acc = some r → i ≤ L.length → d ≤ 256 → acc.length ≤ i → ns.length ≤ i →
  ColEnd L (Exec T l0_thicketref10_reading_object (obE L d ns acc i 0 0)) r
theorem boxed_mk (ns : List ByteArray) (acc : List J) : (J.mk 7 eS ns acc).boxed = oB ns acc := rfl
/-- Behind the name, where something is wrong. -/
theorem obj_name_bad (L : List UInt8) (hl : L.length ≤ 16777216) (d : Nat) (ns : List ByteArray) (acc : List J) (s : ByteArray) (j w b : Nat) (hj : j ≤ L.length) (hw : w ≠ 0) :
    ∃ e', Exec T j5_thicketref10_reading_object [(0, .ref 100000 []), (1, .v (.int .i64 d)), (4, z4), (5, oB ns acc), (7, .v (.string s)), (100000, rg L j w b)] = some (.exit 0, e') ∧ e'.get 4 = z4 ∧ e'.get 5 = oB ns acc ∧ e'.get 100000 = rg L (skip blank L j) w b := by
  have hb := c_rblanks L j w b hj hl
  have hm := c_mustN L (skip blank L j) w b sColon hw (by decide)
  have ho := c_rokN L (skip blank L j) b hw
  have hC : (⟨#[58]⟩ : ByteArray) = sColon := rfl
  simp only [rg_eq] at hb hm ho
  refine ⟨[(0, .ref 100000 []), (1, .v (.int .i64 d)), (4, z4), (5, oB ns acc), (7, .v (.string s)), (100000, rg L (skip blank L j) w b)], ?_, by simp, by simp, by simp⟩
  simp [oB, hb, hm, hC, ho, -j4_thicketref10_reading_object]
/-- The value of a member, and what follows. -/
theorem obj_value (L : List UInt8) (hl : L.length ≤ 16777216) (f : Nat) (hV : RValOK L f) (hI : RObjOK L f) (d k : Nat) (ns : List ByteArray) (acc : List J) (s : ByteArray) (r : PR J) (hk : k ≤ L.length) (hd : d ≤ 256) (ha : acc.length + 1 ≤ k) (hn : ns.length + 1 ≤ k)
    (hr : (match pV L f d (skip blank L k) with
      | none => none
      | some (.bad w b) => some (.bad w b)
      | some (.ok m v) =>
        if tk sStop L (skip blank L m) then some (.ok (skip blank L m + 1) (.mk 7 eS (ns ++ [s]) (acc ++ [v])))
        else match pWant sComma L (skip blank L m) with
          | .bad w b => some (.bad w b)
          | .ok q _ => pMembers L f d q (ns ++ [s]) (acc ++ [v])) = some r) :
    ColEnd L (andThen (inBlock 1 (Exec T j4_thicketref10_reading_object [(0, .ref 100000 []), (1, .v (.int .i64 d)), (4, z4), (5, oB ns acc), (7, .v (.string s)), (100000, rg L k 0 0)])) (Exec T l0_thicketref10_reading_object)) r := by
  have hC : (⟨#[44]⟩ : ByteArray) = sComma := rfl
  have hs := skip_le blank L hk
  have e1 : (acc.length + 1) * 72 ≤ 140737488355328 := by omega
  have e2 : acc.length ≤ 4611686018427387903 := by omega
  have a2 : ns.length ≤ 4611686018427387903 := by omega
  have a3 : (ns.length + 1) * 16 ≤ 140737488355328 := by omega
  have a1 : ns.length + 1 ≤ 8796093022208 := by omega
  cases hv : pV L f d (skip blank L k) with
  | none => rw [hv] at hr; cases hr
  | some r1 =>
    have hc := hV d k r1 hv hk hd
    rw [hv] at hr
    cases r1 with
    | bad w a =>
      simp only [Option.some.injEq] at hr
      subst hr
      obtain ⟨g1, j, v, g2, hc⟩ := hc
      have b2 := c_rblanks L j w a g2 hl
      have k2 := skip_le blank L g2
      have ho2 := c_rokN L (skip blank L j) a g1
      obtain ⟨k0, t0, ns0, is0⟩ := v
      generalize skip blank L j = q at *
      simp only [rg_eq, Int.natCast_zero, J.copied, J.parts] at hc b2 ho2
      refine ⟨g1, q, .mk 7 eS (ns ++ [s]) (acc ++ [.mk k0 t0 ns0 is0]), obE L d (ns ++ [s]) (acc ++ [.mk k0 t0 ns0 is0]) q w a, k2.2, ?_, by simp [obE], by simp [obE, boxed_mk], by simp [obE]⟩
      simp [obE, oB, hc, b2, ho2, imm_strs, imm_pvs, e1, e2, a1, a2, a3, J.pv_mk, -j3_thicketref10_reading_object]
    | ok j v =>
      have k1 := (p_le L f).1 _ _ _ _ hs.2 hv
      have k2 := skip_le blank L k1.2
      have b2 := c_rblanks L j 0 0 k1.2 hl
      simp only at hr
      generalize skip blank L j = q at *
      have ho2 := c_rok0 L q 0
      have hnx := c_rnext L q 0 0
      obtain ⟨k0, t0, ns0, is0⟩ := v
      simp only [Rg, rg_eq, Int.natCast_zero, J.copied, J.parts] at hc b2 ho2 hnx
      rw [tk_stop] at hr
      by_cases ht : lt L q = 125
      · rw [if_pos (by simp [ht]), Option.some.injEq] at hr
        subst hr
        have hq : q < L.length := lt_pos (fun h => by omega)
        have hw := wrap_succ hq (by omega)
        simp [ColEnd, oB, hc, b2, ho2, hnx, ht, hw, imm_strs, imm_pvs, e1, e2, a1, a2, a3, J.boxed, J.parts, J.pv_mk, eS]
      · rw [if_neg (by simp [ht])] at hr
        have w1 := c_must L q sComma k2.2 hl (by decide)
        cases hw : pWant sComma L q with
        | bad w a =>
          rw [hw] at hr w1
          simp only [Option.some.injEq] at hr
          subst hr
          obtain ⟨g1, i', u, g2, w1⟩ := w1
          have hout := obj_out L d (ns ++ [s]) (acc ++ [.mk k0 t0 ns0 is0]) i' w a g1
          refine ⟨g1, i', .mk 7 eS (ns ++ [s]) (acc ++ [.mk k0 t0 ns0 is0]), obE L d (ns ++ [s]) (acc ++ [.mk k0 t0 ns0 is0]) i' w a, g2, ?_, by simp [obE], by simp [obE, boxed_mk], by simp [obE]⟩
          simp only [obE, oB, rg_eq, Int.natCast_zero, unitPV_eq] at w1 hout
          simpa [obE, oB, hc, b2, ho2, hnx, ht, hC, w1, imm_strs, imm_pvs, e1, e2, a1, a2, a3, J.pv_mk] using hout
        | ok i' u =>
          rw [hw] at hr w1
          have k3 := pComma_le k2.2 hw
          have h0 := hI d i' (ns ++ [s]) (acc ++ [.mk k0 t0 ns0 is0]) r hr k3.2 hd (by simp; omega) (by simp; omega)
          simp only [Rg, obE, oB, rg_eq, Int.natCast_zero, unitPV_eq] at w1 h0
          simpa [obE, oB, hc, b2, ho2, hnx, ht, hC, w1, imm_strs, imm_pvs, e1, e2, a1, a2, a3, J.pv_mk] using h0
end Go.AM.F

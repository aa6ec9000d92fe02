/- JSON: the program's reader: lists. No conditions. -/
import Derived.Test.YtkcnnifgdhabgaaDoorK10
namespace Go.AM.F
open Go Go.AM
set_option maxRecDepth 10000
set_option linter.unusedSimpArgs false

def ValOK (L : List UInt8) (f : Nat) : Prop := ∀ (d i : Nat) (r : PR J), pV L f d i = some r → i ≤ L.length → d ≤ 256 → Cinf T n_json_reader_value [rd L i, .v (.int .i64 d)] = res L 1 J.copied r
def J.boxed (j : J) : PV := .box j.parts
theorem pComma_le {L : List UInt8} {i j : Nat} {u : Unit} (hi : i ≤ L.length) (h : pWant sComma L i = .ok j u) : i < j ∧ j ≤ L.length := by
  have h1 := pWord_le hi h
  have h2 : sComma.size = 1 := rfl
  omega
/-- What the loop of a list or an object leaves. -/
def RetE (L : List UInt8) (x : Option (Out × Env)) : PR J → Prop
  | .ok i v => x = some (.ret, [(4, v.boxed), (100000, rd L i)])
  | .bad w a => ∃ e', x = some (.pan (wrong w a), e')
abbrev z4 : PV := .box [.v (.int .u8 0), .v (.string ⟨#[]⟩), .own 1 [], .own 4 []]
attribute [local simp] j0_json_reader_list w0_json_reader_list b_json_reader_list a_json_reader_list
def ListOK (L : List UInt8) (f : Nat) : Prop := ∀ (d i : Nat) (acc : List J) (r : PR J), pItems L f d i acc = some r → i ≤ L.length → d ≤ 256 → acc.length ≤ i →
  RetE L (Exec T l0_json_reader_list [(0, .ref 100000 []), (1, .v (.int .i64 d)), (4, z4), (5, .box [.v (.int .u8 6), .v (.string ⟨#[]⟩), .own 1 [], .own 4 (acc.map J.pv)]), (100000, rd L i)]) r
theorem list_loop (L : List UInt8) (hl : L.length ≤ 16777216) (f : Nat) (hV : ValOK L f) (hI : ListOK L f) : ListOK L (f + 1) := by
  intro d i acc r hr hi hd ha
  have hs := skip_le blank L hi
  have b1 := c_blanks L i hi hl
  simp only [rd_eq] at b1
  have hE : (⟨#[93]⟩ : ByteArray) = sEnd := rfl
  have hC : (⟨#[44]⟩ : ByteArray) = sComma := rfl
  rw [ex0_json_reader_list]
  simp only [pItems] at hr
  generalize skip blank L i = p at *
  cases hv : pV L f d p with
  | none => rw [hv] at hr; cases hr
  | some r1 =>
    have hc := hV d p r1 hv hs.2 hd
    rw [hv] at hr
    cases r1 with
    | bad w a =>
      simp only [Option.some.injEq] at hr
      subst hr
      simp only [rd_eq, res_bad] at hc
      simp [RetE, b1, hc]
    | ok j v =>
      have k1 := (p_le L f).1 _ _ _ _ hs.2 hv
      have k2 := skip_le blank L k1.2
      have b2 := c_blanks L j k1.2 hl
      simp only at hr
      generalize skip blank L j = q at *
      have t1 := c_takes L q sEnd hl
      have e1 : (acc.length + 1) * 72 ≤ 140737488355328 := by omega
      have e2 : acc.length ≤ 4611686018427387903 := by omega
      have hap : acc.map J.pv ++ [v.pv] = (acc ++ [v]).map J.pv := by simp
      have hlen : (acc.map J.pv).length = acc.length := by simp
      have hpv := v.pv
      cases ht : tk sEnd L q with
      | true =>
        rw [ht] at hr t1
        simp only [if_true, Option.some.injEq] at hr
        subst hr
        obtain ⟨k0, t0, ns0, is0⟩ := v
        simp only [rd_eq, res_ok, J.copied, J.parts, if_true, J.pv_mk] at hc b2 t1 hap
        simp [RetE, b1, b2, hc, hE, t1, imm_strs, imm_pvs, e1, e2, J.boxed, J.parts, J.pv_mk, eS]
      | false =>
        rw [ht] at hr t1
        simp only [Bool.false_eq_true, if_false] at hr
        have w1 := c_want L q sComma k2.2 hl (by decide)
        cases hw : pWant sComma L q with
        | bad w a =>
          rw [hw] at hr w1
          simp only [Option.some.injEq] at hr
          subst hr
          obtain ⟨k0, t0, ns0, is0⟩ := v
          simp only [rd_eq, res_ok, res_bad, J.copied, J.parts, Bool.false_eq_true, if_false, J.pv_mk] at hc b2 t1 hap w1
          simp [RetE, b1, b2, hc, hE, hC, t1, w1, imm_strs, imm_pvs, e1, e2]
        | ok k u =>
          rw [hw] at hr w1
          have k3 := pComma_le k2.2 hw
          have h0 := hI d k (acc ++ [v]) r hr k3.2 hd (by simp; omega)
          rw [← hap] at h0
          obtain ⟨k0, t0, ns0, is0⟩ := v
          simp only [rd_eq, res_ok, J.copied, J.parts, Bool.false_eq_true, if_false, J.pv_mk] at hc b2 t1 hap w1 h0
          simpa [b1, b2, hc, hE, hC, t1, w1, imm_strs, imm_pvs, e1, e2] using h0
def pList (L : List UInt8) (f d i : Nat) : Option (PR J) := if tk sEnd L (skip blank L i) then some (.ok (skip blank L i + 1) (.mk 6 eS [] [])) else pItems L f d (skip blank L i) []
theorem c_list (L : List UInt8) (hl : L.length ≤ 16777216) (f : Nat) (hI : ListOK L f) (d i : Nat) (r : PR J) (hr : pList L f d i = some r) (hi : i ≤ L.length) (hd : d ≤ 256) :
    Cinf T n_json_reader_list [rd L i, .v (.int .i64 d)] = res L 1 J.copied r := by
  have hs := skip_le blank L hi
  have b1 := c_blanks L i hi hl
  have hE : (⟨#[93]⟩ : ByteArray) = sEnd := rfl
  unfold pList at hr
  generalize skip blank L i = p at *
  have t1 := c_takes L p sEnd hl
  simp only [rd_eq] at b1
  cases ht : tk sEnd L p with
  | true =>
    rw [ht] at hr t1
    simp only [if_true, Option.some.injEq, rd_eq] at hr t1
    subst hr
    simp [run_json_reader_list, Run, home, b1, t1, hE, J.copied, J.parts, eS]
  | false =>
    rw [ht] at hr t1
    simp only [Bool.false_eq_true, if_false, rd_eq] at hr t1
    have h0 := hI d p [] r hr hs.2 hd (by simp)
    simp only [rd_eq, List.map_nil] at h0
    cases r with
    | ok j v =>
      obtain ⟨k0, t0, ns0, is0⟩ := v
      simp only [RetE, rd_eq, J.boxed, J.parts] at h0
      simp [run_json_reader_list, Run, home, b1, t1, hE, J.copied, J.parts, h0, -w0_json_reader_list]
    | bad w a =>
      obtain ⟨e', h1⟩ := h0
      simp [run_json_reader_list, Run, home, b1, t1, hE, h1, -w0_json_reader_list]
end Go.AM.F

/- JSON: the program's reader: objects, then every value. No conditions. -/
import Derived.Test.YtkcnnifgdhabgaaDoorK11
namespace Go.AM.F
open Go Go.AM
set_option maxRecDepth 10000
set_option linter.unusedSimpArgs false

theorem one_int (k : IntKind) (v : Int) : (Value.int k v).oneCell' = true := rfl
attribute [local simp] one_int
attribute [local simp] j0_json_reader_object j1_json_reader_object j2_json_reader_object j3_json_reader_object w0_json_reader_object b_json_reader_object a_json_reader_object
/-- Where an object's loop stands. -/
abbrev oEnv (L : List UInt8) (d i : Nat) (ns : List ByteArray) (acc : List J) : Env :=
  [(0, .ref 100000 []), (1, .v (.int .i64 d)), (4, z4), (5, .box [.v (.int .u8 7), .v (.string ⟨#[]⟩), .own 1 (ns.map str), .own 4 (acc.map J.pv)]), (6, .mapc (seenE 0 ns) ns.length), (10, .dead), (100000, rd L i)]
def ObjOK (L : List UInt8) (f : Nat) : Prop := ∀ (d i : Nat) (ns : List ByteArray) (acc : List J) (r : PR J), pMembers L f d i ns acc = some r → i ≤ L.length → d ≤ 256 → acc.length ≤ i → ns.length ≤ i →
  RetE L (Exec T l0_json_reader_object (oEnv L d i ns acc)) r
theorem obj_loop (L : List UInt8) (hl : L.length ≤ 16777216) (f : Nat) (hV : ValOK L f) (hI : ObjOK L f) : ObjOK L (f + 1) := by
  intro d i ns acc r hr hi hd ha hn
  have hs := skip_le blank L hi
  have b1 := c_blanks L i hi hl
  simp only [rd_eq] at b1
  have hE : (⟨#[125]⟩ : ByteArray) = sStop := rfl
  have hC : (⟨#[44]⟩ : ByteArray) = sComma := rfl
  have hC2 : (⟨#[58]⟩ : ByteArray) = sColon := rfl
  rw [ex0_json_reader_object]
  simp only [pMembers] at hr
  generalize skip blank L i = p at *
  have y1 := c_byte L p
  have y2 := c_fail L p
  simp only [rd_eq] at y1 y2
  by_cases hp : p < L.length
  case neg =>
    rw [if_neg (fun h => hp h.1), Option.some.injEq] at hr
    subst hr
    rw [if_neg hp] at y1
    simp [RetE, b1, y1]
  rw [if_pos hp] at y1
  by_cases hq : lt L p = 34
  case neg =>
    rw [if_neg (fun h => hq h.2), Option.some.injEq] at hr
    subst hr
    simp [RetE, b1, y1, y2, hq]
  rw [if_pos ⟨hp, hq⟩] at hr
  have t0 := c_text L p hp hl
  cases ht : pText L p with
  | bad w a =>
    rw [ht] at hr t0
    simp only [Option.some.injEq] at hr
    subst hr
    simp only [rd_eq, res_bad] at t0
    simp [RetE, b1, y1, hq, t0]
  | ok j s =>
    rw [ht] at hr t0
    have k1 := pTx_le (show p + 1 ≤ L.length by omega) ht
    simp only at hr
    simp only [rd_eq, res_ok, strP_eq] at t0
    by_cases hm : s ∈ ns
    case pos =>
      rw [if_pos (seen_iff.2 hm), Option.some.injEq] at hr
      subst hr
      obtain ⟨q, m1, ⟨en, m2, m3⟩, m4⟩ := seen_some (c := 0) (i := 0) hm
      have m5 : Instr.sameBits 0 en.key (.string s) = true := by rw [m3]; simp [Instr.sameBits, bytes_eq_iff]
      have m6 := m4 (.int .i64 2)
      simp only [kdOf, Nat.zero_add] at m1 m6
      simp [RetE, b1, y1, hq, t0, m1, m2, m5, m6, kdOf, wrong]
    case neg =>
      rw [if_neg (fun h => hm (seen_iff.1 h))] at hr
      have m1 := seen_none (c := 0) (i := 0) hm
      obtain ⟨q, m2⟩ := seen_new s (c := 0) (i := 0) hm
      simp only [kdOf, Nat.zero_add] at m1 m2
      have k2 := skip_le blank L k1.2
      have b2 := c_blanks L j k1.2 hl
      generalize skip blank L j = j1 at *
      have w1 := c_want L j1 sColon k2.2 hl (by decide)
      have a1 : ns.length + 1 ≤ 8796093022208 := by omega
      have a2 : ns.length ≤ 4611686018427387903 := by omega
      have a3 : (ns.length + 1) * 16 ≤ 140737488355328 := by omega
      cases hw : pWant sColon L j1 with
      | bad w a =>
        rw [hw] at hr w1
        simp only [Option.some.injEq] at hr
        subst hr
        simp only [rd_eq, res_bad] at b2 w1
        simp [RetE, b1, y1, hq, t0, m1, m2, kdOf, b2, hC2, w1]
      | ok j2 u =>
        rw [hw] at hr w1
        have k3 := pWant_le k2.2 hw
        have k4 := skip_le blank L k3.2
        have b3 := c_blanks L j2 k3.2 hl
        simp only at hr
        generalize skip blank L j2 = j3 at *
        simp only [rd_eq, res_ok] at b2 w1 b3
        cases hv : pV L f d j3 with
        | none => rw [hv] at hr; cases hr
        | some r1 =>
          have hc := hV d j3 r1 hv k4.2 hd
          rw [hv] at hr
          cases r1 with
          | bad w a =>
            simp only [Option.some.injEq] at hr
            subst hr
            simp only [rd_eq, res_bad] at hc
            simp [RetE, b1, y1, hq, t0, m1, m2, kdOf, b2, hC2, w1, b3, hc, a1, a2, a3]
          | ok j4 v =>
            have k5 := (p_le L f).1 _ _ _ _ k4.2 hv
            have k6 := skip_le blank L k5.2
            have b4 := c_blanks L j4 k5.2 hl
            simp only at hr
            generalize skip blank L j4 = j5 at *
            have t1 := c_takes L j5 sStop hl
            have e1 : (acc.length + 1) * 72 ≤ 140737488355328 := by omega
            have e2 : acc.length ≤ 4611686018427387903 := by omega
            cases ht : tk sStop L j5 with
            | true =>
              rw [ht] at hr t1
              simp only [if_true, Option.some.injEq] at hr
              subst hr
              obtain ⟨k0, tt0, ns0, is0⟩ := v
              simp only [rd_eq, res_ok, J.copied, J.parts, if_true, J.pv_mk] at hc b4 t1
              simp [RetE, b1, y1, hq, t0, m1, m2, kdOf, b2, hC2, w1, b3, hc, a1, a2, a3, b4, hE, t1, imm_strs, imm_pvs, e1, e2, J.boxed, J.parts, J.pv_mk, eS]
            | false =>
              rw [ht] at hr t1
              simp only [Bool.false_eq_true, if_false] at hr
              have w2 := c_want L j5 sComma k6.2 hl (by decide)
              cases hz : pWant sComma L j5 with
              | bad w a =>
                rw [hz] at hr w2
                simp only [Option.some.injEq] at hr
                subst hr
                obtain ⟨k0, tt0, ns0, is0⟩ := v
                simp only [rd_eq, res_ok, res_bad, J.copied, J.parts, Bool.false_eq_true, if_false, J.pv_mk] at hc b4 t1 w2
                simp [RetE, b1, y1, hq, t0, m1, m2, kdOf, b2, hC2, w1, b3, hc, a1, a2, a3, b4, hE, hC, t1, w2, imm_strs, imm_pvs, e1, e2]
              | ok k u =>
                rw [hz] at hr w2
                have k7 := pComma_le k6.2 hz
                have h0 := hI d k (ns ++ [s]) (acc ++ [v]) r hr k7.2 hd (by simp; omega) (by simp; omega)
                have hap : acc.map J.pv ++ [v.pv] = (acc ++ [v]).map J.pv := by simp
                have han : ns.map str ++ [.v (.string s)] = (ns ++ [s]).map str := by simp
                rw [oEnv, ← hap, ← han, seenE_append, Nat.zero_add, List.length_append, List.length_singleton] at h0
                obtain ⟨k0, tt0, ns0, is0⟩ := v
                simp only [rd_eq, res_ok, J.copied, J.parts, Bool.false_eq_true, if_false, J.pv_mk] at hc b4 t1 w2 h0
                simpa [b1, y1, hq, t0, m1, m2, kdOf, b2, hC2, w1, b3, hc, a1, a2, a3, b4, hE, hC, t1, w2, imm_strs, imm_pvs, e1, e2] using h0
def pObject (L : List UInt8) (f d i : Nat) : Option (PR J) := if tk sStop L (skip blank L i) then some (.ok (skip blank L i + 1) (.mk 7 eS [] [])) else pMembers L f d (skip blank L i) [] []
theorem c_object (L : List UInt8) (hl : L.length ≤ 16777216) (f : Nat) (hI : ObjOK L f) (d i : Nat) (r : PR J) (hr : pObject L f d i = some r) (hi : i ≤ L.length) (hd : d ≤ 256) :
    Cinf T n_json_reader_object [rd L i, .v (.int .i64 d)] = res L 1 J.copied r := by
  have hs := skip_le blank L hi
  have b1 := c_blanks L i hi hl
  have hE : (⟨#[125]⟩ : ByteArray) = sStop := rfl
  unfold pObject at hr
  generalize skip blank L i = p at *
  have t1 := c_takes L p sStop hl
  simp only [rd_eq] at b1
  cases ht : tk sStop L p with
  | true =>
    rw [ht] at hr t1
    simp only [if_true, Option.some.injEq, rd_eq] at hr t1
    subst hr
    simp [run_json_reader_object, Run, home, b1, t1, hE, J.copied, J.parts, eS]
  | false =>
    rw [ht] at hr t1
    simp only [Bool.false_eq_true, if_false, rd_eq] at hr t1
    have h0 := hI d p [] [] r hr hs.2 hd (by simp) (by simp)
    simp only [oEnv, rd_eq, List.map_nil, seenE, List.length_nil] at h0
    cases r with
    | ok j v =>
      obtain ⟨k0, tt0, ns0, is0⟩ := v
      simp only [RetE, rd_eq, J.boxed, J.parts] at h0
      simp [run_json_reader_object, Run, home, b1, t1, hE, J.copied, J.parts, h0, -w0_json_reader_object]
    | bad w a =>
      obtain ⟨e', h1⟩ := h0
      simp [run_json_reader_object, Run, home, b1, t1, hE, h1, -w0_json_reader_object]
theorem all_ok (L : List UInt8) (hl : L.length ≤ 16777216) : ∀ f : Nat, ValOK L f ∧ ListOK L f ∧ ObjOK L f
  | 0 => ⟨fun _ _ _ h => by simp [pV] at h, fun _ _ _ _ h => by simp [pItems] at h, fun _ _ _ _ _ h => by simp [pMembers] at h⟩
  | f + 1 => by
    obtain ⟨h1, h2, h3⟩ := all_ok L hl f
    refine ⟨fun d i r hr hi hd => ?_, list_loop L hl f h1 h2, obj_loop L hl f h1 h3⟩
    simp only [pV] at hr
    by_cases hlt : i < L.length
    · rw [if_pos hlt] at hr
      by_cases hc : lt L i = 91 ∨ lt L i = 123
      · rw [if_pos hc] at hr
        by_cases hd2 : d = 256
        · subst hd2
          rw [if_pos rfl, Option.some.injEq] at hr
          subst hr
          exact c_value_deep L i hlt hc
        · rw [if_neg hd2] at hr
          by_cases hc2 : lt L i = 91
          · rw [if_pos hc2] at hr
            exact c_value_list L i d r hlt hl (by omega) hc2 (c_list L hl f h2 (d + 1) (i + 1) r hr (by omega) (by omega))
          · rw [if_neg hc2] at hr
            exact c_value_object L i d r hlt hl (by omega) (hc.resolve_left hc2) (c_object L hl f h3 (d + 1) (i + 1) r hr (by omega) (by omega))
      · rw [if_neg hc, Option.some.injEq] at hr
        subst hr
        exact c_value_flat L i d hlt hl hc
    · rw [if_neg hlt, Option.some.injEq] at hr
      subst hr
      exact c_value_end L i d hlt
end Go.AM.F

/- JSON: the program's reader: values. No conditions. -/
import Derived.Test.YtkcnnifgdhabgaaDoorK8
namespace Go.AM.F
open Go Go.AM
set_option maxRecDepth 10000
set_option linter.unusedSimpArgs false

attribute [local simp] j0_json_reader_value j1_json_reader_value j2_json_reader_value b_json_reader_value a_json_reader_value
theorem c_value_end (L : List UInt8) (i : Nat) (d : Int) (hi : ¬ i < L.length) : Cinf T n_json_reader_value [rd L i, .v (.int .i64 d)] = res L 1 J.copied (.bad 100 i) := by
  have hb := c_byte L i
  rw [if_neg hi] at hb
  simp only [rd_eq] at hb
  simp [run_json_reader_value, Run, home, hb]
theorem c_value_word (L : List UInt8) (i : Nat) (d : Int) (hi : i < L.length) (hl : L.length ≤ 16777216) (h : lt L i = 110 ∨ lt L i = 102 ∨ lt L i = 116) : Cinf T n_json_reader_value [rd L i, .v (.int .i64 d)] = res L 1 J.copied (pFlat L i) := by
  have hb := c_byte L i
  rw [if_pos hi] at hb
  have w1 := c_want L i sNull (by omega) hl (by decide)
  have w2 := c_want L i sFalse (by omega) hl (by decide)
  have w3 := c_want L i sTrue (by omega) hl (by decide)
  have e1 : (⟨#[110, 117, 108, 108]⟩ : ByteArray) = sNull := rfl
  have e2 : (⟨#[102, 97, 108, 115, 101]⟩ : ByteArray) = sFalse := rfl
  have e3 : (⟨#[116, 114, 117, 101]⟩ : ByteArray) = sTrue := rfl
  simp only [rd_eq] at hb w1 w2 w3
  rcases h with h | h | h
  · cases hp : pWant sNull L i with
    | ok j u => simp [run_json_reader_value, Run, home, hb, w1, e1, h, hp, pFlat, J.copied, J.parts, eS]
    | bad w a => simp [run_json_reader_value, Run, home, hb, w1, e1, h, hp, pFlat]
  · cases hp : pWant sFalse L i with
    | ok j u => simp [run_json_reader_value, Run, home, hb, w2, e2, h, hp, pFlat, J.copied, J.parts, eS]
    | bad w a => simp [run_json_reader_value, Run, home, hb, w2, e2, h, hp, pFlat]
  · cases hp : pWant sTrue L i with
    | ok j u => simp [run_json_reader_value, Run, home, hb, w3, e3, h, hp, pFlat, J.copied, J.parts, eS]
    | bad w a => simp [run_json_reader_value, Run, home, hb, w3, e3, h, hp, pFlat]
theorem c_value_text (L : List UInt8) (i : Nat) (d : Int) (hi : i < L.length) (hl : L.length ≤ 16777216) (h : lt L i = 34) : Cinf T n_json_reader_value [rd L i, .v (.int .i64 d)] = res L 1 J.copied (pFlat L i) := by
  have hb := c_byte L i
  rw [if_pos hi] at hb
  have w1 := c_text L i hi hl
  simp only [rd_eq] at hb w1
  cases hp : pText L i with
  | ok j u => simp [run_json_reader_value, Run, home, hb, w1, h, hp, pFlat, J.copied, J.parts, eS]
  | bad w a => simp [run_json_reader_value, Run, home, hb, w1, h, hp, pFlat]
theorem pNumber_le {L : List UInt8} {i j : Nat} {u : Unit} (hi : i ≤ L.length) (h : pNumber L i = .ok j u) : i < j ∧ j ≤ L.length := by
  unfold pNumber at h
  have h1 := past_le sMinus L hi
  cases hp : pInt L (past sMinus L i) with
  | bad w a => rw [hp] at h; cases h
  | ok k u1 =>
    rw [hp, PR.bind_ok] at h
    have h2 := pInt_le hp
    cases hq : pFrac L k with
    | bad w a => rw [hq] at h; cases h
    | ok m u2 =>
      rw [hq, PR.bind_ok] at h
      have h3 := pFrac_le h2.2 hq
      have h4 := pExp_le h3.2 h
      omega
theorem c_value_number (L : List UInt8) (i : Nat) (d : Int) (hi : i < L.length) (hl : L.length ≤ 16777216) (h : lt L i = 45 ∨ digit (lt L i) = true) : Cinf T n_json_reader_value [rd L i, .v (.int .i64 d)] = res L 1 J.copied (pFlat L i) := by
  have hb := c_byte L i
  rw [if_pos hi] at hb
  have w1 := c_number L i (by omega) hl
  simp only [rd_eq] at hb w1
  have n0 : ¬ lt L i = 110 ∧ ¬ lt L i = 102 ∧ ¬ lt L i = 116 ∧ ¬ lt L i = 34 ∧ ¬ lt L i = 91 ∧ ¬ lt L i = 123 := by
    rcases h with h | h
    · omega
    · simp [digit] at h
      omega
  obtain ⟨n1, n2, n3, n4, n5, n6⟩ := n0
  have hf : pFlat L i = (pNumber L i).bind fun j _ => .ok j (.mk 4 (tx ((L.drop i).take (j - i))) [] []) := by
    unfold pFlat
    rw [if_neg n1, if_neg n2, if_neg n3, if_neg n4, if_pos h]
  rw [hf]
  have hor : lt L i = 45 ∨ (¬ lt L i = 45 ∧ 48 ≤ lt L i ∧ lt L i ≤ 57) := by
    rcases h with h | h
    · exact .inl h
    · simp [digit] at h
      by_cases h2 : lt L i = 45
      · exact .inl h2
      · exact .inr ⟨h2, h.1, h.2⟩
  cases hp : pNumber L i with
  | ok j u =>
    have hj := pNumber_le (by omega) hp
    have g1 : i ≤ j := by omega
    have g2 : j ≤ L.length := hj.2
    have hcut : ((bl L).take j).drop i = bl ((L.drop i).take (j - i)) := by
      rw [← bl_cut, show i + (j - i) = j by omega]
    rcases hor with h | ⟨h, h2, h3⟩
    · simp [run_json_reader_value, Run, home, hb, w1, n1, n2, n3, n4, n5, n6, h, hp, J.copied, J.parts, g1, g2, hcut, bytesOf_bl, tx]
    · simp [run_json_reader_value, Run, home, hb, w1, n1, n2, n3, n4, n5, n6, h, h2, h3, hp, J.copied, J.parts, g1, g2, hcut, bytesOf_bl, tx]
  | bad w a =>
    rcases hor with h | ⟨h, h2, h3⟩
    · simp [run_json_reader_value, Run, home, hb, w1, n1, n2, n3, n4, n5, n6, h, hp]
    · simp [run_json_reader_value, Run, home, hb, w1, n1, n2, n3, n4, n5, n6, h, h2, h3, hp]
theorem c_value_none (L : List UInt8) (i : Nat) (d : Int) (hi : i < L.length) (h : ¬ (lt L i = 91 ∨ lt L i = 123)) (h2 : ¬ (lt L i = 110 ∨ lt L i = 102 ∨ lt L i = 116)) (h3 : ¬ lt L i = 34) (h4 : ¬ (lt L i = 45 ∨ digit (lt L i) = true)) :
    Cinf T n_json_reader_value [rd L i, .v (.int .i64 d)] = res L 1 J.copied (pFlat L i) := by
  have hb := c_byte L i
  rw [if_pos hi] at hb
  have hf := c_fail L i
  simp only [rd_eq] at hb hf
  simp only [not_or] at h h2 h4
  obtain ⟨n5, n6⟩ := h
  obtain ⟨n1, n2, n3⟩ := h2
  obtain ⟨n7, n8⟩ := h4
  have hfl : pFlat L i = .bad 100 i := by
    unfold pFlat
    rw [if_neg n1, if_neg n2, if_neg n3, if_neg h3, if_neg (by rw [not_or]; exact ⟨n7, n8⟩)]
  rw [hfl]
  have n9 : lt L i < 48 ∨ (48 ≤ lt L i ∧ ¬ lt L i ≤ 57) := by
    simp [digit] at n8
    omega
  rcases n9 with n9 | ⟨n9, n10⟩
  · have n11 : ¬ 48 ≤ lt L i := by omega
    simp [run_json_reader_value, Run, home, hb, hf, n1, n2, n3, h3, n5, n6, n7, n9, n11]
  · simp [run_json_reader_value, Run, home, hb, hf, n1, n2, n3, h3, n5, n6, n7, n9, n10]
theorem c_value_flat (L : List UInt8) (i : Nat) (d : Int) (hi : i < L.length) (hl : L.length ≤ 16777216) (h : ¬ (lt L i = 91 ∨ lt L i = 123)) : Cinf T n_json_reader_value [rd L i, .v (.int .i64 d)] = res L 1 J.copied (pFlat L i) := by
  by_cases h2 : lt L i = 110 ∨ lt L i = 102 ∨ lt L i = 116
  · exact c_value_word L i d hi hl h2
  by_cases h3 : lt L i = 34
  · exact c_value_text L i d hi hl h3
  by_cases h4 : lt L i = 45 ∨ digit (lt L i) = true
  · exact c_value_number L i d hi hl h4
  exact c_value_none L i d hi h h2 h3 h4
theorem c_value_deep (L : List UInt8) (i : Nat) (hi : i < L.length) (h : lt L i = 91 ∨ lt L i = 123) : Cinf T n_json_reader_value [rd L i, .v (.int .i64 256)] = res L 1 J.copied (.bad 101 i) := by
  have hb := c_byte L i
  rw [if_pos hi] at hb
  simp only [rd_eq] at hb
  rcases h with h | h
  · simp [run_json_reader_value, Run, home, hb, h, wrong]
  · simp [run_json_reader_value, Run, home, hb, h, wrong]
theorem c_value_list (L : List UInt8) (i d : Nat) (r : PR J) (hi : i < L.length) (hl : L.length ≤ 16777216) (hd : d < 256) (h : lt L i = 91) (hc : Cinf T n_json_reader_list [rd L (i + 1), .v (.int .i64 (d + 1 : Nat))] = res L 1 J.copied r) :
    Cinf T n_json_reader_value [rd L i, .v (.int .i64 d)] = res L 1 J.copied r := by
  have hb := c_byte L i
  rw [if_pos hi] at hb
  have hw := wrap_succ hi (by omega)
  have hw2 := wrap_succ hd (by omega)
  have hd2 : ¬ d = 256 := by omega
  have hd3 : ¬ (d : Int) = 256 := by omega
  simp only [rd_eq, succ_cast] at hb hc
  cases r with
  | ok j v =>
    obtain ⟨k, t, ns, is⟩ := v
    simp only [res_ok, J.copied, J.parts] at hc ⊢
    simp [run_json_reader_value, Run, home, hb, hc, h, hw, hw2, hd2, hd3]
  | bad w a =>
    simp only [res_bad] at hc ⊢
    simp [run_json_reader_value, Run, home, hb, hc, h, hw, hw2, hd2, hd3]
theorem c_value_object (L : List UInt8) (i d : Nat) (r : PR J) (hi : i < L.length) (hl : L.length ≤ 16777216) (hd : d < 256) (h : lt L i = 123) (hc : Cinf T n_json_reader_object [rd L (i + 1), .v (.int .i64 (d + 1 : Nat))] = res L 1 J.copied r) :
    Cinf T n_json_reader_value [rd L i, .v (.int .i64 d)] = res L 1 J.copied r := by
  have hb := c_byte L i
  rw [if_pos hi] at hb
  have hw := wrap_succ hi (by omega)
  have hw2 := wrap_succ hd (by omega)
  have hd2 : ¬ d = 256 := by omega
  have hd3 : ¬ (d : Int) = 256 := by omega
  simp only [rd_eq, succ_cast] at hb hc
  cases r with
  | ok j v =>
    obtain ⟨k, t, ns, is⟩ := v
    simp only [res_ok, J.copied, J.parts] at hc ⊢
    simp [run_json_reader_value, Run, home, hb, hc, h, hw, hw2, hd2, hd3]
  | bad w a =>
    simp only [res_bad] at hc ⊢
    simp [run_json_reader_value, Run, home, hb, hc, h, hw, hw2, hd2, hd3]
end Go.AM.F

/- JSON: the document's reader: values. No conditions. -/
import Derived.Test.YtkcnnifgdhabgaaDoorM10
import Derived.Test.YtkcnnifgdhabgaaDoorK13
namespace Go.AM.F
open Go Go.AM
set_option maxRecDepth 10000
set_option linter.unusedSimpArgs false

attribute [local simp] j0_thicketref10_reading_value j1_thicketref10_reading_value j2_thicketref10_reading_value j3_thicketref10_reading_value j4_thicketref10_reading_value b_thicketref10_reading_value a_thicketref10_reading_value
theorem h100 : ((100 : Nat) : Int) = 100 := rfl
theorem h101 : ((101 : Nat) : Int) = 101 := rfl
/-- A value's beginning: its blanks. -/
theorem rv_end (L : List UInt8) (i : Nat) (d : Int) (hi : i ≤ L.length) (hl : L.length ≤ 16777216) (hp : ¬ skip blank L i < L.length) : Rg L 1 J.copied (Cinf T n_thicketref10_reading_value [rg L i 0 0, .v (.int .i64 d)]) (.bad 100 (skip blank L i)) := by
  have hs := skip_le blank L hi
  have hb := c_rblanks L i 0 0 hi hl
  generalize skip blank L i = p at *
  have ho := c_rok0 L p 0
  have hf := c_rfail L p 100 p
  have n1 : L.length ≤ p := by omega
  simp only [rg_eq, Int.natCast_zero, h100] at hb ho hf
  refine ⟨by decide, p, zeroJ, hs.2, ?_⟩
  simp [run_thicketref10_reading_value, Run, home, hb, ho, hf, n1, zeroJ, J.copied, J.parts, eS, h100]
theorem rv_word (L : List UInt8) (i p : Nat) (d : Int) (hi : i ≤ L.length) (hl : L.length ≤ 16777216) (hsk : skip blank L i = p) (hp : p < L.length) (h : lt L p = 110 ∨ lt L p = 102 ∨ lt L p = 116) : Rg L 1 J.copied (Cinf T n_thicketref10_reading_value [rg L i 0 0, .v (.int .i64 d)]) (pFlat L p) := by
  have hb := c_rblanks L i 0 0 hi hl
  rw [hsk] at hb
  have ho := c_rok0 L p 0
  have n1 : ¬ L.length ≤ p := by omega
  have w1 := c_must L p sNull (by omega) hl (by decide)
  have w2 := c_must L p sFalse (by omega) hl (by decide)
  have w3 := c_must L p sTrue (by omega) hl (by decide)
  have e1 : (⟨#[110, 117, 108, 108]⟩ : ByteArray) = sNull := rfl
  have e2 : (⟨#[102, 97, 108, 115, 101]⟩ : ByteArray) = sFalse := rfl
  have e3 : (⟨#[116, 114, 117, 101]⟩ : ByteArray) = sTrue := rfl
  simp only [rg_eq, Int.natCast_zero] at hb ho
  rcases h with h | h | h
  · have hF : pFlat L p = (pWant sNull L p).bind fun j _ => .ok j (.mk 1 eS [] []) := by unfold pFlat; rw [if_pos h]
    rw [hF]
    cases hw : pWant sNull L p with
    | ok j u =>
      rw [hw] at w1
      simp only [Rg, rg_eq, Int.natCast_zero] at w1
      simp [Rg, run_thicketref10_reading_value, Run, home, hb, ho, w1, e1, h, hp, n1, bl_getE hp, J.copied, J.parts, eS]
    | bad w a =>
      rw [hw] at w1
      obtain ⟨g1, k, u, g2, w1⟩ := w1
      simp only [rg_eq, Int.natCast_zero] at w1
      refine ⟨g1, k, .mk 1 eS [] [], g2, ?_⟩
      simp [run_thicketref10_reading_value, Run, home, hb, ho, w1, e1, h, hp, n1, bl_getE hp, J.copied, J.parts, eS]
  · have hF : pFlat L p = (pWant sFalse L p).bind fun j _ => .ok j (.mk 2 eS [] []) := by unfold pFlat; rw [if_neg (by omega), if_pos h]
    rw [hF]
    cases hw : pWant sFalse L p with
    | ok j u =>
      rw [hw] at w2
      simp only [Rg, rg_eq, Int.natCast_zero] at w2
      simp [Rg, run_thicketref10_reading_value, Run, home, hb, ho, w2, e2, h, hp, n1, bl_getE hp, J.copied, J.parts, eS]
    | bad w a =>
      rw [hw] at w2
      obtain ⟨g1, k, u, g2, w2⟩ := w2
      simp only [rg_eq, Int.natCast_zero] at w2
      refine ⟨g1, k, .mk 2 eS [] [], g2, ?_⟩
      simp [run_thicketref10_reading_value, Run, home, hb, ho, w2, e2, h, hp, n1, bl_getE hp, J.copied, J.parts, eS]
  · have hF : pFlat L p = (pWant sTrue L p).bind fun j _ => .ok j (.mk 3 eS [] []) := by unfold pFlat; rw [if_neg (by omega), if_neg (by omega), if_pos h]
    rw [hF]
    cases hw : pWant sTrue L p with
    | ok j u =>
      rw [hw] at w3
      simp only [Rg, rg_eq, Int.natCast_zero] at w3
      simp [Rg, run_thicketref10_reading_value, Run, home, hb, ho, w3, e3, h, hp, n1, bl_getE hp, J.copied, J.parts, eS]
    | bad w a =>
      rw [hw] at w3
      obtain ⟨g1, k, u, g2, w3⟩ := w3
      simp only [rg_eq, Int.natCast_zero] at w3
      refine ⟨g1, k, .mk 3 eS [] [], g2, ?_⟩
      simp [run_thicketref10_reading_value, Run, home, hb, ho, w3, e3, h, hp, n1, bl_getE hp, J.copied, J.parts, eS]
theorem rv_number (L : List UInt8) (i p : Nat) (d : Int) (hi : i ≤ L.length) (hl : L.length ≤ 16777216) (hsk : skip blank L i = p) (hp : p < L.length) (h : lt L p = 45 ∨ digit (lt L p) = true) : Rg L 1 J.copied (Cinf T n_thicketref10_reading_value [rg L i 0 0, .v (.int .i64 d)]) (pFlat L p) := by
  have hb := c_rblanks L i 0 0 hi hl
  rw [hsk] at hb
  have ho := c_rok0 L p 0
  have n0 : ¬ L.length ≤ p := by omega
  have w1 := c_rnumber L p (by omega) hl
  have hdg := c_isDigit (lt L p)
  have hn : ¬ lt L p = 110 ∧ ¬ lt L p = 102 ∧ ¬ lt L p = 116 ∧ ¬ lt L p = 34 ∧ ¬ lt L p = 91 ∧ ¬ lt L p = 123 := by
    rcases h with h | h
    · omega
    · simp [digit] at h
      omega
  obtain ⟨n1, n2, n3, n4, n5, n6⟩ := hn
  have hf : pFlat L p = (pNumber L p).bind fun j _ => .ok j (.mk 4 (mTo L p j) [] []) := by
    unfold pFlat
    rw [if_neg n1, if_neg n2, if_neg n3, if_neg n4, if_pos h]
    rfl
  rw [hf]
  have hor : lt L p = 45 ∨ (¬ lt L p = 45 ∧ digit (lt L p) = true) := by
    by_cases h2 : lt L p = 45
    · exact .inl h2
    · exact .inr ⟨h2, h.resolve_left h2⟩
  simp only [rg_eq, Int.natCast_zero] at hb ho
  unfold pNum at w1
  cases hq : pNumber L p with
  | ok j u =>
    rw [hq] at w1
    simp only [PR.bind_ok, Rg, rg_eq, Int.natCast_zero, strP_eq] at w1
    rcases hor with h | ⟨h, h2⟩
    · simp [Rg, run_thicketref10_reading_value, Run, home, hb, ho, w1, n0, n1, n2, n3, n4, n5, n6, h, hp, bl_getE hp, J.copied, J.parts]
    · simp [Rg, run_thicketref10_reading_value, Run, home, hb, ho, w1, n0, n1, n2, n3, n4, n5, n6, h, h2, hdg, hp, bl_getE hp, J.copied, J.parts]
  | bad w a =>
    rw [hq] at w1
    obtain ⟨g1, k, s, g2, w1⟩ := w1
    simp only [rg_eq, Int.natCast_zero, strP_eq] at w1
    refine ⟨g1, k, .mk 4 s [] [], g2, ?_⟩
    rcases hor with h | ⟨h, h2⟩
    · simp [run_thicketref10_reading_value, Run, home, hb, ho, w1, n0, n1, n2, n3, n4, n5, n6, h, hp, bl_getE hp, J.copied, J.parts]
    · simp [run_thicketref10_reading_value, Run, home, hb, ho, w1, n0, n1, n2, n3, n4, n5, n6, h, h2, hdg, hp, bl_getE hp, J.copied, J.parts]
theorem rv_text (L : List UInt8) (i p : Nat) (d : Int) (hi : i ≤ L.length) (hl : L.length ≤ 16777216) (hsk : skip blank L i = p) (hp : p < L.length) (h : lt L p = 34) : Rg L 1 J.copied (Cinf T n_thicketref10_reading_value [rg L i 0 0, .v (.int .i64 d)]) (pFlat L p) := by
  have hb := c_rblanks L i 0 0 hi hl
  rw [hsk] at hb
  have ho := c_rok0 L p 0
  have n0 : ¬ L.length ≤ p := by omega
  have w1 := c_rtext L p (by omega) hl
  have hdg := c_isDigit 34
  have hd0 : digit 34 = false := rfl
  rw [hd0] at hdg
  have h34 : ((34 : Nat) : Int) = 34 := rfl
  rw [h34] at hdg
  unfold pText0 at w1
  rw [if_pos ⟨hp, h⟩] at w1
  have hf : pFlat L p = (pText L p).bind fun j s => .ok j (.mk 5 s [] []) := by
    unfold pFlat
    rw [if_neg (by omega), if_neg (by omega), if_neg (by omega), if_pos h]
  rw [hf]
  simp only [rg_eq, Int.natCast_zero] at hb ho
  cases hq : pText L p with
  | ok j s =>
    rw [hq] at w1
    simp only [Rg, rg_eq, Int.natCast_zero, strP_eq] at w1
    simp [Rg, run_thicketref10_reading_value, Run, home, hb, ho, w1, n0, h, hdg, hp, bl_getE hp, J.copied, J.parts]
  | bad w a =>
    rw [hq] at w1
    obtain ⟨g1, k, s, g2, w1⟩ := w1
    simp only [rg_eq, Int.natCast_zero, strP_eq] at w1
    refine ⟨g1, k, .mk 5 s [] [], g2, ?_⟩
    simp [run_thicketref10_reading_value, Run, home, hb, ho, w1, n0, h, hdg, hp, bl_getE hp, J.copied, J.parts]
theorem rv_none (L : List UInt8) (i p : Nat) (d : Int) (hi : i ≤ L.length) (hl : L.length ≤ 16777216) (hsk : skip blank L i = p) (hp : p < L.length) (h : ¬ (lt L p = 91 ∨ lt L p = 123)) (h2 : ¬ (lt L p = 110 ∨ lt L p = 102 ∨ lt L p = 116)) (h3 : ¬ lt L p = 34) (h4 : ¬ (lt L p = 45 ∨ digit (lt L p) = true)) :
    Rg L 1 J.copied (Cinf T n_thicketref10_reading_value [rg L i 0 0, .v (.int .i64 d)]) (pFlat L p) := by
  have hb := c_rblanks L i 0 0 hi hl
  rw [hsk] at hb
  have ho := c_rok0 L p 0
  have hf := c_rfail L p 100 p
  have n0 : ¬ L.length ≤ p := by omega
  have hdg := c_isDigit (lt L p)
  simp only [rg_eq, Int.natCast_zero, h100] at hb ho hf
  simp only [not_or] at h h2 h4
  obtain ⟨n5, n6⟩ := h
  obtain ⟨n1, n2, n3⟩ := h2
  obtain ⟨n7, n8⟩ := h4
  have hfl : pFlat L p = .bad 100 p := by
    unfold pFlat
    rw [if_neg n1, if_neg n2, if_neg n3, if_neg h3, if_neg (by rw [not_or]; exact ⟨n7, n8⟩)]
  rw [hfl]
  refine ⟨by decide, p, zeroJ, by omega, ?_⟩
  simp [run_thicketref10_reading_value, Run, home, hb, ho, hf, n0, n1, n2, n3, h3, n5, n6, n7, n8, hdg, hp, bl_getE hp, zeroJ, J.copied, J.parts, eS, h100]
theorem rv_flat (L : List UInt8) (i p : Nat) (d : Int) (hi : i ≤ L.length) (hl : L.length ≤ 16777216) (hsk : skip blank L i = p) (hp : p < L.length) (h : ¬ (lt L p = 91 ∨ lt L p = 123)) : Rg L 1 J.copied (Cinf T n_thicketref10_reading_value [rg L i 0 0, .v (.int .i64 d)]) (pFlat L p) := by
  by_cases h2 : lt L p = 110 ∨ lt L p = 102 ∨ lt L p = 116
  · exact rv_word L i p d hi hl hsk hp h2
  by_cases h3 : lt L p = 34
  · exact rv_text L i p d hi hl hsk hp h3
  by_cases h4 : lt L p = 45 ∨ digit (lt L p) = true
  · exact rv_number L i p d hi hl hsk hp h4
  exact rv_none L i p d hi hl hsk hp h h2 h3 h4
theorem rv_deep (L : List UInt8) (i p : Nat) (hi : i ≤ L.length) (hl : L.length ≤ 16777216) (hsk : skip blank L i = p) (hp : p < L.length) (h : lt L p = 91 ∨ lt L p = 123) : Rg L 1 J.copied (Cinf T n_thicketref10_reading_value [rg L i 0 0, .v (.int .i64 256)]) (.bad 101 p) := by
  have hb := c_rblanks L i 0 0 hi hl
  rw [hsk] at hb
  have ho := c_rok0 L p 0
  have hf := c_rfail L p 101 p
  have n0 : ¬ L.length ≤ p := by omega
  have hdg := c_isDigit (lt L p)
  simp only [rg_eq, Int.natCast_zero, h101] at hb ho hf
  refine ⟨by decide, p, zeroJ, by omega, ?_⟩
  rcases h with h | h
  · have hd0 : digit 91 = false := rfl
    have hl0 : ((91 : Nat) : Int) = 91 := rfl
    rw [h, hd0, hl0] at hdg
    simp [run_thicketref10_reading_value, Run, home, hb, ho, hf, n0, h, hdg, hp, bl_getE hp, zeroJ, J.copied, J.parts, eS, h101]
  · have hd0 : digit 123 = false := rfl
    have hl0 : ((123 : Nat) : Int) = 123 := rfl
    rw [h, hd0, hl0] at hdg
    simp [run_thicketref10_reading_value, Run, home, hb, ho, hf, n0, h, hdg, hp, bl_getE hp, zeroJ, J.copied, J.parts, eS, h101]
theorem rv_list (L : List UInt8) (i p d : Nat) (r : PR J) (hi : i ≤ L.length) (hl : L.length ≤ 16777216) (hsk : skip blank L i = p) (hp : p < L.length) (hd : d < 256) (h : lt L p = 91) (hc : Rg L 1 J.copied (Cinf T n_thicketref10_reading_list [rg L (p + 1) 0 0, .v (.int .i64 (d + 1 : Nat))]) r) :
    Rg L 1 J.copied (Cinf T n_thicketref10_reading_value [rg L i 0 0, .v (.int .i64 d)]) r := by
  have hb := c_rblanks L i 0 0 hi hl
  rw [hsk] at hb
  have ho := c_rok0 L p 0
  have n0 : ¬ L.length ≤ p := by omega
  have hdg := c_isDigit (lt L p)
  have hw := wrap_succ hp (by omega)
  have hw2 := wrap_succ hd (by omega)
  have hd2 : ¬ d = 256 := by omega
  have hd0 : digit 91 = false := rfl
  have hl0 : ((91 : Nat) : Int) = 91 := rfl
  rw [h, hd0, hl0] at hdg
  simp only [rg_eq, Int.natCast_zero] at hb ho
  cases r with
  | ok j v =>
    obtain ⟨k, t, ns, is⟩ := v
    simp only [Rg, rg_eq, Int.natCast_zero, J.copied, J.parts, succ_cast] at hc ⊢
    simp [run_thicketref10_reading_value, Run, home, hb, ho, n0, h, hdg, hp, bl_getE hp, hw, hw2, hd2, hc]
  | bad w a =>
    obtain ⟨g1, j, ⟨k, t, ns, is⟩, g2, hc⟩ := hc
    simp only [rg_eq, Int.natCast_zero, J.copied, J.parts, succ_cast] at hc
    refine ⟨g1, j, .mk k t ns is, g2, ?_⟩
    simp [run_thicketref10_reading_value, Run, home, hb, ho, n0, h, hdg, hp, bl_getE hp, hw, hw2, hd2, hc, J.copied, J.parts]
theorem rv_object (L : List UInt8) (i p d : Nat) (r : PR J) (hi : i ≤ L.length) (hl : L.length ≤ 16777216) (hsk : skip blank L i = p) (hp : p < L.length) (hd : d < 256) (h : lt L p = 123) (hc : Rg L 1 J.copied (Cinf T n_thicketref10_reading_object [rg L (p + 1) 0 0, .v (.int .i64 (d + 1 : Nat))]) r) :
    Rg L 1 J.copied (Cinf T n_thicketref10_reading_value [rg L i 0 0, .v (.int .i64 d)]) r := by
  have hb := c_rblanks L i 0 0 hi hl
  rw [hsk] at hb
  have ho := c_rok0 L p 0
  have n0 : ¬ L.length ≤ p := by omega
  have hdg := c_isDigit (lt L p)
  have hw := wrap_succ hp (by omega)
  have hw2 := wrap_succ hd (by omega)
  have hd2 : ¬ d = 256 := by omega
  have hd0 : digit 123 = false := rfl
  have hl0 : ((123 : Nat) : Int) = 123 := rfl
  rw [h, hd0, hl0] at hdg
  simp only [rg_eq, Int.natCast_zero] at hb ho
  cases r with
  | ok j v =>
    obtain ⟨k, t, ns, is⟩ := v
    simp only [Rg, rg_eq, Int.natCast_zero, J.copied, J.parts, succ_cast] at hc ⊢
    simp [run_thicketref10_reading_value, Run, home, hb, ho, n0, h, hdg, hp, bl_getE hp, hw, hw2, hd2, hc]
  | bad w a =>
    obtain ⟨g1, j, ⟨k, t, ns, is⟩, g2, hc⟩ := hc
    simp only [rg_eq, Int.natCast_zero, J.copied, J.parts, succ_cast] at hc
    refine ⟨g1, j, .mk k t ns is, g2, ?_⟩
    simp [run_thicketref10_reading_value, Run, home, hb, ho, n0, h, hdg, hp, bl_getE hp, hw, hw2, hd2, hc, J.copied, J.parts]
end Go.AM.F

/- JSON: the document's reader: texts. No conditions. -/
import Derived.Test.YtkcnnifgdhabgaaDoorM9
namespace Go.AM.F
open Go Go.AM
set_option maxRecDepth 10000
set_option linter.unusedSimpArgs false

attribute [local simp] j0_thicketref10_reading_text j1_thicketref10_reading_text j2_thicketref10_reading_text w0_thicketref10_reading_text b_thicketref10_reading_text a_thicketref10_reading_text j3_thicketref10_reading_text
abbrev txE (L : List UInt8) (l : List PV) (i w b : Nat) : Env := [(0, .ref 100000 []), (3, .own 1 l), (70, .dead), (107, .dead), (100000, rg L i w b)]
theorem text_out (L : List UInt8) (l : List PV) (i w b : Nat) (hw : w ≠ 0) : Exec T l0_thicketref10_reading_text (txE L l i w b) = some (.exit 0, txE L l i w b) := by
  have ho := c_rokN L i b hw
  simp only [rg_eq] at ho
  rw [ex0_thicketref10_reading_text]
  simp [ho]
/-- How the document's text ends. -/
def TextEnd (L : List UInt8) (x : Option (Out × Env)) : PR ByteArray → Prop
  | .ok j s => x = some (.ret, [(2, .v (.string s)), (100000, rg L j 0 0)])
  | .bad w b => w ≠ 0 ∧ ∃ j, j ≤ L.length ∧ (x = some (.ret, [(2, .v (.string eS)), (100000, rg L j w b)]) ∨ ∃ l, x = some (.exit 0, txE L l j w b))
theorem rtext_loop (L : List UInt8) (hl : L.length ≤ 16777216) : ∀ (m i : Nat) (acc : List UInt8), L.length - i < m → i ≤ L.length → acc.length ≤ 4 * i →
    TextEnd L (Exec T l0_thicketref10_reading_text (txE L (bl acc) i 0 0)) (pTx L m acc i) := by
  intro m
  induction m with
  | zero => intro i acc h; omega
  | succ m ih =>
    intro i acc hm hi ha
    have ho := c_rok0 L i 0
    have hf := c_rfail L i 100 i
    have h100 : ((100 : Nat) : Int) = 100 := rfl
    simp only [rg_eq, h100, Int.natCast_zero] at ho hf
    rw [ex0_thicketref10_reading_text]
    simp only [pTx]
    by_cases h1 : i < L.length
    · rw [if_pos h1]
      have n1 : ¬ L.length ≤ i := by omega
      have hw := wrap_succ h1 (by omega)
      have hsm := lt_small L i
      by_cases c1 : lt L i = 34
      · rw [if_pos c1]
        simp [TextEnd, ho, h1, n1, bl_getE h1, c1, hw, bytesOf_bl, tx]
      rw [if_neg c1]
      by_cases c2 : lt L i = 92
      · rw [if_pos c2]
        have he := c_rescape L i h1 hl
        cases hp : pEscape L i with
        | bad w b =>
          rw [hp] at he
          obtain ⟨g1, j, s, g2, g3, he⟩ := he
          have hout := text_out L (bl acc ++ byteList s) j w b g1
          have b1 : acc.length + s.size ≤ 140737488355328 := by omega
          have b2 : acc.length + s.size ≤ 4611686018427387904 := by omega
          simp only [txE, rg_eq, Int.natCast_zero, ownS_eq] at he hout
          refine ⟨g1, j, g2, .inr ⟨bl acc ++ byteList s, ?_⟩⟩
          simpa [ho, h1, n1, bl_getE h1, c1, c2, he, byteList_bl, bl_append, size_list, b1, b2, txE] using hout
        | ok j s =>
          rw [hp] at he
          have h2 := pEscape_le hp
          have h0 := ih j (acc ++ s.data.toList) (by omega) h2.2.1 (by rw [List.length_append, size_list]; omega)
          have b1 : acc.length + s.size ≤ 140737488355328 := by omega
          have b2 : acc.length + s.size ≤ 4611686018427387904 := by omega
          rw [PR.bind_ok]
          simp only [Rs, txE, rg_eq, Int.natCast_zero, ownS_eq] at he h0
          simpa [ho, h1, n1, bl_getE h1, c1, c2, he, byteList_bl, bl_append, size_list, b1, b2] using h0
      rw [if_neg c2]
      by_cases c3 : lt L i < 32
      · rw [if_pos c3]
        have hout := text_out L (bl acc) i 100 i (by decide)
        simp only [txE, rg_eq, h100] at hout
        refine ⟨by decide, i, hi, .inr ⟨bl acc, ?_⟩⟩
        simpa [ho, h1, n1, bl_getE h1, c1, c2, c3, hf, txE] using hout
      rw [if_neg c3]
      have hch := c_Char (L.drop i)
      have hu := uc_le (L.drop i)
      rw [List.length_drop] at hu
      have hi2 : (i : Int) ≤ L.length := by omega
      by_cases c4 : uc (L.drop i) = 0
      · rw [if_pos c4]
        rw [c4] at hch
        refine ⟨by decide, i, hi, .inl ?_⟩
        simp only [Int.natCast_zero] at hch
        simp [ho, h1, n1, bl_getE h1, c1, c2, c3, hf, hi, hi2, bl_drop, bl_full, hch, eS]
      · rw [if_neg c4]
        generalize uc (L.drop i) = k at *
        have hk : IntKind.i64.wrap ((i : Int) + (k : Int)) = ((i + k : Nat) : Int) := by rw [wrap_i64] <;> omega
        have b1 : acc.length + k ≤ 140737488355328 := by omega
        have b2 : acc.length + k ≤ 4611686018427387904 := by omega
        have hk2 : i + k ≤ L.length := by omega
        have htk : ((L.drop i).take k).length = k := by rw [List.length_take, List.length_drop]; omega
        have h0 := ih (i + k) (acc ++ (L.drop i).take k) (by omega) (by omega) (by rw [List.length_append, htk]; omega)
        have k1 : i ≤ i + k := by omega
        simp only [txE, rg_eq, Int.natCast_zero] at h0
        simpa [ho, h1, n1, bl_getE h1, c1, c2, c3, hi, hi2, bl_drop, bl_full, hch, c4, hk, hk2, k1, bl_cut, bl_append, htk, b1, b2, -Int.natCast_add] using h0
    · rw [if_neg h1]
      have n1 : L.length ≤ i := by omega
      refine ⟨by decide, i, hi, .inl ?_⟩
      simp [ho, n1, hf, eS]
/-- A text, from its first mark on; or the fault that there is none. -/
def pText0 (L : List UInt8) (i : Nat) : PR ByteArray := if i < L.length ∧ lt L i = 34 then pText L i else .bad 100 i
def sMark : ByteArray := ⟨#[34]⟩
theorem mark_want (L : List UInt8) (i : Nat) : pWant sMark L i = if i < L.length ∧ lt L i = 34 then .ok (i + 1) () else .bad 100 i := rfl
theorem c_rtext (L : List UInt8) (i : Nat) (hi : i ≤ L.length) (hl : L.length ≤ 16777216) : Rg L 0 strP (Cinf T n_thicketref10_reading_text [rg L i 0 0]) (pText0 L i) := by
  have hM : (⟨#[34]⟩ : ByteArray) = sMark := rfl
  have hm := c_must L i sMark hi hl (by decide)
  rw [mark_want] at hm
  unfold pText0
  have e0 : eS = ⟨#[]⟩ := rfl
  by_cases h1 : i < L.length ∧ lt L i = 34
  · rw [if_pos h1] at hm ⊢
    have h := rtext_loop L hl (L.length - i) (i + 1) [] (by omega) (by omega) (by simp)
    have hbl : bl [] = [] := rfl
    rw [hbl] at h
    unfold pText
    cases hp : pTx L (L.length - i) [] (i + 1) with
    | ok j s =>
      rw [hp] at h
      simp only [TextEnd, Rg, txE, rg_eq, Int.natCast_zero, succ_cast] at h hm
      simp [Rg, run_thicketref10_reading_text, Run, home, hM, hm, h, -w0_thicketref10_reading_text]
    | bad w a =>
      rw [hp] at h
      obtain ⟨g1, j, g2, h | ⟨l, h⟩⟩ := h
      · refine ⟨g1, j, eS, g2, ?_⟩
        simp only [Rg, txE, rg_eq, Int.natCast_zero, succ_cast] at h hm
        simp [run_thicketref10_reading_text, Run, home, hM, hm, h, -w0_thicketref10_reading_text]
      · refine ⟨g1, j, eS, g2, ?_⟩
        simp only [Rg, txE, rg_eq, Int.natCast_zero, succ_cast] at h hm
        simp [run_thicketref10_reading_text, Run, home, hM, hm, h, e0, -w0_thicketref10_reading_text]
  · rw [if_neg h1] at hm ⊢
    obtain ⟨g1, j, u, g2, hm⟩ := hm
    have hout := text_out L [] j 100 i (by decide)
    have h100 : ((100 : Nat) : Int) = 100 := rfl
    refine ⟨g1, j, eS, g2, ?_⟩
    simp only [txE, rg_eq, Int.natCast_zero, h100] at hm hout
    simp [run_thicketref10_reading_text, Run, home, hM, hm, hout, e0, -w0_thicketref10_reading_text]
end Go.AM.F

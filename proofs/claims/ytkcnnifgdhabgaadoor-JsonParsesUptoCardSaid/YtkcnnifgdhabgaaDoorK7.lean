/- JSON: the program's reader: texts. No conditions. -/
import Derived.Test.YtkcnnifgdhabgaaDoorK6
namespace Go.AM.F
open Go Go.AM
set_option maxRecDepth 10000
set_option linter.unusedSimpArgs false

theorem encode_size (r : Int) : (Utf8.encode r).size ≤ 4 := by
  unfold Utf8.encode
  simp only
  repeat' split
  all_goals simp [ByteArray.size]
theorem pPair_le {L : List UInt8} {i v j k : Nat} {s : ByteArray} (h : pPair L i v j = .ok k s) : j < k ∧ k ≤ L.length ∧ s.size ≤ 4 := by
  unfold pPair at h
  split at h
  · rename_i hc
    cases hp : pFour L 4 0 (j + 2) with
    | bad w a => rw [hp] at h; cases h
    | ok k' m =>
      rw [hp, PR.bind_ok] at h
      have := pFour_le (show j + 2 ≤ L.length by omega) hp
      split at h
      · cases h
      · cases h
        exact ⟨by omega, by omega, encode_size _⟩
  · cases h
theorem pEscape_le {L : List UInt8} {i k : Nat} {s : ByteArray} (h : pEscape L i = .ok k s) : i < k ∧ k ≤ L.length ∧ s.size ≤ 4 := by
  unfold pEscape at h
  split at h
  · rename_i hc
    split at h
    · cases h
      exact ⟨by omega, by omega, by simp [ByteArray.size]⟩
    · split at h
      · cases hp : pFour L 4 0 (i + 2) with
        | bad w a => rw [hp] at h; cases h
        | ok j v =>
          rw [hp, PR.bind_ok] at h
          have := pFour_le (show i + 2 ≤ L.length by omega) hp
          split at h
          · cases h
          · split at h
            · cases h
              exact ⟨by omega, by omega, encode_size _⟩
            · have := pPair_le h
              exact ⟨by omega, this.2.1, this.2.2⟩
      · cases h
  · cases h
/-- A text behind its first mark. -/
def pTx (L : List UInt8) : Nat → List UInt8 → Nat → PR ByteArray
  | 0, _, _ => .bad 0 0
  | m + 1, acc, i =>
    if i < L.length then
      if lt L i = 34 then .ok (i + 1) (tx acc)
      else if lt L i = 92 then (pEscape L i).bind fun j s => pTx L m (acc ++ s.data.toList) j
      else if lt L i < 32 then .bad 100 i
      else if uc (L.drop i) = 0 then .bad 100 i
      else pTx L m (acc ++ (L.drop i).take (uc (L.drop i))) (i + uc (L.drop i))
    else .bad 100 i
def pText (L : List UInt8) (i : Nat) : PR ByteArray := pTx L (L.length - i) [] (i + 1)
theorem pTx_le {L : List UInt8} : ∀ {m i j : Nat} {acc : List UInt8} {s : ByteArray}, i ≤ L.length → pTx L m acc i = .ok j s → i < j ∧ j ≤ L.length
  | 0, i, j, acc, s, hi, h => by cases h
  | m + 1, i, j, acc, s, hi, h => by
    simp only [pTx] at h
    split at h
    · split at h
      · cases h
        omega
      · split at h
        · cases hp : pEscape L i with
          | bad w a => rw [hp] at h; cases h
          | ok k t =>
            rw [hp, PR.bind_ok] at h
            have h1 := pEscape_le hp
            have h2 := pTx_le h1.2.1 h
            omega
        · split at h
          · cases h
          · split at h
            · cases h
            · have h1 := uc_le (L.drop i)
              rw [List.length_drop] at h1
              have h2 := pTx_le (by omega) h
              omega
    · cases h
theorem bl_append (a b : List UInt8) : bl a ++ bl b = bl (a ++ b) := List.map_append.symm
theorem byteList_bl (s : ByteArray) : byteList s = bl s.data.toList := rfl
theorem size_list (s : ByteArray) : s.data.toList.length = s.size := Array.length_toList
theorem bl_cut (L : List UInt8) (i k : Nat) : ((bl L).take (i + k)).drop i = bl ((L.drop i).take k) := by
  rw [bl_take, bl_drop, List.drop_take]
  congr 2
  omega
theorem imm_bl (L : List UInt8) : PV.immL (bl L) = true := by
  induction L with
  | nil => rfl
  | cons b r ih =>
    show (PV.imm (.v _) && PV.immL (bl r)) = true
    rw [ih]
    rfl
attribute [local simp] j0_json_reader_text w0_json_reader_text b_json_reader_text a_json_reader_text
theorem text_loop (L : List UInt8) (hl : L.length ≤ 16777216) : ∀ (m i : Nat) (acc : List UInt8), L.length - i < m → i ≤ L.length → acc.length ≤ 4 * i →
    Ret L strP 2 (Exec T l0_json_reader_text [(0, .ref 100000 []), (3, .own 1 (bl acc)), (53, .dead), (80, .dead), (100000, rd L i)]) (pTx L m acc i) := by
  intro m
  induction m with
  | zero => intro i acc h; omega
  | succ m ih =>
    intro i acc hm hi ha
    have hb := c_byte L i
    have hf := c_fail L i
    simp only [rd_eq] at hb hf
    rw [ex0_json_reader_text]
    simp only [pTx]
    by_cases h1 : i < L.length
    · rw [if_pos h1]
      have hw := wrap_succ h1 (by omega)
      have hsm := lt_small L i
      by_cases c1 : lt L i = 34
      · simp [Ret, c1, hb, h1, hw, bytesOf_bl, tx]
      by_cases c2 : lt L i = 92
      · have he := c_escape L i h1 hl
        simp only [rd_eq] at he
        rw [if_neg c1, if_pos c2]
        cases hp : pEscape L i with
        | bad w a => simp [Ret, c2, hb, h1, he, hp]
        | ok j s =>
          have h2 := pEscape_le hp
          have h0 := ih j (acc ++ s.data.toList) (by omega) h2.2.1 (by rw [List.length_append, size_list]; omega)
          have b1 : acc.length + s.size ≤ 140737488355328 := by omega
          have b2 : acc.length + s.size ≤ 4611686018427387904 := by omega
          simp only [rd_eq] at h0
          rw [PR.bind_ok]
          simpa [c2, hb, h1, he, hp, byteList_bl, bl_append, size_list, b1, b2] using h0
      rw [if_neg c1, if_neg c2]
      by_cases c3 : lt L i < 32
      · rw [if_pos c3]
        simp [Ret, c1, c2, c3, hb, h1, hf]
      rw [if_neg c3]
      have hd0 : 0 < (L.drop i).length := by rw [List.length_drop]; omega
      obtain ⟨x, n, hd, ht⟩ := c_decode (L.drop i) hd0
      have hu := uc_le (L.drop i)
      rw [List.length_drop] at hu
      have hi2 : (i : Int) ≤ L.length := by omega
      by_cases c4 : uc (L.drop i) = 0
      · rw [if_pos c4]
        obtain ⟨rfl, hn⟩ := ht.1 c4
        simp [Ret, c1, c2, c3, hb, h1, hi, hi2, bl_drop, bl_full, hd, hn, hf]
      · rw [if_neg c4]
        obtain ⟨rfl, hn⟩ := ht.2 c4
        generalize uc (L.drop i) = k at *
        have hk : IntKind.i64.wrap ((i : Int) + (k : Int)) = ((i + k : Nat) : Int) := by rw [wrap_i64] <;> omega
        have b1 : acc.length + k ≤ 140737488355328 := by omega
        have b2 : acc.length + k ≤ 4611686018427387904 := by omega
        have hk2 : i + k ≤ L.length := by omega
        have htk : ((L.drop i).take k).length = k := by rw [List.length_take, List.length_drop]; omega
        have h0 := ih (i + k) (acc ++ (L.drop i).take k) (by omega) (by omega) (by rw [List.length_append, htk]; omega)
        simp only [rd_eq] at h0
        have k1 : i ≤ i + k := by omega
        by_cases c5 : x = 65533
        · have c6 : ¬ k ≤ 1 := by
            intro h
            exact hn (by omega) c5
          simpa [c1, c2, c3, hb, h1, hi, hi2, bl_drop, bl_full, hd, c5, c6, hk, hk2, k1, bl_cut, bl_append, htk, b1, b2, -Int.natCast_add] using h0
        · simpa [c1, c2, c3, hb, h1, hi, hi2, bl_drop, bl_full, hd, c5, hk, hk2, k1, bl_cut, bl_append, htk, b1, b2, -Int.natCast_add] using h0
    · rw [if_neg h1]
      simp [Ret, hb, h1]
theorem c_text (L : List UInt8) (i : Nat) (hi : i < L.length) (hl : L.length ≤ 16777216) : Cinf T n_json_reader_text [rd L i] = res L 0 strP (pText L i) := by
  have hw := wrap_succ hi (by omega)
  have h := text_loop L hl (L.length - i) (i + 1) [] (by omega) (by omega) (by simp)
  simp only [rd_eq, succ_cast] at h
  have hbl : bl [] = [] := rfl
  rw [hbl] at h
  unfold pText
  cases hp : pTx L (L.length - i) [] (i + 1) with
  | ok j s =>
    rw [hp] at h
    obtain ⟨e', h1, h2, h3⟩ := h
    simp only [rd_eq, strP_eq] at h2 h3
    simp [run_json_reader_text, Run, home, hw, h1, h2, h3, -w0_json_reader_text]
  | bad w a =>
    rw [hp] at h
    obtain ⟨e', h1⟩ := h
    simp [run_json_reader_text, Run, home, hw, h1]
end Go.AM.F

/- JSON: the program's reader: texts. No conditions. -/
import Derived.Test.YtkcnnifgdhabgaaDoorK6
namespace Go.AM.F
open Go Go.AM
set_option maxRecDepth 10000
set_option linter.unusedSimpArgs false

theorem encode_size (r : Int) : (Utf8.encode r).size ≤ 4 := by
  unfold Utf8.encode
  simp only
  repeat' split
  all_goals simp [ByteArray.size]
theorem pPair_le {L : List UInt8} {i v j k : Nat} {s : ByteArray} (h : pPair L i v j = .ok k s) : j < k ∧ k ≤ L.length ∧ s.size ≤ 4 := by
  unfold pPair at h
  split at h
  · rename_i hc
    cases hp : pFour L 4 0 (j + 2) with
    | bad w a => rw [hp] at h; cases h
    | ok k' m =>
      rw [hp, PR.bind_ok] at h
      have := pFour_le (show j + 2 ≤ L.length by omega) hp
      split at h
      · cases h
      · cases h
        exact ⟨by omega, by omega, encode_size _⟩
  · cases h
theorem pEscape_le {L : List UInt8} {i k : Nat} {s : ByteArray} (h : pEscape L i = .ok k s) : i < k ∧ k ≤ L.length ∧ s.size ≤ 4 := by
  unfold pEscape at h
  split at h
  · rename_i hc
    split at h
    · cases h
      exact ⟨by omega, by omega, by simp [ByteArray.size]⟩
    · split at h
      · cases hp : pFour L 4 0 (i + 2) with
        | bad w a => rw [hp] at h; cases h
        | ok j v =>
          rw [hp, PR.bind_ok] at h
          have := pFour_le (show i + 2 ≤ L.length by omega) hp
          split at h
          · cases h
          · split at h
            · cases h
              exact ⟨by omega, by omega, encode_size _⟩
            · have := pPair_le h
              exact ⟨by omega, this.2.1, this.2.2⟩
      · cases h
  · cases h
/-- A text behind its first mark. -/
def pTx (L : List UInt8) : Nat → List UInt8 → Nat → PR ByteArray
  | 0, _, _ => .bad 0 0
  | m + 1, acc, i =>
    if i < L.length then
      if lt L i = 34 then .ok (i + 1) (tx acc)
      else if lt L i = 92 then (pEscape L i).bind fun j s => pTx L m (acc ++ s.data.toList) j
      else if lt L i < 32 then .bad 100 i
      else if uc (L.drop i) = 0 then .bad 100 i
      else pTx L m (acc ++ (L.drop i).take (uc (L.drop i))) (i + uc (L.drop i))
    else .bad 100 i
def pText (L : List UInt8) (i : Nat) : PR ByteArray := pTx L (L.length - i) [] (i + 1)
theorem pTx_le {L : List UInt8} : ∀ {m i j : Nat} {acc : List UInt8} {s : ByteArray}, i ≤ L.length → pTx L m acc i = .ok j s → i < j ∧ j ≤ L.length
  | 0, i, j, acc, s, hi, h => by cases h
  | m + 1, i, j, acc, s, hi, h => by
    simp only [pTx] at h
    split at h
    · split at h
      · cases h
        omega
      · split at h
        · cases hp : pEscape L i with
          | bad w a => rw [hp] at h; cases h
          | ok k t =>
            rw [hp, PR.bind_ok] at h
            have h1 := pEscape_le hp
            have h2 := pTx_le h1.2.1 h
            omega
        · split at h
          · cases h
          · split at h
            · cases h
            · have h1 := uc_le (L.drop i)
              rw [List.length_drop] at h1
              have h2 := pTx_le (by omega) h
              omega
    · cases h
theorem bl_append (a b : List UInt8) : bl a ++ bl b = bl (a ++ b) := List.map_append.symm
theorem byteList_bl (s : ByteArray) : byteList s = bl s.data.toList := rfl
theorem size_list (s : ByteArray) : s.data.toList.length = s.size := Array.length_toList
theorem bl_cut (L : List UInt8) (i k : Nat) : ((bl L).take (i + k)).drop i = bl ((L.drop i).take k) := by
  rw [bl_take, bl_drop, List.drop_take]
  congr 2
  omega
theorem imm_bl (L : List UInt8) : PV.immL (bl L) = true := by
  induction L with
  | nil => rfl
  | cons b r ih =>
    show (PV.imm (.v _) && PV.immL (bl r)) = true
    rw [ih]
    rfl
end Go.AM.F

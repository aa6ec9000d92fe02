/- Texts, byte by byte. No conditions. -/
import Derived.Test.YtkcnnifgdhabgaaDoorAmNum
namespace Go.AM.F
open Go Go.AM
set_option maxRecDepth 10000

/-- A text's byte at a place. -/
def ch (s : ByteArray) (k : Nat) : Nat := (s.data.toList.getD k 0).toNat
theorem ch_eq (s : ByteArray) (k : Nat) : (s.data[k]?.getD 0).toNat = ch s k := by simp [ch]
theorem ch_small (s : ByteArray) (k : Nat) : ch s k < 256 := UInt8.toNat_lt _
/-- The first place from k on, n places ahead at most, where p holds. -/
def stop (p : Nat → Bool) : Nat → Nat → Nat
  | 0, k => k
  | n + 1, k => if p k then k else stop p n (k + 1)
theorem stop_le (p : Nat → Bool) : ∀ n k, k ≤ stop p n k ∧ stop p n k ≤ k + n
  | 0, k => by simp [stop]
  | n + 1, k => by
    simp only [stop]
    split
    · omega
    · have := stop_le p n (k + 1)
      omega
theorem stop_not (p : Nat → Bool) : ∀ n k j, k ≤ j → j < stop p n k → p j = false
  | 0, k, j, h1, h2 => by simp [stop] at h2; omega
  | n + 1, k, j, h1, h2 => by
    simp only [stop] at h2
    split at h2
    · omega
    · rename_i h
      by_cases hj : j = k
      · subst hj; simpa using h
      · exact stop_not p n (k + 1) j (by omega) h2
theorem stop_is (p : Nat → Bool) : ∀ n k, stop p n k < k + n → p (stop p n k) = true
  | 0, k, h => by simp [stop] at h
  | n + 1, k, h => by
    simp only [stop] at h ⊢
    split
    · assumption
    · rename_i h1
      rw [if_neg h1] at h
      exact stop_is p n (k + 1) (by omega)
theorem extract_size (s : ByteArray) (a b : Nat) (h1 : a ≤ b) (h2 : b ≤ s.size) : (s.extract a b).size = b - a := by
  rw [ByteArray.size_extract]; omega
theorem ch_extract (s : ByteArray) (a b i : Nat) (h1 : a + i < b) (h2 : b ≤ s.size) : ch (s.extract a b) i = ch s (a + i) := by
  unfold ch
  have h3 : b ≤ s.data.toList.length := by simpa using h2
  have : (s.extract a b).data.toList[i]? = s.data.toList[a + i]? := by
    simp only [ByteArray.data_extract, Array.toList_extract, List.extract_eq_take_drop]
    rw [List.getElem?_take, if_pos (by omega), List.getElem?_drop]
  simp only [List.getD_eq_getElem?_getD, this]
theorem bytes_ext {a b : ByteArray} (h : a.size = b.size) (k : ∀ i, i < a.size → ch a i = ch b i) : a = b := by
  apply ByteArray.ext
  apply Array.ext
  · exact h
  · intro i h1 h2
    have h3 := k i h1
    unfold ch at h3
    rw [List.getD_eq_getElem?_getD, List.getD_eq_getElem?_getD] at h3
    have e1 : a.data.toList[i]? = some a.data[i] := by simp
    have e2 : b.data.toList[i]? = some b.data[i] := by simp
    rw [e1, e2] at h3
    exact UInt8.toNat_inj.1 h3
theorem extract_tail (s : ByteArray) (a n : Nat) (h : a + n ≤ s.size) : (s.extract a s.size).extract n (s.size - a) = s.extract (a + n) s.size := by
  apply bytes_ext
  · rw [extract_size _ _ _ (by omega) (by rw [extract_size _ _ _ (by omega) (by omega)]; exact Nat.le_refl _), extract_size _ _ _ (by omega) (by omega)]
    omega
  · intro i hi
    rw [extract_size _ _ _ (by omega) (by rw [extract_size _ _ _ (by omega) (by omega)]; exact Nat.le_refl _)] at hi
    rw [ch_extract _ _ _ _ (by omega) (by rw [extract_size _ _ _ (by omega) (by omega)]; exact Nat.le_refl _), ch_extract _ _ _ _ (by omega) (by omega), ch_extract _ _ _ _ (by omega) (by omega), Nat.add_assoc]
theorem extract_all (s : ByteArray) : s.extract 0 s.size = s := by
  apply bytes_ext
  · rw [extract_size _ _ _ (by omega) (by omega)]; omega
  · intro i hi
    rw [extract_size _ _ _ (by omega) (by omega)] at hi
    rw [ch_extract _ _ _ _ (by omega) (by omega), Nat.zero_add]
/-- A text of bytes. -/
def tx (l : List UInt8) : ByteArray := ⟨l.toArray⟩
@[simp] theorem tx_size (l : List UInt8) : (tx l).size = l.length := by simp [tx, ByteArray.size]
theorem tx_append (a b : List UInt8) : tx a ++ tx b = tx (a ++ b) := by
  apply ByteArray.ext
  simp [tx]
@[simp] theorem tx_data (l : List UInt8) : (tx l).data.toList = l := by simp [tx]
theorem tx_inj {a b : List UInt8} (h : tx a = tx b) : a = b := by rw [← tx_data a, h, tx_data]
theorem tx_drop (l : List UInt8) (a : Nat) : (tx l).extract a l.length = tx (l.drop a) := by
  apply ByteArray.ext
  simp only [tx, ByteArray.data_extract, List.extract_toArray, List.extract_eq_take_drop]
  rw [List.take_of_length_le (by simp)]
theorem tx_data2 (s : ByteArray) : tx s.data.toList = s := by
  apply ByteArray.ext
  simp [tx]
theorem ch_tx (l : List UInt8) (k : Nat) : ch (tx l) k = (l[k]?.getD 0).toNat := by
  unfold ch
  rw [tx_data, List.getD_eq_getElem?_getD]
end Go.AM.F

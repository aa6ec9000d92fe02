/- Texts, byte by byte; where lines end. No conditions. -/
import Derived.Test.YtfnhfjpoeacoaaaDoorIr
namespace Go.AM.F
open Go Go.AM
set_option maxRecDepth 10000
set_option linter.unusedSimpArgs false

def str (s : ByteArray) : PV := .v (.string s)
@[simp] theorem str_eq (s : ByteArray) : str s = .v (.string s) := rfl
/-- A text's byte at a place. -/
def ch (s : ByteArray) (k : Nat) : Nat := (s.data.toList.getD k 0).toNat
theorem ch_eq (s : ByteArray) (k : Nat) : (s.data[k]?.getD 0).toNat = ch s k := by simp [ch]
theorem ch_small (s : ByteArray) (k : Nat) : ch s k < 256 := UInt8.toNat_lt _
theorem wrap_i64 {v : Int} (h1 : -9223372036854775808 ≤ v) (h2 : v < 9223372036854775808) : IntKind.i64.wrap v = v := by
  simp only [IntKind.wrap, IntKind.signed, IntKind.bits]
  simp
  omega
theorem wrap_succ {k n : Nat} (h : k < n) (hn : n < 4611686018427387904) : IntKind.i64.wrap ((k : Int) + 1) = (k : Int) + 1 := by rw [wrap_i64] <;> omega
theorem wrap_add {k : Nat} (j : Int) (hk : k ≤ 4611686018427387903) (h0 : -4611686018427387904 ≤ j := by decide) (h1 : j ≤ 4611686018427387904 := by decide) : IntKind.i64.wrap ((k : Int) + j) = (k : Int) + j := by rw [wrap_i64] <;> omega
theorem succ_cast (k : Nat) : ((k + 1 : Nat) : Int) = (k : Int) + 1 := Int.natCast_succ k
/-! Numbers that are no negative ones, against numerals -/
@[simp] theorem lit_eq (a n : Nat) : ((a : Int) = no_index (@OfNat.ofNat Int n instOfNat)) = (a = @OfNat.ofNat Nat n (instOfNatNat n)) := propext (Int.ofNat_inj (m := a) (n := n))
@[simp] theorem lit_lt (a n : Nat) : ((a : Int) < no_index (@OfNat.ofNat Int n instOfNat)) = (a < @OfNat.ofNat Nat n (instOfNatNat n)) := propext (Int.ofNat_lt (n := a) (m := n))
@[simp] theorem lit_le (a n : Nat) : ((a : Int) ≤ no_index (@OfNat.ofNat Int n instOfNat)) = (a ≤ @OfNat.ofNat Nat n (instOfNatNat n)) := propext (Int.ofNat_le (m := a) (n := n))
@[simp] theorem lit_lt' (a n : Nat) : (no_index (@OfNat.ofNat Int n instOfNat) < (a : Int)) = (@OfNat.ofNat Nat n (instOfNatNat n) < a) := propext (Int.ofNat_lt (n := n) (m := a))
@[simp] theorem lit_le' (a n : Nat) : (no_index (@OfNat.ofNat Int n instOfNat) ≤ (a : Int)) = (@OfNat.ofNat Nat n (instOfNatNat n) ≤ a) := propext (Int.ofNat_le (m := n) (n := a))
@[simp] theorem add_pos (a n : Nat) : (0 ≤ (a : Int) + no_index (@OfNat.ofNat Int n instOfNat)) = True := eq_true (by have : (0 : Int) ≤ @OfNat.ofNat Int n instOfNat := Int.natCast_nonneg n; omega)
@[simp] theorem add_lt (a b n : Nat) : ((a : Int) + no_index (@OfNat.ofNat Int n instOfNat) < (b : Int)) = (a + @OfNat.ofNat Nat n (instOfNatNat n) < b) := propext (Int.ofNat_lt (n := a + n) (m := b))
@[simp] theorem add_le (a b n : Nat) : ((a : Int) + no_index (@OfNat.ofNat Int n instOfNat) ≤ (b : Int)) = (a + @OfNat.ofNat Nat n (instOfNatNat n) ≤ b) := propext (Int.ofNat_le (m := a + n) (n := b))
@[simp] theorem add_lt' (a b n : Nat) : ((b : Int) < (a : Int) + no_index (@OfNat.ofNat Int n instOfNat)) = (b < a + @OfNat.ofNat Nat n (instOfNatNat n)) := propext (Int.ofNat_lt (n := b) (m := a + n))
@[simp] theorem add_le' (a b n : Nat) : ((b : Int) ≤ (a : Int) + no_index (@OfNat.ofNat Int n instOfNat)) = (b ≤ a + @OfNat.ofNat Nat n (instOfNatNat n)) := propext (Int.ofNat_le (m := b) (n := a + n))
@[simp] theorem i64_lit (n : Nat) (h : n < 9223372036854775808) : IntKind.i64.wrap (no_index (@OfNat.ofNat Int n instOfNat)) = @OfNat.ofNat Int n instOfNat := wrap_i64 (by have : (0 : Int) ≤ @OfNat.ofNat Int n instOfNat := Int.natCast_nonneg n; omega) (Int.ofNat_lt.2 h)
@[simp] theorem toNat_add (a n : Nat) : ((a : Int) + no_index (@OfNat.ofNat Int n instOfNat)).toNat = a + @OfNat.ofNat Nat n (instOfNatNat n) := Int.toNat_natCast (a + n)
/-- The first place from k on, n places ahead at most, where p holds. -/
def stop (p : Nat → Bool) : Nat → Nat → Nat
  | 0, k => k
  | n + 1, k => if p k then k else stop p n (k + 1)
theorem stop_le (p : Nat → Bool) : ∀ n k, k ≤ stop p n k ∧ stop p n k ≤ k + n
  | 0, k => by simp [stop]
  | n + 1, k => by
    simp only [stop]
    split
    · omega
    · have := stop_le p n (k + 1)
      omega
theorem stop_not (p : Nat → Bool) : ∀ n k j, k ≤ j → j < stop p n k → p j = false
  | 0, k, j, h1, h2 => by simp [stop] at h2; omega
  | n + 1, k, j, h1, h2 => by
    simp only [stop] at h2
    split at h2
    · omega
    · rename_i h
      by_cases hj : j = k
      · subst hj; simpa using h
      · exact stop_not p n (k + 1) j (by omega) h2
theorem stop_is (p : Nat → Bool) : ∀ n k, stop p n k < k + n → p (stop p n k) = true
  | 0, k, h => by simp [stop] at h
  | n + 1, k, h => by
    simp only [stop] at h ⊢
    split
    · assumption
    · rename_i h1
      rw [if_neg h1] at h
      exact stop_is p n (k + 1) (by omega)
/-- The end of a line. -/
def lineEnd (s : ByteArray) (k : Nat) : Bool := decide (ch s k = 10) || decide (ch s k = 13)
def rowEnd (s : ByteArray) (k : Nat) : Nat := stop (lineEnd s) (s.size - k) k
def rowNext (s : ByteArray) (e : Nat) : Nat := if e + 1 < s.size ∧ ch s e = 13 ∧ ch s (e + 1) = 10 then e + 2 else e + 1
def row (n at_ : Nat) (t : ByteArray) : PV := .agg [.v (.int .i64 n), .v (.int .i64 at_), .v (.string t)]
def rowsFrom (s : ByteArray) : Nat → Nat → Nat → List PV
  | 0, _, _ => []
  | f + 1, k, c => if k < s.size then row (c + 1) k (s.extract k (rowEnd s k)) :: rowsFrom s f (rowNext s (rowEnd s k)) (c + 1) else []
theorem end_loop (s : ByteArray) (x3 : PV) (at_ : Int) (hs : s.size ≤ 67108864) : ∀ (n k : Nat), s.size - k = n → k ≤ s.size →
    Exec T l1_scan_Rows [(0, .v (.string s)), (3, x3), (4, .v (.int .i64 at_)), (5, .v (.int .i64 k)), (40, .dead)] = some (.exit 2, [(0, .v (.string s)), (3, x3), (4, .v (.int .i64 at_)), (5, .v (.int .i64 (stop (lineEnd s) n k))), (40, .dead)]) := by
  intro n
  induction n with
  | zero =>
    intro k hn hk
    obtain rfl : k = s.size := by omega
    rw [ex1_scan_Rows]
    simp [w1_scan_Rows, stop]
  | succ n ih =>
    intro k hn hk
    have hlt : k < s.size := by omega
    have h0 := ih (k + 1) (by omega) (by omega)
    rw [succ_cast] at h0
    have hw := wrap_succ hlt (by omega)
    rw [ex1_scan_Rows]
    by_cases h1 : ch s k = 10
    · simp [w1_scan_Rows, hlt, stop, lineEnd, h1, ch_eq, lit_eq]
    · by_cases h2 : ch s k = 13
      · simp [w1_scan_Rows, hlt, stop, lineEnd, h1, h2, ch_eq, lit_eq]
      · simp [w1_scan_Rows, j0_scan_Rows, hlt, stop, lineEnd, h1, h2, ch_eq, lit_eq, hw, h0]

theorem extract_size (s : ByteArray) (a b : Nat) (h1 : a ≤ b) (h2 : b ≤ s.size) : (s.extract a b).size = b - a := by
  rw [ByteArray.size_extract]; omega
theorem ch_extract (s : ByteArray) (a b i : Nat) (h1 : a + i < b) (h2 : b ≤ s.size) : ch (s.extract a b) i = ch s (a + i) := by
  unfold ch
  have h3 : b ≤ s.data.toList.length := by simpa using h2
  have : (s.extract a b).data.toList[i]? = s.data.toList[a + i]? := by
    simp only [ByteArray.data_extract, Array.toList_extract, List.extract_eq_take_drop]
    rw [List.getElem?_take, if_pos (by omega), List.getElem?_drop]
  simp only [List.getD_eq_getElem?_getD, this]
theorem bytes_ext {a b : ByteArray} (h : a.size = b.size) (k : ∀ i, i < a.size → ch a i = ch b i) : a = b := by
  apply ByteArray.ext
  apply Array.ext
  · exact h
  · intro i h1 h2
    have h3 := k i h1
    unfold ch at h3
    rw [List.getD_eq_getElem?_getD, List.getD_eq_getElem?_getD] at h3
    have e1 : a.data.toList[i]? = some a.data[i] := by simp [h1]
    have e2 : b.data.toList[i]? = some b.data[i] := by simp [h2]
    rw [e1, e2] at h3
    exact UInt8.toNat_inj.1 h3
def crlf : ByteArray := ⟨#[13, 10]⟩
theorem crlf_iff (t : ByteArray) (h : 2 ≤ t.size) : t.extract 0 2 = ⟨#[13, 10]⟩ ↔ ch t 0 = 13 ∧ ch t 1 = 10 := by
  constructor
  · intro k
    have h0 := ch_extract t 0 2 0 (by omega) h
    have h1 := ch_extract t 0 2 1 (by omega) h
    rw [k] at h0 h1
    exact ⟨h0.symm, h1.symm⟩
  · rintro ⟨k0, k1⟩
    apply bytes_ext
    · rw [extract_size _ _ _ (by omega) h]; rfl
    · intro i hi
      rw [extract_size _ _ _ (by omega) h] at hi
      rw [ch_extract t 0 2 i (by omega) h, Nat.zero_add]
      match i, hi with
      | 0, _ => exact k0
      | 1, _ => exact k1
theorem c_lprefix (t : ByteArray) : Cinf T n_stringslite_HasPrefix [.v (.string t), .v (.string ⟨#[13, 10]⟩)] = some (.v (.bool (decide (2 ≤ t.size ∧ ch t 0 = 13 ∧ ch t 1 = 10))), [.dead, .dead]) := by
  have e2 : ByteArray.size ⟨#[13, 10]⟩ = 2 := rfl
  by_cases h : 2 ≤ t.size
  · simp [run_stringslite_HasPrefix, Run, a_stringslite_HasPrefix, b_stringslite_HasPrefix, e2, h, crlf_iff t h]
  · simp [run_stringslite_HasPrefix, Run, a_stringslite_HasPrefix, b_stringslite_HasPrefix, e2, h]
theorem c_prefix (t : ByteArray) : Cinf T n_strings_HasPrefix [.v (.string t), .v (.string ⟨#[13, 10]⟩)] = some (.v (.bool (decide (2 ≤ t.size ∧ ch t 0 = 13 ∧ ch t 1 = 10))), [.dead, .dead]) := by
  simp [run_strings_HasPrefix, Run, a_strings_HasPrefix, b_strings_HasPrefix, c_lprefix]
theorem rowEnd_le (s : ByteArray) (k : Nat) (h : k ≤ s.size) : k ≤ rowEnd s k ∧ rowEnd s k ≤ s.size := by
  have := stop_le (lineEnd s) (s.size - k) k
  unfold rowEnd
  omega
theorem rowNext_le (s : ByteArray) (e : Nat) : e + 1 ≤ rowNext s e ∧ (e < s.size → rowNext s e ≤ s.size) ∧ rowNext s e ≤ e + 2 := by
  unfold rowNext
  split <;> omega
theorem next_eq (s : ByteArray) (e : Nat) (h : e ≤ s.size) : decide (2 ≤ (s.extract e s.size).size ∧ ch (s.extract e s.size) 0 = 13 ∧ ch (s.extract e s.size) 1 = 10) = decide (e + 1 < s.size ∧ ch s e = 13 ∧ ch s (e + 1) = 10) := by
  rw [extract_size s e s.size h (Nat.le_refl _)]
  by_cases hlt : e + 1 < s.size
  · rw [ch_extract s e s.size 0 (by omega) (Nat.le_refl _), ch_extract s e s.size 1 (by omega) (Nat.le_refl _)]
    have : 2 ≤ s.size - e := by omega
    simp [this, hlt]
  · have : ¬ 2 ≤ s.size - e := by omega
    simp [this, hlt]
theorem rows_loop (s : ByteArray) (hs : s.size ≤ 67108864) : ∀ (f k : Nat) (acc : List PV), acc.length ≤ k → s.size ≤ k + f → k ≤ s.size + 1 →
    ∃ z, Exec T l0_scan_Rows [(0, .v (.string s)), (3, .own 3 acc), (4, .v (.int .i64 k)), (40, .dead)] = some (.exit 0, [(0, .v (.string s)), (3, .own 3 (acc ++ rowsFrom s f k acc.length)), (4, z), (40, .dead)]) := by
  intro f
  induction f with
  | zero =>
    intro k acc ha hf hk
    have h1 : ¬ k < s.size := by omega
    refine ⟨.v (.int .i64 k), ?_⟩
    rw [ex0_scan_Rows]
    simp [w0_scan_Rows, h1, rowsFrom]
  | succ f ih =>
    intro k acc ha hf hk
    by_cases h1 : k < s.size
    · have he := rowEnd_le s k (by omega)
      have hn := rowNext_le s (rowEnd s k)
      have h2 : rowNext s (rowEnd s k) ≤ s.size + 1 := by
        by_cases h : rowEnd s k < s.size
        · have := hn.2.1 h; omega
        · unfold rowNext; rw [if_neg (by omega)]; omega
      obtain ⟨z, h0⟩ := ih (rowNext s (rowEnd s k)) (acc ++ [row (acc.length + 1) k (s.extract k (rowEnd s k))]) (by simp; omega) (by omega) h2
      refine ⟨z, ?_⟩
      simp only [rowsFrom, if_pos h1]
      rw [List.append_assoc, List.singleton_append, List.length_append, List.length_singleton] at h0
      have hend := end_loop s (.own 3 acc) k hs (s.size - k) k rfl (by omega)
      have hp := c_prefix (s.extract (rowEnd s k) s.size)
      rw [next_eq s (rowEnd s k) he.2] at hp
      have hw1 := wrap_succ (k := acc.length) (n := 67108865) (by omega) (by omega)
      have hw2 := wrap_succ (k := rowEnd s k) (n := 67108865) (by omega) (by omega)
      have hw3 := wrap_succ (k := rowEnd s k + 1) (n := 67108868) (by omega) (by omega)
      have hb1 : (acc.length + 1) * 32 ≤ 140737488355328 := by omega
      have hb2 : acc.length ≤ 4611686018427387903 := by omega
      rw [← rowEnd] at hend
      rw [succ_cast] at hw3
      rw [ex0_scan_Rows]
      by_cases hc : rowEnd s k + 1 < s.size ∧ ch s (rowEnd s k) = 13 ∧ ch s (rowEnd s k + 1) = 10
      · rw [decide_eq_true hc] at hp
        have e2 : ((rowEnd s k + 2 : Nat) : Int) = (rowEnd s k : Int) + 1 + 1 := by omega
        simp only [rowNext, if_pos hc, row, e2, succ_cast] at h0
        simp [w0_scan_Rows, j3_scan_Rows, j2_scan_Rows, j1_scan_Rows, h1, hend, he, hp, hw1, hw2, hw3, hb1, hb2, row, h0, rowNext, hc]
      · rw [decide_eq_false hc] at hp
        simp only [rowNext, if_neg hc, row, succ_cast] at h0
        simp [w0_scan_Rows, j3_scan_Rows, j2_scan_Rows, j1_scan_Rows, h1, hend, he, hp, hw1, hw2, hw3, hb1, hb2, row, h0, rowNext, hc]
    · refine ⟨.v (.int .i64 k), ?_⟩
      rw [ex0_scan_Rows]
      simp [w0_scan_Rows, h1, rowsFrom]
theorem c_rows (s : ByteArray) (hs : s.size ≤ 67108864) : Cinf T n_scan_Rows [.v (.string s)] = some (.own 3 (rowsFrom s s.size 0 0), [.dead]) := by
  obtain ⟨z, h⟩ := rows_loop s hs s.size 0 [] (Nat.le_refl _) (by omega) (by omega)
  simp only [List.nil_append, List.length_nil, Int.natCast_zero] at h
  simp [run_scan_Rows, Run, a_scan_Rows, b_scan_Rows, j4_scan_Rows, h]
/-! ### The document's -/
theorem stop_add (p : Nat → Bool) : ∀ n k j, j ≤ n → (∀ i, k ≤ i → i < k + j → p i = false) → stop p n k = stop p (n - j) (k + j)
  | n, k, 0, _, _ => rfl
  | 0, k, j + 1, h, _ => by omega
  | n + 1, k, j + 1, h, hp => by
    have h0 := hp k (Nat.le_refl _) (by omega)
    simp only [stop, h0]
    rw [if_neg (by simp), stop_add p n (k + 1) j (by omega) fun i h1 h2 => hp i (by omega) (by omega)]
    congr 1 <;> omega
theorem rowEnd_eq (s : ByteArray) {k i : Nat} (h1 : k ≤ i) (h2 : i ≤ s.size) (h3 : ∀ j, k ≤ j → j < i → lineEnd s j = false) (h4 : i < s.size → lineEnd s i = true) : rowEnd s k = i := by
  unfold rowEnd
  rw [stop_add _ _ _ (i - k) (by omega) fun j ha hb => h3 j ha (by omega)]
  have e1 : k + (i - k) = i := by omega
  have e2 : s.size - k - (i - k) = s.size - i := by omega
  rw [e1, e2]
  by_cases h : i < s.size
  · obtain ⟨m, hm⟩ : ∃ m, s.size - i = m + 1 := ⟨s.size - i - 1, by omega⟩
    rw [hm]
    simp [stop, h4 h]
  · have : s.size - i = 0 := by omega
    rw [this]; rfl
end Go.AM.F

/- The words of a line. No conditions. -/
import Derived.Test.YtfnhfjpoeacoaaaDoorS7
namespace Go.AM.F
open Go Go.AM
set_option maxRecDepth 10000
set_option linter.unusedSimpArgs false
attribute [local simp] j0_scan_Words j1_scan_Words j2_scan_Words w0_scan_Words j3_scan_Words b_scan_Words a_scan_Words
structure WordV where
  k : Nat
  t : ByteArray
  at_ : Nat
def WordV.pv (w : WordV) : PV := .agg [.v (.int .u8 (w.k : Nat)), .v (.string w.t), .v (.int .i64 (w.at_ : Nat))]
inductive WsR where
  | ok (l : List WordV)
  | err (n p : Nat)
def wordsFrom (s : ByteArray) : Nat → Nat → List WordV → WsR
  | 0, _, acc => .ok acc
  | f + 1, i, acc =>
    if i < s.size ∧ ch s i ≠ 35 then
      if cls (ch s i) = 32 then wordsFrom s f (i + 1) acc
      else match wordAt s i with
        | .err n p => .err n p
        | .word k t e => wordsFrom s f e (acc ++ [⟨k, t, i⟩])
    else .ok acc
theorem quoteFrom_le {s : ByteArray} : ∀ {n k : Nat} {acc l : List Nat} {e : Nat}, quoteFrom s n k acc = .ok l e → k < e ∧ e ≤ s.size
  | 0, k, acc, l, e, h => by cases h
  | n + 1, k, acc, l, e, h => by
    simp only [quoteFrom] at h
    split at h
    · split at h
      · cases h; omega
      · split at h
        · split at h
          · rename_i d e' he
            have := quoteFrom_le h
            have := escAt_le he
            omega
          · cases h
        · split at h
          · cases h
          · have := quoteFrom_le h
            omega
    · cases h
theorem quoteAt_le {s : ByteArray} {i e : Nat} {t : ByteArray} (h : quoteAt s i = .inl (t, e)) : i + 1 < e ∧ e ≤ s.size := by
  unfold quoteAt at h
  split at h
  · rename_i hq
    cases h
    exact quoteFrom_le hq
  · cases h
  · cases h
theorem wordEnd_le {s : ByteArray} {i k e k' e' : Nat} {t : ByteArray} (h : wordEnd s i k e = .word k' t e') : e' = e ∧ k' = k := by
  unfold wordEnd at h
  split at h
  · cases h
  · cases h; exact ⟨rfl, rfl⟩
theorem wordAt_le {s : ByteArray} {i k e : Nat} {t : ByteArray} (hi : i < s.size) (h : wordAt s i = .word k t e) : i < e ∧ e ≤ s.size := by
  unfold wordAt at h
  split at h
  · split at h
    · rename_i hq
      split at h
      · cases h
      · cases h
        have := quoteAt_le hq
        omega
    · cases h
  · split at h
    · obtain ⟨rfl, _⟩ := wordEnd_le h
      have := stop_le (noName s) (s.size - (i + 1)) (i + 1)
      omega
    · split at h
      · obtain ⟨rfl, _⟩ := wordEnd_le h
        have := stop_le (noNum s) (s.size - (i + 1)) (i + 1)
        omega
      · split at h
        · split at h
          · obtain ⟨rfl, _⟩ := wordEnd_le h
            omega
          · split at h
            · cases h
            · obtain ⟨rfl, _⟩ := wordEnd_le h
              omega
        · cases h
theorem wordAt_err {s : ByteArray} {i n p : Nat} (h : wordAt s i = .err n p) : ¬ n = 0 := by
  have we : ∀ {k e : Nat}, wordEnd s i k e = .err n p → ¬ n = 0 := by
    intro k e h
    unfold wordEnd at h
    split at h
    · cases h; decide
    · cases h
  unfold wordAt at h
  split at h
  · split at h
    · split at h
      · cases h; decide
      · cases h
    · cases h; decide
  · split at h
    · exact we h
    · split at h
      · exact we h
      · split at h
        · split at h
          · exact we h
          · split at h
            · cases h; decide
            · exact we h
        · cases h; decide
def wl (l : List WordV) : List PV := l.map WordV.pv
@[simp] theorem wl_append (a : List WordV) (w : WordV) : wl (a ++ [w]) = wl a ++ [w.pv] := by simp [wl]
@[simp] theorem wl_length (a : List WordV) : (wl a).length = a.length := by simp [wl]
@[simp] theorem wl_nil : wl [] = [] := rfl
def wordsOut : WsR → Option (PV × List PV)
  | .ok l => some (.tup [.own 3 (wl l), .v (.int .i64 0), .v (.int .i64 0)], [.dead])
  | .err n p => some (.tup [.own 3 [], .v (.int .i64 (n : Nat)), .v (.int .i64 (p : Nat))], [.dead])
theorem words_loop (s : ByteArray) (hs : s.size ≤ 67108864) : ∀ (n i : Nat) (acc : List WordV), s.size ≤ i + n → i ≤ s.size → acc.length ≤ i →
    finish a_scan_Words [.v (.string s)] (andThen (inBlock 0 (Exec T l0_scan_Words [(0, .v (.string s)), (5, .own 3 (wl acc)), (6, .v (.int .i64 i)), (43, .dead)])) (Exec T k3_scan_Words)) = wordsOut (wordsFrom s n i acc) := by
  intro n
  induction n with
  | zero =>
    intro i acc hn hi ha
    obtain rfl : i = s.size := by omega
    rw [ex0_scan_Words]
    simp [wordsFrom, wordsOut]
  | succ n ih =>
    intro i acc hn hi ha
    rw [ex0_scan_Words]
    by_cases hlt : i < s.size
    · by_cases h35 : ch s i = 35
      · simp [wordsFrom, wordsOut, hlt, ch_eq, h35]
      have hc := c_of (ch s i) (ch_small _ _)
      have hw := wrap_succ hlt (by omega)
      simp only [wordsFrom]
      rw [if_pos ⟨hlt, h35⟩]
      by_cases h32 : cls (ch s i) = 32
      · rw [if_pos h32]
        have h0 := ih (i + 1) acc (by omega) (by omega) (by omega)
        rw [succ_cast] at h0
        rw [← h0]
        simp [hlt, ch_eq, h35, hc, h32, hw]
      · rw [if_neg h32]
        have h1 := c_one s hs i hlt
        cases hwa : wordAt s i with
        | err n p =>
          rw [hwa] at h1
          obtain ⟨a, b, e, t, h1⟩ := h1
          have hn := wordAt_err hwa
          simp [hlt, ch_eq, h35, hc, h32, h1, hn, wordsOut]
        | word k t e =>
          rw [hwa] at h1
          have h1 : _ = _ := h1
          have hb1 : (acc.length + 1) * 32 ≤ 140737488355328 := by omega
          have hb2 : acc.length ≤ 4611686018427387903 := by omega
          obtain ⟨g1, g2⟩ := wordAt_le hlt hwa
          have h0 := ih e (acc ++ [⟨k, t, i⟩]) (by omega) g2 (by simp; omega)
          simp only [wl_append, WordV.pv] at h0
          simp only []
          rw [← h0]
          simp [hlt, ch_eq, h35, hc, h32, h1, hb1, hb2]
    · obtain rfl : i = s.size := by omega
      simp [wordsFrom, wordsOut]
theorem c_Words (s : ByteArray) (hs : s.size ≤ 67108864) : Cinf T n_scan_Words [.v (.string s)] = wordsOut (wordsFrom s s.size 0 []) := by
  have h0 := words_loop s hs s.size 0 [] (by omega) (Nat.zero_le _) (Nat.le_refl _)
  simp only [wl_nil, Int.natCast_zero] at h0
  rw [run_scan_Words, ← h0]
  simp [Run]
end Go.AM.F

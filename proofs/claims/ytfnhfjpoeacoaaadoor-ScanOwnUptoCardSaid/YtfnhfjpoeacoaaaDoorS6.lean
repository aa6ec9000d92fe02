/- Quoted texts, as the document has them; marks. No conditions. -/
import Derived.Test.YtfnhfjpoeacoaaaDoorS5
namespace Go.AM.F
open Go Go.AM
set_option maxRecDepth 10000
set_option linter.unusedSimpArgs false
attribute [local simp] j0_thicketref03_quoted j1_thicketref03_quoted j2_thicketref03_quoted j3_thicketref03_quoted w1_thicketref03_quoted j4_thicketref03_quoted j5_thicketref03_quoted j6_thicketref03_quoted j7_thicketref03_quoted j8_thicketref03_quoted j9_thicketref03_quoted j10_thicketref03_quoted j11_thicketref03_quoted w0_thicketref03_quoted j12_thicketref03_quoted b_thicketref03_quoted a_thicketref03_quoted
theorem u8_nat {n : Nat} (h : n < 256) : IntKind.u8.wrap (n : Int) = n := by
  simp only [IntKind.wrap, IntKind.signed, IntKind.bits]
  simp
  omega
def qR : QR → Nat → Option (Out × Env)
  | .ok l e, _ => some (.ret, [(4, .v (.string (bytesOf l))), (5, .v (.int .i64 (e : Nat))), (6, .v (.bool true))])
  | .bad p, _ => some (.ret, [(4, .v (.string ⟨#[]⟩)), (5, .v (.int .i64 (p : Nat))), (6, .v (.bool false))])
  | .over _, n => some (.ret, [(4, .v (.string ⟨#[]⟩)), (5, .v (.int .i64 (n : Nat))), (6, .v (.bool false))])
set_option maxHeartbeats 4000000 in
theorem quoted_loop (s : ByteArray) (hs : s.size ≤ 1048576) : ∀ (n k : Nat) (acc : List Nat), s.size ≤ k + n → k ≤ s.size → acc.length ≤ k →
    andThen (inBlock 0 (Exec T l0_thicketref03_quoted [(0, .v (.string s)), (1, .v (.int .i64 k)), (7, .own 1 (bl acc)), (40, .dead), (59, .dead), (64, .dead), (69, .dead), (107, .dead)])) (Exec T k12_thicketref03_quoted) = qR (quoteFrom s n k acc) s.size := by
  intro n
  induction n with
  | zero =>
    intro k acc hn hk ha
    obtain rfl : k = s.size := by omega
    rw [ex0_thicketref03_quoted]
    simp [quoteFrom, qR]
  | succ n ih =>
    intro k acc hn hk ha
    rw [ex0_thicketref03_quoted]
    by_cases hlt : k < s.size
    · have hw := wrap_succ hlt (by omega)
      have hb1 : acc.length ≤ 140737488355327 := by omega
      have hb2 : acc.length ≤ 4611686018427387903 := by omega
      by_cases h1 : ch s k = 34
      · simp [quoteFrom, qR, hlt, ch_eq, h1, hw, bytesOf]
      by_cases h3 : ch s k < 32
      · have : ¬ ch s k = 92 := by omega
        simp [quoteFrom, qR, hlt, ch_eq, h1, h3, this]
      by_cases h4 : ch s k = 127
      · simp [quoteFrom, qR, hlt, ch_eq, h1, h3, h4]
      by_cases h2 : ch s k = 92
      · obtain ⟨m, hm⟩ : ∃ m, m = k + 1 := ⟨_, rfl⟩
        have hwm : IntKind.i64.wrap ((k : Int) + 1) = (m : Int) := by rw [hw]; omega
        have hq : quoteFrom s (n + 1) k acc = match escAt s m with
            | .inl (d, e) => quoteFrom s n e (acc ++ [d])
            | .inr p => .bad p := by
          rw [hm]
          simp only [quoteFrom]
          rw [if_pos hlt, if_neg h1, if_pos h2]
          rfl
        rw [hq]
        by_cases hl1 : m < s.size
        · have nl1 : ¬ s.size ≤ m := by omega
          have hw1 := wrap_add (k := m) 1 (by omega)
          have hw2 := wrap_add (k := m) 2 (by omega)
          have hw5 : IntKind.i64.wrap ((m : Int) + 2 + 1) = (m : Int) + 3 := by rw [wrap_i64] <;> omega
          by_cases d1 : ch s m = 34 ∨ ch s m = 92
          · have h0 := ih (m + 1) (acc ++ [ch s m]) (by omega) (by omega) (by simp; omega)
            simp only [bl_append, succ_cast] at h0
            simp only [escAt, if_pos hl1, if_pos d1]
            rcases d1 with d1 | d1 <;> (rw [d1] at h0 ⊢; simp [hlt, ch_eq, h1, h2, hwm, hw1, hl1, nl1, d1, hb1, hb2]; exact h0)
          have d1a : ¬ ch s m = 34 := fun h => d1 (.inl h)
          have d1b : ¬ ch s m = 92 := fun h => d1 (.inr h)
          by_cases d2 : ch s m = 110
          · have h0 := ih (m + 1) (acc ++ [10]) (by omega) (by omega) (by simp; omega)
            simp only [bl_append, succ_cast] at h0
            simp only [escAt, if_pos hl1, if_neg d1, if_pos d2]
            rw [← h0]
            simp [hlt, ch_eq, h1, h2, hwm, hw1, hl1, nl1, d1a, d1b, d2, hb1, hb2]
          by_cases d3 : ch s m = 116
          · have h0 := ih (m + 1) (acc ++ [9]) (by omega) (by omega) (by simp; omega)
            simp only [bl_append, succ_cast] at h0
            simp only [escAt, if_pos hl1, if_neg d1, if_neg d2, if_pos d3]
            rw [← h0]
            simp [hlt, ch_eq, h1, h2, hwm, hw1, hl1, nl1, d1a, d1b, d2, d3, hb1, hb2]
          by_cases d4 : ch s m = 120
          · simp only [escAt, if_pos hl1, if_neg d1, if_neg d2, if_neg d3, if_pos d4]
            by_cases l1 : m + 1 < s.size
            · have m1 : ¬ s.size ≤ m + 1 := by omega
              have c1 := c_rhex (ch s (m + 1)) (ch_small _ _)
              simp only [if_pos l1]
              cases x1 : hexN (ch s (m + 1)) with
              | none =>
                simp only [rhexR, x1] at c1
                simp [ex1_thicketref03_quoted, hlt, ch_eq, h1, h2, hwm, hw1, hl1, nl1, d1a, d1b, d2, d3, d4, l1, m1, c1, qR]
              | some a =>
                simp only [rhexR, x1] at c1
                have ha := hexN_lt x1
                have na : ¬ (a : Int) < 0 := by omega
                have wa := wrap_nat (k := a) (by omega)
                by_cases l2 : m + 2 < s.size
                · have m2 : ¬ s.size ≤ m + 2 := by omega
                  have c2 := c_rhex (ch s (m + 2)) (ch_small _ _)
                  simp only [if_pos l2]
                  cases x2 : hexN (ch s (m + 2)) with
                  | none =>
                    simp only [rhexR, x2] at c2
                    simp [ex1_thicketref03_quoted, hlt, ch_eq, h1, h2, hwm, hw1, hw2, hl1, nl1, d1a, d1b, d2, d3, d4, l1, m1, c1, na, wa, l2, m2, c2, qR]
                  | some b =>
                    simp only [rhexR, x2] at c2
                    have hb := hexN_lt x2
                    have nb : ¬ (b : Int) < 0 := by omega
                    have wb : IntKind.i64.wrap (16 * (a : Int)) = 16 * a := by rw [wrap_i64] <;> omega
                    have wc : IntKind.i64.wrap (16 * (a : Int) + b) = 16 * a + b := by rw [wrap_i64] <;> omega
                    have wd : IntKind.u8.wrap (16 * (a : Int) + b) = 16 * a + b := by
                      have := u8_nat (n := 16 * a + b) (by omega)
                      simpa using this
                    have h0 := ih (m + 3) (acc ++ [16 * a + b]) (by omega) (by omega) (by simp; omega)
                    have e3 : ((m + 3 : Nat) : Int) = (m : Int) + 3 := by omega
                    have e4 : ((16 * a + b : Nat) : Int) = 16 * (a : Int) + b := by omega
                    simp only [bl_append, e3, e4] at h0
                    simp only []
                    rw [← h0]
                    simp [ex1_thicketref03_quoted, hlt, ch_eq, h1, h2, hwm, hw1, hw2, hw5, hl1, nl1, d1a, d1b, d2, d3, d4, l1, m1, c1, na, wa, l2, m2, c2, nb, wb, wc, wd, hb1, hb2]
                · have m2 : s.size ≤ m + 2 := by omega
                  simp only [if_neg l2]
                  simp [ex1_thicketref03_quoted, hlt, ch_eq, h1, h2, hwm, hw1, hw2, hl1, nl1, d1a, d1b, d2, d3, d4, l1, m1, c1, na, wa, l2, m2, qR]
            · have m1 : s.size ≤ m + 1 := by omega
              simp only [if_neg l1]
              simp [ex1_thicketref03_quoted, hlt, ch_eq, h1, h2, hwm, hw1, hl1, nl1, d1a, d1b, d2, d3, d4, l1, m1, qR]
          · simp only [escAt, if_pos hl1, if_neg d1, if_neg d2, if_neg d3, if_neg d4]
            simp [hlt, ch_eq, h1, h2, hwm, hw1, hl1, nl1, d1a, d1b, d2, d3, d4, qR]
        · have nl1 : s.size ≤ m := by omega
          have : m = s.size := by omega
          simp only [escAt, if_neg hl1]
          simp [hlt, ch_eq, h1, h2, hwm, hl1, nl1, qR, this]
      · have h0 := ih (k + 1) (acc ++ [ch s k]) (by omega) (by omega) (by simp; omega)
        simp only [bl_append, succ_cast] at h0
        simp [quoteFrom, hlt, ch_eq, h1, h2, h3, h4, hw, hb1, hb2, h0]
    · obtain rfl : k = s.size := by omega
      simp [quoteFrom, qR]
def quotedR : (ByteArray × Nat) ⊕ Nat → PV
  | .inl (t, e) => .tup [.v (.string t), .v (.int .i64 (e : Nat)), .v (.bool true)]
  | .inr p => .tup [.v (.string ⟨#[]⟩), .v (.int .i64 (p : Nat)), .v (.bool false)]
theorem c_quoted (s : ByteArray) (hs : s.size ≤ 1048576) (i : Nat) (hi : i < s.size) : Cinf T n_thicketref03_quoted [.v (.string s), .v (.int .i64 i)] = some (quotedR (quoteAt s i), [.dead, .dead]) := by
  have h0 := quoted_loop s hs s.size (i + 1) [] (by omega) (by omega) (by simp)
  have hw := wrap_succ hi (by omega)
  rw [succ_cast] at h0
  simp only [bl_nil] at h0
  unfold quoteAt
  cases hq : quoteFrom s s.size (i + 1) [] with
  | _ =>
    rw [hq] at h0
    simp only [qR] at h0
    rw [run_thicketref03_quoted]
    simp [-tl12_thicketref03_quoted, Run, hw, h0, quotedR]
attribute [local simp] j0_thicketref03_mark j1_thicketref03_mark w0_thicketref03_mark j2_thicketref03_mark b_thicketref03_mark a_thicketref03_mark
def marks : List Nat := [44, 58, 59, 61, 60, 62, 40, 41, 91, 93, 123, 125, 124]
theorem mark_loop (c : Nat) (l : List Nat) (hl : l.length ≤ 1000) : ∀ (n k : Nat), l.length - k = n → k ≤ l.length →
    Exec T l0_thicketref03_mark [(0, .v (.int .u8 c)), (6, .own 1 (bl l)), (7, .v (.int .i64 l.length)), (8, .v (.int .i64 k))] = if (l.drop k).contains c = true then some (.ret, [(2, .v (.bool true))]) else some (.exit 0, [(0, .v (.int .u8 c)), (6, .own 1 (bl l)), (7, .v (.int .i64 l.length)), (8, .v (.int .i64 l.length))]) := by
  intro n
  induction n with
  | zero =>
    intro k hn hk
    obtain rfl : k = l.length := by omega
    rw [ex0_thicketref03_mark]
    simp
  | succ n ih =>
    intro k hn hk
    have hlt : k < l.length := by omega
    have h0 := ih (k + 1) (by omega) (by omega)
    have hw := wrap_succ hlt (by omega)
    rw [succ_cast] at h0
    obtain ⟨x, hx⟩ : ∃ x, l[k] = x := ⟨_, rfl⟩
    have hg : (bl l)[k]'(by simpa using hlt) = .v (.int .u8 (x : Nat)) := by simp [bl, hx]
    rw [ex0_thicketref03_mark, List.drop_eq_getElem_cons hlt, hx]
    by_cases hc : c = x
    · simp [hlt, hg, hc]
    · have hci : ¬ (c : Int) = x := by omega
      simp [hlt, hg, hc, hci, hw, h0]
theorem c_mark (c : Nat) : Cinf T n_thicketref03_mark [.v (.int .u8 (c : Nat))] = some (.v (.bool (markB c)), [.dead]) := by
  have h0 := mark_loop c marks (by decide) 13 0 rfl (Nat.zero_le _)
  have h1 : bl marks = [.v (.int .u8 44), .v (.int .u8 58), .v (.int .u8 59), .v (.int .u8 61), .v (.int .u8 60), .v (.int .u8 62), .v (.int .u8 40), .v (.int .u8 41), .v (.int .u8 91), .v (.int .u8 93), .v (.int .u8 123), .v (.int .u8 125), .v (.int .u8 124)] := rfl
  have h2 : (marks.length : Int) = 13 := rfl
  rw [h1, h2, List.drop_zero, Int.natCast_zero] at h0
  rw [run_thicketref03_mark]
  by_cases hc : marks.contains c = true
  · have hm : markB c = true := hc
    rw [if_pos hc] at h0
    simp [Run, h0, hm]
  · have hm : markB c = false := by
      unfold markB
      exact Bool.eq_false_iff.2 hc
    rw [if_neg hc] at h0
    simp [Run, h0, hm]
end Go.AM.F

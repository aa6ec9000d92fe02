/- The words of a line, as the document has them. No conditions. -/
import Derived.Test.YtfnhfjpoeacoaaaDoorS8
namespace Go.AM.F
open Go Go.AM
set_option maxRecDepth 10000
set_option linter.unusedSimpArgs false
attribute [local simp] j0_thicketref03_Words w1_thicketref03_Words j1_thicketref03_Words w2_thicketref03_Words
theorem inName : ∀ c < 256, (decide (cls c &&& 11 = 0) && !decide (c = 45)) = !(letterB c || digitB c || decide (c = 95) || decide (c = 45) || decide (c = 46)) := by decide +kernel
theorem inNum : ∀ c < 256, decide (cls c &&& 15 = 0) = !(letterB c || digitB c || decide (c = 95) || decide (c = 45) || decide (c = 46) || decide (c = 43)) := by decide +kernel
theorem isLetter : ∀ c < 256, decide (cls c = 1) = (letterB c || decide (c = 95)) := by decide +kernel
theorem isNum : ∀ c < 256, decide (cls c &&& 14 = 0) = !(digitB c || decide (c = 43) || decide (c = 45) || decide (c = 46)) := by decide +kernel
theorem isMark : ∀ c < 256, decide (cls c = 16) = markB c := by decide +kernel
theorem isBlank : ∀ c < 256, decide (cls c = 32) = blankB c := by decide +kernel
theorem rname_loop (s : ByteArray) (hs : s.size ≤ 1048576) (x5 x6 x8 : PV) : ∀ (n k : Nat), s.size - k = n → k ≤ s.size →
    Exec T l1_thicketref03_Words [(0, .v (.string s)), (5, x5), (6, x6), (8, x8), (9, .v (.int .i64 k)), (200, .dead)] = some (.exit 3, [(0, .v (.string s)), (5, x5), (6, x6), (8, x8), (9, .v (.int .i64 (stop (noName s) n k : Nat))), (200, .dead)]) := by
  intro n
  induction n with
  | zero =>
    intro k hn hk
    obtain rfl : k = s.size := by omega
    rw [ex1_thicketref03_Words]
    simp [stop]
  | succ n ih =>
    intro k hn hk
    have hlt : k < s.size := by omega
    have hw := wrap_succ hlt (by omega)
    have h0 := ih (k + 1) (by omega) (by omega)
    rw [succ_cast] at h0
    have hn : noName s k = !(letterB (ch s k) || digitB (ch s k) || decide (ch s k = 95) || decide (ch s k = 45) || decide (ch s k = 46)) := inName _ (ch_small _ _)
    have hc := c_rletter (ch s k) (ch_small _ _)
    have hd := c_rdigit (ch s k) (ch_small _ _)
    obtain ⟨c, hcc⟩ : ∃ c, ch s k = c := ⟨_, rfl⟩
    rw [hcc] at hn hc hd
    rw [ex1_thicketref03_Words]
    simp only [stop]
    cases a1 : letterB c with
    | true => simp [hlt, ch_eq, hcc, hc, hd, hw, a1, hn, h0]
    | false => cases a2 : digitB c with
      | true => simp [hlt, ch_eq, hcc, hc, hd, hw, a1, a2, hn, h0]
      | false =>
        by_cases a3 : c = 95
        · simp [hlt, ch_eq, hcc, hc, hd, hw, a1, a2, eq_true a3, hn, h0]
        by_cases a4 : c = 45
        · simp [hlt, ch_eq, hcc, hc, hd, hw, a1, a2, a3, eq_true a4, hn, h0]
        by_cases a5 : c = 46
        · simp [hlt, ch_eq, hcc, hc, hd, hw, a1, a2, a3, a4, eq_true a5, hn, h0]
        · simp [hlt, ch_eq, hcc, hc, hd, hw, a1, a2, a3, a4, a5, hn]
theorem rnum_loop (s : ByteArray) (hs : s.size ≤ 1048576) (x5 x6 x8 : PV) : ∀ (n k : Nat), s.size - k = n → k ≤ s.size →
    Exec T l2_thicketref03_Words [(0, .v (.string s)), (5, x5), (6, x6), (8, x8), (9, .v (.int .i64 k)), (200, .dead)] = some (.exit 5, [(0, .v (.string s)), (5, x5), (6, x6), (8, x8), (9, .v (.int .i64 (stop (noNum s) n k : Nat))), (200, .dead)]) := by
  intro n
  induction n with
  | zero =>
    intro k hn hk
    obtain rfl : k = s.size := by omega
    rw [ex2_thicketref03_Words]
    simp [stop]
  | succ n ih =>
    intro k hn hk
    have hlt : k < s.size := by omega
    have hw := wrap_succ hlt (by omega)
    have h0 := ih (k + 1) (by omega) (by omega)
    rw [succ_cast] at h0
    have hn : noNum s k = !(letterB (ch s k) || digitB (ch s k) || decide (ch s k = 95) || decide (ch s k = 45) || decide (ch s k = 46) || decide (ch s k = 43)) := inNum _ (ch_small _ _)
    have hc := c_rletter (ch s k) (ch_small _ _)
    have hd := c_rdigit (ch s k) (ch_small _ _)
    obtain ⟨c, hcc⟩ : ∃ c, ch s k = c := ⟨_, rfl⟩
    rw [hcc] at hn hc hd
    rw [ex2_thicketref03_Words]
    simp only [stop]
    cases a1 : letterB c with
    | true => simp [hlt, ch_eq, hcc, hc, hd, hw, a1, hn, h0]
    | false => cases a2 : digitB c with
      | true => simp [hlt, ch_eq, hcc, hc, hd, hw, a1, a2, hn, h0]
      | false =>
        by_cases a3 : c = 95
        · simp [hlt, ch_eq, hcc, hc, hd, hw, a1, a2, eq_true a3, hn, h0]
        by_cases a4 : c = 45
        · simp [hlt, ch_eq, hcc, hc, hd, hw, a1, a2, a3, eq_true a4, hn, h0]
        by_cases a5 : c = 46
        · simp [hlt, ch_eq, hcc, hc, hd, hw, a1, a2, a3, a4, eq_true a5, hn, h0]
        by_cases a6 : c = 43
        · simp [hlt, ch_eq, hcc, hc, hd, hw, a1, a2, a3, a4, a5, eq_true a6, hn, h0]
        · simp [hlt, ch_eq, hcc, hc, hd, hw, a1, a2, a3, a4, a5, a6, hn]
end Go.AM.F

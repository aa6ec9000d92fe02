/- Every Name, every Blank. No conditions. -/
import Derived.Test.YtfnhfjpoeacoaaaDoorS13
namespace Go.AM.F
open Go Go.AM
set_option maxRecDepth 10000
set_option linter.unusedSimpArgs false
attribute [local simp] j0_scan_Blank j1_scan_Blank j2_scan_Blank w0_scan_Blank j3_scan_Blank b_scan_Blank a_scan_Blank
def nameAll (s : ByteArray) : Nat → Nat → Bool
  | 0, _ => true
  | n + 1, k => !noName s k && nameAll s n (k + 1)
def nameB (s : ByteArray) : Bool := decide (1 ≤ s.size ∧ s.size ≤ 64) && nameAll s s.size 0
def bR (b : Bool) : Option (Out × Env) := some (.ret, [(2, .v (.bool b))])
def blankAll (s : ByteArray) : Nat → Nat → Bool
  | 0, _ => true
  | n + 1, k => decide (ch s k = 35) || (decide (cls (ch s k) = 32) && blankAll s n (k + 1))
theorem bk_loop (s : ByteArray) (hs : s.size ≤ 67108864) : ∀ (n k : Nat), s.size - k = n → k ≤ s.size →
    andThen (inBlock 0 (Exec T l0_scan_Blank [(0, .v (.string s)), (5, .v (.int .i64 s.size)), (6, .v (.int .i64 k))])) (Exec T k3_scan_Blank) = bR (blankAll s n k) := by
  intro n
  induction n with
  | zero =>
    intro k hn hk
    obtain rfl : k = s.size := by omega
    rw [ex0_scan_Blank]
    simp [blankAll, bR]
  | succ n ih =>
    intro k hn hk
    have hlt : k < s.size := by omega
    have hw := wrap_succ hlt (by omega)
    have h0 := ih (k + 1) (by omega) (by omega)
    rw [succ_cast] at h0
    have hc := c_of (ch s k) (ch_small _ _)
    rw [ex0_scan_Blank]
    simp only [blankAll]
    obtain ⟨c, hcc⟩ : ∃ c, ch s k = c := ⟨_, rfl⟩
    rw [hcc] at hc ⊢
    by_cases h1 : c = 35
    · simp [hlt, ch_eq, hcc, hc, eq_true h1, bR]
    · by_cases h2 : cls c = 32
      · simp [hlt, ch_eq, hcc, hc, eq_false h1, eq_true h2, hw, h0]
      · simp [hlt, ch_eq, hcc, hc, eq_false h1, eq_false h2, bR]
theorem c_Blank (s : ByteArray) (hs : s.size ≤ 67108864) : Cinf T n_scan_Blank [.v (.string s)] = some (.v (.bool (blankAll s s.size 0)), [.dead]) := by
  have h0 := bk_loop s hs s.size 0 rfl (Nat.zero_le _)
  simp only [Int.natCast_zero, bR] at h0
  rw [run_scan_Blank]
  simp [-tl3_scan_Blank, Run, h0]
end Go.AM.F

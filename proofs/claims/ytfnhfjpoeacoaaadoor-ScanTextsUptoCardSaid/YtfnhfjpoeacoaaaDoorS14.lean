/- Every Name, every Blank. No conditions. -/
import Derived.Test.YtfnhfjpoeacoaaaDoorS13
namespace Go.AM.F
open Go Go.AM
set_option maxRecDepth 10000
set_option linter.unusedSimpArgs false
attribute [local simp] j0_scan_Name j1_scan_Name w0_scan_Name j2_scan_Name j3_scan_Name b_scan_Name a_scan_Name j0_thicketref03_Name j1_thicketref03_Name w0_thicketref03_Name j2_thicketref03_Name b_thicketref03_Name a_thicketref03_Name
attribute [local simp] j0_scan_Blank j1_scan_Blank j2_scan_Blank w0_scan_Blank j3_scan_Blank b_scan_Blank a_scan_Blank j0_thicketref03_Blank j1_thicketref03_Blank w0_thicketref03_Blank j2_thicketref03_Blank b_thicketref03_Blank a_thicketref03_Blank

def nameAll (s : ByteArray) : Nat → Nat → Bool
  | 0, _ => true
  | n + 1, k => !noName s k && nameAll s n (k + 1)
def nameB (s : ByteArray) : Bool := decide (1 ≤ s.size ∧ s.size ≤ 64) && nameAll s s.size 0
def bR (b : Bool) : Option (Out × Env) := some (.ret, [(2, .v (.bool b))])
theorem nm_loop (s : ByteArray) (hs : s.size ≤ 1048576) : ∀ (n k : Nat), s.size - k = n → k ≤ s.size →
    andThen (inBlock 0 (Exec T l0_scan_Name [(0, .v (.string s)), (13, .v (.int .i64 s.size)), (14, .v (.int .i64 k))])) (Exec T k2_scan_Name) = bR (nameAll s n k) := by
  intro n
  induction n with
  | zero =>
    intro k hn hk
    obtain rfl : k = s.size := by omega
    rw [ex0_scan_Name]
    simp [nameAll, bR]
  | succ n ih =>
    intro k hn hk
    have hlt : k < s.size := by omega
    have hw := wrap_succ hlt (by omega)
    have h0 := ih (k + 1) (by omega) (by omega)
    rw [succ_cast] at h0
    have hc := c_of (ch s k) (ch_small _ _)
    have ha := and11 (ch s k) (ch_small _ _)
    simp at ha
    rw [ex0_scan_Name]
    simp only [nameAll, noName]
    obtain ⟨c, hcc⟩ : ∃ c, ch s k = c := ⟨_, rfl⟩
    rw [hcc] at hc ha ⊢
    by_cases h1 : cls c &&& 11 = 0
    · by_cases h2 : c = 45
      · simp [hlt, ch_eq, hcc, hc, ha, h1, eq_true h2, hw, h0]
      · simp [hlt, ch_eq, hcc, hc, ha, h1, eq_false h2, bR]
    · simp [hlt, ch_eq, hcc, hc, ha, h1, hw, h0]
theorem c_Name (s : ByteArray) (hs : s.size ≤ 1048576) : Cinf T n_scan_Name [.v (.string s)] = some (.v (.bool (nameB s)), [.dead]) := by
  have h0 := nm_loop s hs s.size 0 rfl (Nat.zero_le _)
  simp only [Int.natCast_zero, bR] at h0
  rw [run_scan_Name]
  unfold nameB
  by_cases h1 : s.size < 1
  · have h2 : ¬ 1 ≤ s.size := by omega
    have h3 : s.size = 0 := by omega
    simp [Run, h1, h2, h3]
  · have h2 : 1 ≤ s.size := by omega
    have h3 : ¬ s.size = 0 := by omega
    by_cases h4 : 64 < s.size
    · have h5 : ¬ s.size ≤ 64 := by omega
      simp [Run, h1, h2, h3, h4, h5]
    · have h5 : s.size ≤ 64 := by omega
      simp [-tl2_scan_Name, Run, h1, h2, h3, eq_false h4, h5, h0]
theorem rnm_loop (s : ByteArray) (hs : s.size ≤ 1048576) : ∀ (n k : Nat), s.size - k = n → k ≤ s.size →
    andThen (inBlock 0 (Exec T l0_thicketref03_Name [(0, .v (.string s)), (3, .v (.int .i64 k))])) (Exec T k2_thicketref03_Name) = bR (decide (1 ≤ s.size ∧ s.size ≤ 64) && nameAll s n k) := by
  intro n
  induction n with
  | zero =>
    intro k hn hk
    obtain rfl : k = s.size := by omega
    rw [ex0_thicketref03_Name]
    by_cases h1 : 1 ≤ s.size
    · have h3 : ¬ s.size = 0 := by omega
      by_cases h2 : s.size ≤ 64
      · simp [nameAll, bR, h1, h2, h3]
      · simp [nameAll, bR, h1, h2, h3]
    · have h3 : s.size = 0 := by omega
      simp [nameAll, bR, h3]
  | succ n ih =>
    intro k hn hk
    have hlt : k < s.size := by omega
    have hw := wrap_succ hlt (by omega)
    have h0 := ih (k + 1) (by omega) (by omega)
    rw [succ_cast] at h0
    have hn : noName s k = !(letterB (ch s k) || digitB (ch s k) || decide (ch s k = 95) || decide (ch s k = 45) || decide (ch s k = 46)) := inName _ (ch_small _ _)
    have hc := c_rletter (ch s k) (ch_small _ _)
    have hd := c_rdigit (ch s k) (ch_small _ _)
    rw [ex0_thicketref03_Name]
    simp only [nameAll]
    obtain ⟨c, hcc⟩ : ∃ c, ch s k = c := ⟨_, rfl⟩
    rw [hcc] at hn hc hd
    rw [hn]
    cases a1 : letterB c with
    | true => simp [hlt, ch_eq, hcc, hc, hd, hw, a1, h0]
    | false => cases a2 : digitB c with
      | true => simp [hlt, ch_eq, hcc, hc, hd, hw, a1, a2, h0]
      | false =>
        by_cases a3 : c = 95
        · simp [hlt, ch_eq, hcc, hc, hd, hw, a1, a2, eq_true a3, h0]
        by_cases a4 : c = 45
        · simp [hlt, ch_eq, hcc, hc, hd, hw, a1, a2, eq_false a3, eq_true a4, h0]
        by_cases a5 : c = 46
        · simp [hlt, ch_eq, hcc, hc, hd, hw, a1, a2, eq_false a3, eq_false a4, eq_true a5, h0]
        · simp [hlt, ch_eq, hcc, hc, hd, hw, a1, a2, eq_false a3, eq_false a4, eq_false a5, bR]
theorem c_rName (s : ByteArray) (hs : s.size ≤ 1048576) : Cinf T n_thicketref03_Name [.v (.string s)] = some (.v (.bool (nameB s)), [.dead]) := by
  have h0 := rnm_loop s hs s.size 0 rfl (Nat.zero_le _)
  simp only [Int.natCast_zero] at h0
  change _ = bR (nameB s) at h0
  simp only [bR] at h0
  rw [run_thicketref03_Name]
  simp [-tl2_thicketref03_Name, Run, h0]
def blankAll (s : ByteArray) : Nat → Nat → Bool
  | 0, _ => true
  | n + 1, k => decide (ch s k = 35) || (decide (cls (ch s k) = 32) && blankAll s n (k + 1))
theorem bk_loop (s : ByteArray) (hs : s.size ≤ 1048576) : ∀ (n k : Nat), s.size - k = n → k ≤ s.size →
    andThen (inBlock 0 (Exec T l0_scan_Blank [(0, .v (.string s)), (5, .v (.int .i64 s.size)), (6, .v (.int .i64 k))])) (Exec T k3_scan_Blank) = bR (blankAll s n k) := by
  intro n
  induction n with
  | zero =>
    intro k hn hk
    obtain rfl : k = s.size := by omega
    rw [ex0_scan_Blank]
    simp [blankAll, bR]
  | succ n ih =>
    intro k hn hk
    have hlt : k < s.size := by omega
    have hw := wrap_succ hlt (by omega)
    have h0 := ih (k + 1) (by omega) (by omega)
    rw [succ_cast] at h0
    have hc := c_of (ch s k) (ch_small _ _)
    rw [ex0_scan_Blank]
    simp only [blankAll]
    obtain ⟨c, hcc⟩ : ∃ c, ch s k = c := ⟨_, rfl⟩
    rw [hcc] at hc ⊢
    by_cases h1 : c = 35
    · simp [hlt, ch_eq, hcc, hc, eq_true h1, bR]
    · by_cases h2 : cls c = 32
      · simp [hlt, ch_eq, hcc, hc, eq_false h1, eq_true h2, hw, h0]
      · simp [hlt, ch_eq, hcc, hc, eq_false h1, eq_false h2, bR]
theorem c_Blank (s : ByteArray) (hs : s.size ≤ 1048576) : Cinf T n_scan_Blank [.v (.string s)] = some (.v (.bool (blankAll s s.size 0)), [.dead]) := by
  have h0 := bk_loop s hs s.size 0 rfl (Nat.zero_le _)
  simp only [Int.natCast_zero, bR] at h0
  rw [run_scan_Blank]
  simp [-tl3_scan_Blank, Run, h0]
theorem rbk_loop (s : ByteArray) (hs : s.size ≤ 1048576) : ∀ (n k : Nat), s.size - k = n → k ≤ s.size →
    andThen (inBlock 0 (Exec T l0_thicketref03_Blank [(0, .v (.string s)), (3, .v (.int .i64 k))])) (Exec T k2_thicketref03_Blank) = bR (blankAll s n k) := by
  intro n
  induction n with
  | zero =>
    intro k hn hk
    obtain rfl : k = s.size := by omega
    rw [ex0_thicketref03_Blank]
    simp [blankAll, bR]
  | succ n ih =>
    intro k hn hk
    have hlt : k < s.size := by omega
    have hw := wrap_succ hlt (by omega)
    have h0 := ih (k + 1) (by omega) (by omega)
    rw [succ_cast] at h0
    have hc := c_rblank (ch s k) (ch_small _ _)
    have hb := isBlank (ch s k) (ch_small _ _)
    rw [ex0_thicketref03_Blank]
    simp only [blankAll]
    obtain ⟨c, hcc⟩ : ∃ c, ch s k = c := ⟨_, rfl⟩
    rw [hcc] at hc hb ⊢
    rw [hb]
    by_cases h1 : c = 35
    · simp [hlt, ch_eq, hcc, hc, eq_true h1, bR]
    · cases h2 : blankB c with
      | true => simp [hlt, ch_eq, hcc, hc, eq_false h1, h2, hw, h0]
      | false => simp [hlt, ch_eq, hcc, hc, eq_false h1, h2, bR]
theorem c_rBlank (s : ByteArray) (hs : s.size ≤ 1048576) : Cinf T n_thicketref03_Blank [.v (.string s)] = some (.v (.bool (blankAll s s.size 0)), [.dead]) := by
  have h0 := rbk_loop s hs s.size 0 rfl (Nat.zero_le _)
  simp only [Int.natCast_zero, bR] at h0
  rw [run_thicketref03_Blank]
  simp [-tl2_thicketref03_Blank, Run, h0]
end Go.AM.F

/- Every Column; every Quote, Name, Blank, Column. No conditions. -/
import Derived.Test.YtfnhfjpoeacoaaaDoorS16
namespace Go.AM.F
open Go Go.AM
set_option maxRecDepth 10000
set_option linter.unusedSimpArgs false
attribute [local simp] j0_scan_Column j1_scan_Column w0_scan_Column j2_scan_Column b_scan_Column a_scan_Column j0_thicketref03_Column j1_thicketref03_Column w0_thicketref03_Column j2_thicketref03_Column b_thicketref03_Column a_thicketref03_Column b_thicketlaw03_ScanTexts a_thicketlaw03_ScanTexts

@[local simp] theorem put_it (e : Env) (s : Nat) (t : ByteArray) (p : Nat) : e.put s (.iter t p) = (e.kill s fun _ => true).set s (.iter t p) := rfl
def colFrom (s : ByteArray) (a : Int) : Nat → Nat → Nat → Nat
  | 0, _, n => n
  | f + 1, p, n => if p < s.size ∧ (p : Int) < a then colFrom s a f (p + decW s p) (n + 1) else n
theorem decW_le (s : ByteArray) (p : Nat) (h : p < s.size) : 1 ≤ decW s p ∧ p + decW s p ≤ s.size := by
  have hm := wideLen_le (ch s p)
  rw [decW_wide]
  unfold wideN
  by_cases h1 : ch s p < 128
  · simp [h1]
    omega
  · by_cases h2 : s.size < p + wideLen (ch s p)
    · simp [h1, h2]
      omega
    · simp only [if_neg h1, if_neg h2]
      split
      · split <;> omega
      · simp
        omega
def iR (n : Nat) : Option (Out × Env) := some (.ret, [(4, .v (.int .i64 n))])
theorem col_loop (s : ByteArray) (hs : s.size ≤ 1048576) (a : Int) : ∀ (f p n : Nat), s.size ≤ p + f → p ≤ s.size → n ≤ p + 1 →
    andThen (inBlock 0 (Exec T l0_scan_Column [(1, .v (.int .i64 a)), (5, .v (.int .i64 n)), (8, .iter s p)])) (Exec T k2_scan_Column) = iR (colFrom s a f p n) := by
  intro f
  induction f with
  | zero =>
    intro p n hn hp _
    obtain rfl : p = s.size := by omega
    rw [ex0_scan_Column]
    simp [nextPV, colFrom, iR]
  | succ f ih =>
    intro p n hn hp hnp
    rw [ex0_scan_Column]
    by_cases hlt : p < s.size
    · by_cases ha : a ≤ p
      · have : ¬ (p : Int) < a := by omega
        simp [nextPV, colFrom, iR, hlt, ha, this]
      · have h1 : (p : Int) < a := by omega
        have hd := decW_le s p hlt
        have hw := wrap_add (k := n) 1 (by omega)
        have h0 := ih (p + decW s p) (n + 1) (by omega) hd.2 (by omega)
        rw [succ_cast] at h0
        simp [nextPV, colFrom, hlt, eq_false ha, h1, decode_w, hw, h0]
    · obtain rfl : p = s.size := by omega
      simp [nextPV, colFrom, iR]
theorem c_Column (s : ByteArray) (hs : s.size ≤ 1048576) (a : Int) : Cinf T n_scan_Column [.v (.string s), .v (.int .i64 a)] = some (.v (.int .i64 (colFrom s a s.size 0 1 : Nat)), [.dead, .dead]) := by
  have h0 := col_loop s hs a s.size 0 1 (by omega) (Nat.zero_le _) (Nat.le_refl _)
  simp only [Int.natCast_one, iR] at h0
  rw [run_scan_Column]
  simp [-tl2_scan_Column, Run, h0]
theorem rcol_loop (s : ByteArray) (hs : s.size ≤ 1048576) (a : Int) : ∀ (f p n : Nat), s.size ≤ p + f → p ≤ s.size → n ≤ p + 1 →
    andThen (inBlock 0 (Exec T l0_thicketref03_Column [(0, .v (.string s)), (1, .v (.int .i64 a)), (5, .v (.int .i64 n)), (6, .v (.int .i64 p))])) (Exec T k2_thicketref03_Column) = iR (colFrom s a f p n) := by
  intro f
  induction f with
  | zero =>
    intro p n hn hp _
    obtain rfl : p = s.size := by omega
    rw [ex0_thicketref03_Column]
    simp [colFrom, iR]
  | succ f ih =>
    intro p n hn hp hnp
    rw [ex0_thicketref03_Column]
    by_cases hlt : p < s.size
    · by_cases h1 : (p : Int) < a
      · have hd := decW_le s p hlt
        have hw := wrap_add (k := n) 1 (by omega)
        have h0 := ih (p + decW s p) (n + 1) (by omega) hd.2 (by omega)
        rw [succ_cast] at h0
        have hc := c_wide s hs p hlt
        have he := decW_wide s p
        have hw2 : IntKind.i64.wrap ((p : Int) + decW s p) = ((p + decW s p : Nat) : Int) := by rw [wrap_i64] <;> omega
        simp only [colFrom, if_pos (And.intro hlt h1)]
        rw [← h0]
        by_cases hz : wideN s p = 0
        · rw [if_pos hz] at he
          rw [he] at hw2 ⊢
          simp only [Int.natCast_one] at hw2
          simp [hlt, h1, hc, hz, hw, hw2]
        · rw [if_neg hz] at he
          rw [he] at hw2 ⊢
          simp [hlt, h1, hc, hz, hw, hw2]
      · simp [colFrom, iR, hlt, h1]
    · obtain rfl : p = s.size := by omega
      simp [colFrom, iR]
theorem c_rColumn (s : ByteArray) (hs : s.size ≤ 1048576) (a : Int) : Cinf T n_thicketref03_Column [.v (.string s), .v (.int .i64 a)] = some (.v (.int .i64 (colFrom s a s.size 0 1 : Nat)), [.dead, .dead]) := by
  have h0 := rcol_loop s hs a s.size 0 1 (by omega) (Nat.zero_le _) (Nat.le_refl _)
  simp only [Int.natCast_one, Int.natCast_zero, iR] at h0
  rw [run_thicketref03_Column]
  simp [-tl2_thicketref03_Column, Run, h0]
theorem c_ScanTexts (s : ByteArray) (hs : s.size ≤ 1048576) (a : Int) : Cinf T n_thicketlaw03_ScanTexts [.v (.string s), .v (.int .i64 a)] = some (.v (.bool true), [.dead, .dead]) := by
  have h1 := c_Quote s hs
  have h2 := c_rQuote s hs
  have h3 := c_Name s hs
  have h4 := c_rName s hs
  have h5 := c_Blank s hs
  have h6 := c_rBlank s hs
  have h7 := c_Column s hs a
  have h8 := c_rColumn s hs a
  rw [run_thicketlaw03_ScanTexts]
  simp [Run, c_lives, h1, h2, h3, h4, h5, h6, h7, h8]
end Go.AM.F

/- Fields of a line. No conditions. -/
import Derived.Test.YtfnhfjpoeacoaaaDoorS17
namespace Go.AM.F
open Go Go.AM
set_option maxRecDepth 10000
set_option linter.unusedSimpArgs false
attribute [local simp] b_scan_badBy a_scan_badBy j0_scan_Fields j1_scan_Fields j2_scan_Fields w1_scan_Fields j3_scan_Fields j4_scan_Fields w2_scan_Fields j5_scan_Fields j6_scan_Fields j7_scan_Fields w0_scan_Fields j8_scan_Fields b_scan_Fields a_scan_Fields
def badB (c : Nat) : Bool := decide (c = 34) || decide (c = 10) || decide (c = 13)
theorem c_badBy (c : Nat) : Cinf T n_scan_badBy [.v (.int .u8 (c : Nat))] = some (.v (.bool (badB c)), [.dead]) := by
  rw [run_scan_badBy]
  unfold badB
  by_cases h1 : c = 34
  · simp [Run, eq_true h1]
  by_cases h2 : c = 10
  · simp [Run, eq_false h1, eq_true h2]
  by_cases h3 : c = 13
  · simp [Run, eq_false h1, eq_false h2, eq_true h3]
  · simp [Run, eq_false h1, eq_false h2, eq_false h3]
/-- A quoted field, behind its first quote. -/
def fqFrom (s : ByteArray) : Nat → Nat → List Nat → QR
  | 0, _, acc => .over acc
  | n + 1, k, acc => if k < s.size then
      if ch s k = 34 then (if k + 1 < s.size ∧ ch s (k + 1) = 34 then fqFrom s n (k + 2) (acc ++ [34]) else .ok acc (k + 1))
      else fqFrom s n (k + 1) (acc ++ [ch s k])
    else .over acc
def fR (s : ByteArray) (by_ : Nat) (x7 : PV) : QR → Option (Out × Env)
  | .ok l e => some (.exit 2, [(0, .v (.string s)), (1, .v (.int .u8 by_)), (7, x7), (8, .v (.int .i64 ((e : Int) - 1))), (9, .own 1 (bl l)), (54, .dead), (90, .dead), (95, .dead)])
  | .bad p => some (.ret, [(4, .own 1 []), (5, .v (.int .i64 31)), (6, .v (.int .i64 p)), (7, x7), (95, .dead), (100, .dead)])
  | .over _ => some (.ret, [(4, .own 1 []), (5, .v (.int .i64 31)), (6, .v (.int .i64 s.size)), (7, x7), (95, .dead), (100, .dead)])
theorem fq_loop (s : ByteArray) (hs : s.size ≤ 67108864) (by_ : Nat) (ts : List PV) : ∀ (n k : Nat) (acc : List Nat), s.size ≤ k + n → k ≤ s.size → acc.length ≤ k →
    Exec T l1_scan_Fields [(0, .v (.string s)), (1, .v (.int .u8 by_)), (7, .own 1 ts), (8, .v (.int .i64 k)), (9, .own 1 (bl acc)), (54, .dead), (90, .dead), (95, .dead)] = fR s by_ (.own 1 ts) (fqFrom s n k acc) := by
  intro n
  induction n with
  | zero =>
    intro k acc hn hk ha
    obtain rfl : k = s.size := by omega
    rw [ex1_scan_Fields]
    simp [fqFrom, fR]
  | succ n ih =>
    intro k acc hn hk ha
    rw [ex1_scan_Fields]
    by_cases hlt : k < s.size
    · have hw := wrap_succ hlt (by omega)
      have e1 : acc.length ≤ 140737488355327 := by omega
      have e2 : acc.length ≤ 4611686018427387903 := by omega
      have nl : ¬ s.size ≤ k := by omega
      by_cases h34 : ch s k = 34
      · by_cases l1 : k + 1 < s.size
        · have nl1 : ¬ s.size ≤ k + 1 := by omega
          by_cases d : ch s (k + 1) = 34
          · have h0 := ih (k + 1 + 1) (acc ++ [34]) (by omega) (by omega) (by simp; omega)
            have hw2 : IntKind.i64.wrap ((k : Int) + 1 + 1) = (k : Int) + 1 + 1 := by rw [wrap_i64] <;> omega
            simp only [fqFrom, if_pos hlt, if_pos h34, if_pos (And.intro l1 d)]
            rw [succ_cast, succ_cast] at h0
            simp only [bl_append] at h0
            rw [← h0]
            simp [hlt, nl, ch_eq, h34, l1, nl1, d, hw, hw2, e1, e2]
          · simp [fqFrom, fR, hlt, nl, ch_eq, h34, l1, nl1, d, hw, succ_cast]
        · have l2 : s.size ≤ k + 1 := by omega
          simp [fqFrom, fR, hlt, nl, ch_eq, h34, l1, l2, hw, succ_cast]
      · have h0 := ih (k + 1) (acc ++ [ch s k]) (by omega) (by omega) (by simp; omega)
        rw [succ_cast] at h0
        simp only [bl_append] at h0
        simp [fqFrom, hlt, nl, ch_eq, h34, hw, e1, e2, h0]
    · obtain rfl : k = s.size := by omega
      simp [fqFrom, fR]
end Go.AM.F

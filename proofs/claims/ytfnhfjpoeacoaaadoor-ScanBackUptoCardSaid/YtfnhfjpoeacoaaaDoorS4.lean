/- What stands behind a backslash; quoted texts. No conditions. -/
import Derived.Test.YtfnhfjpoeacoaaaDoorS3
namespace Go.AM.F
open Go Go.AM
set_option maxRecDepth 10000
set_option linter.unusedSimpArgs false

/-- What a backslash says: the byte and where it ends, or the place of the fault. -/
def escAt (s : ByteArray) (i : Nat) : (Nat × Nat) ⊕ Nat :=
  if i < s.size then
    if ch s i = 34 ∨ ch s i = 92 then .inl (ch s i, i + 1)
    else if ch s i = 110 then .inl (10, i + 1)
    else if ch s i = 116 then .inl (9, i + 1)
    else if ch s i = 120 then
      if i + 1 < s.size then match hexN (ch s (i + 1)) with
        | none => .inr (i + 1)
        | some a => if i + 2 < s.size then match hexN (ch s (i + 2)) with
          | none => .inr (i + 2)
          | some b => .inl (16 * a + b, i + 3)
          else .inr s.size
      else .inr s.size
    else .inr i
  else .inr i
theorem hexN_lt {c d : Nat} (h : hexN c = some d) : d < 16 := by
  unfold hexN at h
  split at h
  · cases h; omega
  · split at h
    · cases h; omega
    · split at h
      · cases h; omega
      · cases h
theorem nib : ∀ a < 16, ∀ b < 16, IntKind.u8.wrap (BitVec.ofInt IntKind.u8.bits (IntKind.u8.wrap (((a : Nat) : Int) * 2 ^ min (4 : Int).toNat IntKind.u8.bits)) ||| BitVec.ofInt IntKind.u8.bits ((b : Nat) : Int)).toNat = ((16 * a + b : Nat) : Int) := by decide +kernel
def escR : (Nat × Nat) ⊕ Nat → PV
  | .inl (d, e) => .tup [.v (.int .u8 d), .v (.int .i64 e), .v (.bool true)]
  | .inr p => .tup [.v (.int .u8 0), .v (.int .i64 p), .v (.bool false)]
theorem c_escape (s : ByteArray) (hs : s.size ≤ 67108864) (i : Nat) (hi : i ≤ s.size) : Cinf T n_scan_escape [.v (.string s), .v (.int .i64 i)] = some (escR (escAt s i), [.dead, .dead]) := by
  by_cases h0 : i < s.size
  · have hn0 : ¬ s.size ≤ i := by omega
    have hw1 := wrap_add (k := i) 1 (by omega)
    have hw2 := wrap_add (k := i) 2 (by omega)
    have hw3 := wrap_add (k := i) 3 (by omega)
    by_cases h1 : ch s i = 34 ∨ ch s i = 92
    · rcases h1 with h1 | h1
      · simp [run_scan_escape, Run, a_scan_escape, b_scan_escape, j7_scan_escape, j6_scan_escape, j5_scan_escape, h0, hn0, h1, ch_eq, escAt, escR, hw1]
      · simp [run_scan_escape, Run, a_scan_escape, b_scan_escape, j7_scan_escape, j6_scan_escape, j5_scan_escape, h0, hn0, h1, ch_eq, escAt, escR, hw1]
    · have h1a : ¬ ch s i = 34 := fun h => h1 (.inl h)
      have h1b : ¬ ch s i = 92 := fun h => h1 (.inr h)
      by_cases h2 : ch s i = 110
      · simp [run_scan_escape, Run, a_scan_escape, b_scan_escape, j7_scan_escape, j6_scan_escape, j5_scan_escape, h0, hn0, h2, ch_eq, escAt, escR, hw1]
      by_cases h3 : ch s i = 116
      · simp [run_scan_escape, Run, a_scan_escape, b_scan_escape, j7_scan_escape, j6_scan_escape, j5_scan_escape, h0, hn0, h3, ch_eq, escAt, escR, hw1]
      by_cases h4 : ch s i = 120
      · by_cases l1 : i + 1 < s.size
        · have c1 := c_hex (ch s (i + 1)) (ch_small _ _)
          have m1 : ¬ s.size ≤ i + 1 := by omega
          cases x1 : hexN (ch s (i + 1)) with
          | none =>
            simp only [hexR, x1] at c1
            simp [run_scan_escape, Run, a_scan_escape, b_scan_escape, j7_scan_escape, j6_scan_escape, j5_scan_escape, ex0_scan_escape, w0_scan_escape, j3_scan_escape, j1_scan_escape, h0, hn0, h4, ch_eq, escAt, escR, hw1, l1, m1, c1, x1]
          | some a =>
            simp only [hexR, x1] at c1
            have n1 := nib 0 (by decide) a (hexN_lt x1)
            simp at n1
            by_cases l2 : i + 2 < s.size
            · have c2 := c_hex (ch s (i + 2)) (ch_small _ _)
              have m2 : ¬ s.size ≤ i + 2 := by omega
              cases x2 : hexN (ch s (i + 2)) with
              | none =>
                simp only [hexR, x2] at c2
                simp [run_scan_escape, Run, a_scan_escape, b_scan_escape, j7_scan_escape, j6_scan_escape, j5_scan_escape, ex0_scan_escape, w0_scan_escape, j3_scan_escape, j2_scan_escape, j1_scan_escape, j0_scan_escape, h0, hn0, h4, ch_eq, escAt, escR, hw1, hw2, l1, m1, c1, x1, l2, m2, c2, x2, n1]
              | some b =>
                simp only [hexR, x2] at c2
                have n2 := nib a (hexN_lt x1) b (hexN_lt x2)
                simp at n2
                simp [run_scan_escape, Run, a_scan_escape, b_scan_escape, j7_scan_escape, j6_scan_escape, j5_scan_escape, j4_scan_escape, ex0_scan_escape, w0_scan_escape, j3_scan_escape, j2_scan_escape, j1_scan_escape, j0_scan_escape, h0, hn0, h4, ch_eq, escAt, escR, hw1, hw2, hw3, l1, m1, c1, x1, l2, m2, c2, x2, n1, n2]
            · have m2 : s.size ≤ i + 2 := by omega
              simp [run_scan_escape, Run, a_scan_escape, b_scan_escape, j7_scan_escape, j6_scan_escape, j5_scan_escape, ex0_scan_escape, w0_scan_escape, j3_scan_escape, j2_scan_escape, j1_scan_escape, j0_scan_escape, h0, hn0, h4, ch_eq, escAt, escR, hw1, hw2, l1, m1, c1, x1, l2, m2, n1]
        · have m1 : s.size ≤ i + 1 := by omega
          simp [run_scan_escape, Run, a_scan_escape, b_scan_escape, j7_scan_escape, j6_scan_escape, j5_scan_escape, ex0_scan_escape, w0_scan_escape, j3_scan_escape, h0, hn0, h4, ch_eq, escAt, escR, hw1, l1, m1]
      · simp [run_scan_escape, Run, a_scan_escape, b_scan_escape, j7_scan_escape, j6_scan_escape, j5_scan_escape, h0, hn0, h1a, h1b, h2, h3, h4, ch_eq, escAt, escR, hw1]
  · have : i = s.size := by omega
    simp [run_scan_escape, Run, a_scan_escape, b_scan_escape, h0, escAt, escR]
end Go.AM.F

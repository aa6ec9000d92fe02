/- How wide a character is. No conditions. -/
import Derived.Test.YtfnhfjpoeacoaaaDoorS14
namespace Go.AM.F
open Go Go.AM
set_option maxRecDepth 10000
set_option linter.unusedSimpArgs false
def wideLen (c : Nat) : Nat := if 194 ≤ c ∧ c ≤ 223 then 2 else if 224 ≤ c ∧ c ≤ 239 then 3 else if 240 ≤ c ∧ c ≤ 244 then 4 else 0
def wideLow (c : Nat) : Nat := if c = 224 then 160 else if c = 240 then 144 else 128
def wideHigh (c : Nat) : Nat := if c = 237 then 159 else if c = 244 then 143 else 191
/-- The bytes behind the first, from place j on. -/
def wideTail (s : ByteArray) : Nat → Nat → Nat → Nat → Bool
  | 0, _, _, _ => true
  | n + 1, j, lo, hi => decide (lo ≤ ch s j ∧ ch s j ≤ hi) && wideTail s n (j + 1) 128 191
def wideN (s : ByteArray) (i : Nat) : Nat :=
  if ch s i < 128 then 1
  else if s.size < i + wideLen (ch s i) then 0
  else if wideTail s (wideLen (ch s i) - 1) (i + 1) (wideLow (ch s i)) (wideHigh (ch s i)) = true then wideLen (ch s i) else 0
theorem wideLen_le (c : Nat) : wideLen c ≤ 4 ∧ wideLen c ≠ 1 := by
  unfold wideLen
  repeat' split
  all_goals omega
end Go.AM.F

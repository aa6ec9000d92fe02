/- Every Column; every Quote, Name, Blank, Column. No conditions. -/
import Derived.Test.YtfnhfjpoeacoaaaDoorS16
namespace Go.AM.F
open Go Go.AM
set_option maxRecDepth 10000
set_option linter.unusedSimpArgs false
@[local simp] theorem put_it (e : Env) (s : Nat) (t : ByteArray) (p : Nat) : e.put s (.iter t p) = (e.kill s fun _ => true).set s (.iter t p) := rfl
def colFrom (s : ByteArray) (a : Int) : Nat → Nat → Nat → Nat
  | 0, _, n => n
  | f + 1, p, n => if p < s.size ∧ (p : Int) < a then colFrom s a f (p + decW s p) (n + 1) else n
theorem decW_le (s : ByteArray) (p : Nat) (h : p < s.size) : 1 ≤ decW s p ∧ p + decW s p ≤ s.size := by
  have hm := wideLen_le (ch s p)
  rw [decW_wide]
  unfold wideN
  by_cases h1 : ch s p < 128
  · simp [h1]
    omega
  · by_cases h2 : s.size < p + wideLen (ch s p)
    · simp [h1, h2]
      omega
    · simp only [if_neg h1, if_neg h2]
      split
      · split <;> omega
      · simp
        omega
def iR (n : Nat) : Option (Out × Env) := some (.ret, [(4, .v (.int .i64 n))])
end Go.AM.F

/- The words of a line, as the document has them: the whole line. No conditions. -/
import Derived.Test.YtfnhfjpoeacoaaaDoorS9
namespace Go.AM.F
open Go Go.AM
set_option maxRecDepth 10000
set_option linter.unusedSimpArgs false
theorem wordEnd_lt {s : ByteArray} {i k e : Nat} (h : 65536 + i < e) : wordEnd s i k e = .err 4 i := by unfold wordEnd; rw [if_pos (by omega)]
theorem wordEnd_ge {s : ByteArray} {i k e : Nat} (h : e ≤ 65536 + i) : wordEnd s i k e = .word k (s.extract i e) e := by unfold wordEnd; rw [if_neg (by omega)]
end Go.AM.F

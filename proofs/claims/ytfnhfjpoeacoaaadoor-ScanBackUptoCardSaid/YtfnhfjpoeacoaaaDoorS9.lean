/- The words of a line, as the document has them. No conditions. -/
import Derived.Test.YtfnhfjpoeacoaaaDoorS8
namespace Go.AM.F
open Go Go.AM
set_option maxRecDepth 10000
set_option linter.unusedSimpArgs false
theorem inName : ∀ c < 256, (decide (cls c &&& 11 = 0) && !decide (c = 45)) = !(letterB c || digitB c || decide (c = 95) || decide (c = 45) || decide (c = 46)) := by decide +kernel
theorem inNum : ∀ c < 256, decide (cls c &&& 15 = 0) = !(letterB c || digitB c || decide (c = 95) || decide (c = 45) || decide (c = 46) || decide (c = 43)) := by decide +kernel
theorem isLetter : ∀ c < 256, decide (cls c = 1) = (letterB c || decide (c = 95)) := by decide +kernel
theorem isNum : ∀ c < 256, decide (cls c &&& 14 = 0) = !(digitB c || decide (c = 43) || decide (c = 45) || decide (c = 46)) := by decide +kernel
theorem isMark : ∀ c < 256, decide (cls c = 16) = markB c := by decide +kernel
theorem isBlank : ∀ c < 256, decide (cls c = 32) = blankB c := by decide +kernel
end Go.AM.F

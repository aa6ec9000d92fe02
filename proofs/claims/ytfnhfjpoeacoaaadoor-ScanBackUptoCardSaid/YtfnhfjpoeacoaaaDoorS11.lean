/- Every Words, with the place of the fault. No conditions. -/
import Derived.Test.YtfnhfjpoeacoaaaDoorS0
import Derived.Test.YtfnhfjpoeacoaaaDoorS10
namespace Go.AM.F
open Go Go.AM
set_option maxRecDepth 10000
set_option linter.unusedSimpArgs false
theorem wordsFrom_len {s : ByteArray} : ∀ {n i : Nat} {acc l : List WordV}, i ≤ s.size → acc.length ≤ i → wordsFrom s n i acc = .ok l → l.length ≤ s.size
  | 0, i, acc, l, hi, ha, h => by cases h; omega
  | n + 1, i, acc, l, hi, ha, h => by
    simp only [wordsFrom] at h
    split at h
    · rename_i hc
      split at h
      · exact wordsFrom_len (by omega) (by omega) h
      · split at h
        · cases h
        · rename_i hw
          have := wordAt_le hc.1 hw
          exact wordsFrom_len this.2 (by simp; omega) h
    · cases h; omega
end Go.AM.F

/- What is answered by name: strings.Repeat, internal/strconv.FormatUint. No conditions. -/
import Derived.Test.YtbghahcgjnlnlaaDoorIr
import Derived.Test.YtbghahcgjnlnlaaDoorRep
import Derived.Test.YtbghahcgjnlnlaaDoorFmt
namespace Go.AM.F
open Go Go.AM Go.Proofs
set_option maxRecDepth 100000

theorem ext_ok : CallOK Tryd.prog G T.ext := by
  intro f xs y backs h w I vs bss hI hnd hni hG hx
  change extT f xs = some (y, backs) at h
  unfold extT at h
  split at h
  · rename_i hf
    subst hf
    exact repeat_ok xs y backs h w I vs bss hI hnd hni hx
  · split at h
    · rename_i hf
      subst hf
      exact Go.AM.Fmt.formatUint_ok xs y backs h w I vs bss hI (hG 2 (by simp [G, glob2])) hx
    · cases h
end Go.AM.F

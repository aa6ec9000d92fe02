/- What is answered by name: utf8.ValidString. No conditions. -/
import Derived.Test.YtkcnnifgdhabgaaDoorIr
import Derived.Test.YtkcnnifgdhabgaaDoorVld
import Derived.KernelRfl
namespace Go.AM.F
open Go Go.AM Go.Proofs
set_option maxRecDepth 100000

theorem tab0_eq : glob0 = tabF.map fun z => .v (.int .u8 z) := by kernel_rfl
theorem tab1_eq : glob1 = tabA.map fun z => .v (.int .u8 z) := by kernel_rfl
theorem ext_ok : CallOK Tryd.prog G T.ext := by
  intro f xs y backs h w I vs bss hI hnd hni hG hx
  change extT f xs = some (y, backs) at h
  unfold extT at h
  split at h
  · rename_i hf
    subst hf
    have h0 := hG 0 (by simp [G, glob0])
    have h1 := hG 1 (by simp [G, glob1])
    change R w I nope (.raddr glob0) _ [] at h0
    change R w I nope (.raddr glob1) _ [] at h1
    rw [tab0_eq] at h0
    rw [tab1_eq] at h1
    exact valid_ok xs y backs h w I vs bss hI h0 h1 hx
  · cases h
end Go.AM.F

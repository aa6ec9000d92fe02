/- The law's opening question: it is answered by running. No conditions. -/
import Derived.Test.YtlokekpiajholaaDoorIr
import Derived.KernelRfl
namespace Go.AM.F
open Go Go.AM
set_option maxRecDepth 100000

theorem half_run : callN T 200 n_floats_Read [.v (.string ⟨#[48, 46, 53]⟩)] = some (.tup [.v (.float .f64 4602678819172646912), .v (.int .i64 0), .v (.int .i64 0)], [.dead]) := by kernel_rfl
theorem c_half : Cinf T n_floats_Read [.v (.string ⟨#[48, 46, 53]⟩)] = some (.tup [.v (.float .f64 4602678819172646912), .v (.int .i64 0), .v (.int .i64 0)], [.dead]) := Cinf_iff.2 ⟨200, half_run⟩
end Go.AM.F

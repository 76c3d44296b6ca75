/- HelperKnown: what follows the loops, evaluated. -/
import Derived.Test.YtcbijmamfbfelaaHkA
namespace Go.WE
open Go Go.Proofs
set_option maxRecDepth 100000
theorem k_rest : retOf Try.prog fp3.km Try.f3.results.toList (evK xrest sA1 msK 3).pick = some (.tt, .tt, one .tt) := by kernel_rfl
end Go.WE

/- Histories: lives. -/
import Derived.Test.YtfpbmoiconopcaaGhA
set_option maxRecDepth 100000
set_option linter.unusedSimpArgs false
set_option linter.unusedVariables false
set_option maxHeartbeats 2000000
namespace Go.Proofs.Ytfpbmoiconopcaa.Gh
open Go Go.Proofs.Ytfpbmoiconopcaa.Am GaFns Go.RowKit

theorem U33_is : (arun (acall A 100) A.fn 100 (some GaFns.c33) [] noH).map (·.1) = some (.bool true) := by kernel_rfl
theorem U33 (H : AHeap) : AC A 33 [] H = some (.bool true, H) := one_closed (x := GaFns.c33) rfl rfl rfl rfl rfl U33_is H

end Go.Proofs.Ytfpbmoiconopcaa.Gh

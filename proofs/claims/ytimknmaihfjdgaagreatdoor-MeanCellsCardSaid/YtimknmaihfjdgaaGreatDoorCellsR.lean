/- The runs of MeanCells: true at each. -/
import Derived.Test.YtimknmaihfjdgaaGreatDoorMeans
namespace GoVm
open Go.Proofs
set_option maxRecDepth 1000000 in
theorem cells_true : okV (run3 3 [.sym .i64 0 1 0, .sym .i64 1 1 0, .bool true] h8 r8) (.bool true) = true := by kernel_rfl
set_option maxRecDepth 1000000 in
theorem cells_false : okV (run3 3 [.sym .i64 0 1 0, .sym .i64 1 1 0, .bool false] h8 r8) (.bool true) = true := by kernel_rfl
end GoVm

/- The runs of MeanGone: true at each. -/
import Derived.Test.YtimknmaihfjdgaaGreatDoorWinR
namespace GoVm
open Go.Proofs
set_option maxRecDepth 1000000 in
theorem gone3 : okV (runW 6 3 8 [.sym .i64 0 1 0, .sym .i64 1 1 0] h8 r8) (.bool true) = true := by kernel_rfl
set_option maxRecDepth 1000000 in
theorem gone4 : okV (runW 6 4 8 [.sym .i64 0 1 0, .sym .i64 1 1 0] h8 r8) (.bool true) = true := by kernel_rfl
set_option maxRecDepth 1000000 in
theorem gone5 : okV (runW 6 5 8 [.sym .i64 0 1 0, .sym .i64 1 1 0] h8 r8) (.bool true) = true := by kernel_rfl
end GoVm

/- The runs of MeanGone: true at each. -/
import Derived.Test.YtimknmaihfjdgaaGreatDoorWinR
namespace GoVm
open Go.Proofs
set_option maxRecDepth 1000000 in
theorem gone0 : okV (runW 6 0 8 [.sym .i64 0 1 0, .sym .i64 1 1 0] h8 r8) (.bool true) = true := by kernel_rfl
set_option maxRecDepth 1000000 in
theorem gone1 : okV (runW 6 1 8 [.sym .i64 0 1 0, .sym .i64 1 1 0] h8 r8) (.bool true) = true := by kernel_rfl
set_option maxRecDepth 1000000 in
theorem gone2 : okV (runW 6 2 8 [.sym .i64 0 1 0, .sym .i64 1 1 0] h8 r8) (.bool true) = true := by kernel_rfl
end GoVm

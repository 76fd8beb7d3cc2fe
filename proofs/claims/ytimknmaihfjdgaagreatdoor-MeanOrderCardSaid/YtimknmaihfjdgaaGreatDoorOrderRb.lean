/- The runs of MeanOrder: true at each. -/
import Derived.Test.YtimknmaihfjdgaaGreatDoorMeans
namespace GoVm
open Go.Proofs
set_option maxRecDepth 1000000 in
theorem order_ftf : okV (run3 4 [.bool false, .bool true, .bool false] h8 r8) (.bool true) = true := by kernel_rfl
set_option maxRecDepth 1000000 in
theorem order_ftt : okV (run3 4 [.bool false, .bool true, .bool true] h8 r8) (.bool true) = true := by kernel_rfl
end GoVm

/- The runs of MeanTraits: true at each. -/
import Derived.Test.YtimknmaihfjdgaaGreatDoorMeans
namespace GoVm
open Go.Proofs
set_option maxRecDepth 1000000 in
theorem traits_true : okV (run3 6 [.sym .i64 0 1 0, .bool true] h8 r8) (.bool true) = true := by kernel_rfl
end GoVm

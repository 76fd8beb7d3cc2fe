/- What a small actor comes to: the closed call with which each statement begins answers true. -/
import Derived.Test.YtimknmaihfjdgaaGreatDoorWords
namespace GoVm
open Go.Proofs
variable {ρ : Nat → Int}
set_option maxRecDepth 1000000 in
theorem means_known : knownOk run2 h8 r8 [⟨11, [], .bool true⟩] = true := by kernel_rfl
noncomputable def prims3 : Caller := orCall (pAt 11 (pKnown [⟨11, [], .bool true⟩])) prims2
theorem prims3_ok : CallOk Tryz.prog ρ prims3 := orCall_ok (pAt_ok (known_ok run2_ok bare means_known)) prims2_ok
theorem prims3_mono : CallMono prims3 := orCall_mono (pAt_mono (known_mono _)) prims2_mono
noncomputable def run3 : Caller := callN (NT.find ftab) prims3 400
theorem run3_ok : CallOk Tryz.prog ρ run3 := calls_ok mixed prims3_ok prims3_mono fns_ok 400
end GoVm

/- Runs in which the answer of Within is known. -/
import Derived.Test.YtimknmaihfjdgaaGreatDoorMeans
namespace GoVm
open Go.Proofs
variable {ρ : Nat → Int}
noncomputable def primsW (m j : Int) : Caller := orCall (pAt 16 (pKnown [⟨16, [.sym .i64 0 1 0, .int .i64 m], .int .i64 j⟩])) prims3
noncomputable def runW (m j : Int) : Caller := callN (NT.find ftab) (primsW m j) 400
theorem runW_ok {m j : Int} (h : CallOk Tryz.prog ρ (pKnown [⟨16, [.sym .i64 0 1 0, .int .i64 m], .int .i64 j⟩])) : CallOk Tryz.prog ρ (runW m j) :=
  calls_ok mixed (orCall_ok (pAt_ok h) prims3_ok) (orCall_mono (pAt_mono (known_mono _)) prims3_mono) fns_ok 400
theorem runW_mono {m j : Int} : CallMono (runW m j) := callN_mono (orCall_mono (pAt_mono (known_mono _)) prims3_mono) 400
end GoVm

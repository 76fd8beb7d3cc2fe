/- Which of the words that occur are keywords: found by running. -/
import Derived.Test.YtimknmaihfjdgaaGreatDoorSys
namespace GoVm
open Go.Proofs
variable {ρ : Nat → Int}
def words : List Known := [⟨84, [.str 1 65], .bool false⟩,
  ⟨84, [.str 1 66], .bool false⟩,
  ⟨84, [.str 1 67], .bool false⟩,
  ⟨84, [.str 4 1130720364], .bool false⟩,
  ⟨84, [.str 4 1131376243], .bool false⟩,
  ⟨84, [.str 1 68], .bool false⟩,
  ⟨84, [.str 1 76], .bool false⟩,
  ⟨84, [.str 4 1281979252], .bool false⟩,
  ⟨84, [.str 1 78], .bool false⟩,
  ⟨84, [.str 3 5138796], .bool false⟩,
  ⟨84, [.str 3 5399910], .bool false⟩,
  ⟨84, [.str 1 83], .bool false⟩,
  ⟨84, [.str 3 5535599], .bool false⟩,
  ⟨84, [.str 1 97], .bool false⟩,
  ⟨84, [.str 5 418280402802], .bool true⟩,
  ⟨84, [.str 3 6385252], .bool true⟩,
  ⟨84, [.str 1 98], .bool false⟩,
  ⟨84, [.str 6 108187599465829], .bool true⟩,
  ⟨84, [.str 4 1651470188], .bool true⟩,
  ⟨84, [.str 1 99], .bool false⟩,
  ⟨84, [.str 4 1667591276], .bool true⟩,
  ⟨84, [.str 1 100], .bool false⟩,
  ⟨84, [.str 4 1684108385], .bool true⟩,
  ⟨84, [.str 4 1684366704], .bool false⟩,
  ⟨84, [.str 4 1685026670], .bool false⟩,
  ⟨84, [.str 4 1701606245], .bool true⟩,
  ⟨84, [.str 5 439721161573], .bool true⟩,
  ⟨84, [.str 3 6713202], .bool true⟩,
  ⟨84, [.str 3 6714734], .bool true⟩,
  ⟨84, [.str 3 6776180], .bool true⟩,
  ⟨84, [.str 4 1735356005], .bool false⟩,
  ⟨84, [.str 1 104], .bool false⟩,
  ⟨84, [.str 2 26982], .bool true⟩,
  ⟨84, [.str 4 1768779884], .bool true⟩,
  ⟨84, [.str 2 26990], .bool true⟩,
  ⟨84, [.str 3 6909556], .bool true⟩,
  ⟨84, [.str 1 107], .bool false⟩,
  ⟨84, [.str 1 108], .bool false⟩,
  ⟨84, [.str 3 7103854], .bool false⟩,
  ⟨84, [.str 3 7103860], .bool true⟩,
  ⟨84, [.str 1 109], .bool false⟩,
  ⟨84, [.str 5 469786452840], .bool true⟩,
  ⟨84, [.str 6 120325194214501], .bool true⟩,
  ⟨84, [.str 1 110], .bool false⟩,
  ⟨84, [.str 2 28530], .bool true⟩,
  ⟨84, [.str 3 7370100], .bool true⟩,
  ⟨84, [.str 1 114], .bool false⟩,
  ⟨84, [.str 7 32199624922592869], .bool true⟩,
  ⟨84, [.str 1 115], .bool false⟩,
  ⟨84, [.str 3 7561593], .bool true⟩,
  ⟨84, [.str 4 1936026726], .bool true⟩,
  ⟨84, [.str 4 1936027236], .bool true⟩,
  ⟨84, [.str 5 495806674798], .bool true⟩,
  ⟨84, [.str 1 116], .bool false⟩,
  ⟨84, [.str 4 1952807028], .bool true⟩,
  ⟨84, [.str 4 1952998766], .bool true⟩,
  ⟨84, [.str 5 500135192948], .bool true⟩,
  ⟨84, [.str 4 1953658213], .bool true⟩,
  ⟨84, [.str 3 7632751], .bool false⟩,
  ⟨84, [.str 1 117], .bool false⟩,
  ⟨84, [.str 1 118], .bool false⟩,
  ⟨84, [.str 1 119], .bool false⟩,
  ⟨84, [.str 1 120], .bool false⟩,
  ⟨84, [.str 1 121], .bool false⟩,
  ⟨84, [.str 1 122], .bool false⟩]
set_option maxRecDepth 1000000 in
theorem words_known : knownOk run0 h8 r8 words = true := by kernel_rfl
noncomputable def prims1 : Caller := orCall (pAt 84 (pKnown words)) prims0
theorem prims1_ok : CallOk Tryz.prog ρ prims1 := orCall_ok (pAt_ok (known_ok run0_ok bare words_known)) prims0_ok
theorem prims1_mono : CallMono prims1 := orCall_mono (pAt_mono (known_mono _)) prims0_mono
noncomputable def run1 : Caller := callN (NT.find ftab) prims1 400
theorem run1_ok : CallOk Tryz.prog ρ run1 := calls_ok mixed prims1_ok prims1_mono fns_ok 400
theorem run1_mono : CallMono run1 := callN_mono prims1_mono 400
noncomputable def prims2 : Caller := orCall (pRead run1) prims1
theorem prims2_ok : CallOk Tryz.prog ρ prims2 := orCall_ok (read_ok run1_ok run1_mono) prims1_ok
theorem prims2_mono : CallMono prims2 := orCall_mono (read_mono run1_mono) prims1_mono
noncomputable def run2 : Caller := callN (NT.find ftab) prims2 400
theorem run2_ok : CallOk Tryz.prog ρ run2 := calls_ok mixed prims2_ok prims2_mono fns_ok 400
theorem run2_mono : CallMono run2 := callN_mono prims2_mono 400
end GoVm

/- The program's functions in the virtual machine. -/
import Derived.Test.YtimknmaihfjdgaaGreatDoorCertA
import Derived.Test.YtimknmaihfjdgaaGreatDoorCertB
import Derived.Test.YtimknmaihfjdgaaGreatDoorCertC
import Derived.Test.YtimknmaihfjdgaaGreatDoorCertD
namespace GoVm
open Go (Value World Program Code)
open Go.Proofs

theorem fns_ok : ∀ f vf, NT.find ftab f = some vf → FnOk Tryz.prog f vf := fun f vf h => find_all (p := FnOk Tryz.prog) (t := ftab) ⟨⟨⟨⟨⟨⟨⟨o3, ⟨o4, o5⟩⟩, ⟨⟨o6, o7⟩, ⟨o8, o9⟩⟩⟩, ⟨⟨⟨o10, o11⟩, ⟨o12, o13⟩⟩, ⟨⟨o14, o15⟩, ⟨o16, o17⟩⟩⟩⟩, ⟨⟨⟨o18, ⟨o19, o20⟩⟩, ⟨⟨o21, o22⟩, ⟨o24, o25⟩⟩⟩, ⟨⟨⟨o26, o27⟩, ⟨o28, o29⟩⟩, ⟨⟨o30, o31⟩, ⟨o32, o33⟩⟩⟩⟩⟩, ⟨⟨⟨⟨o34, ⟨o35, o36⟩⟩, ⟨⟨o37, o38⟩, ⟨o39, o40⟩⟩⟩, ⟨⟨⟨o41, o43⟩, ⟨o44, o45⟩⟩, ⟨⟨o46, o47⟩, ⟨o48, o49⟩⟩⟩⟩, ⟨⟨⟨⟨o50, o51⟩, ⟨o52, o53⟩⟩, ⟨⟨o54, o55⟩, ⟨o56, o57⟩⟩⟩, ⟨⟨⟨o58, o59⟩, ⟨o60, o61⟩⟩, ⟨⟨o62, o63⟩, ⟨o64, o65⟩⟩⟩⟩⟩⟩, ⟨⟨⟨⟨⟨o66, ⟨o67, o68⟩⟩, ⟨⟨o69, o70⟩, ⟨o71, o72⟩⟩⟩, ⟨⟨⟨o73, o74⟩, ⟨o75, o76⟩⟩, ⟨⟨o77, o78⟩, ⟨o80, o81⟩⟩⟩⟩, ⟨⟨⟨o82, ⟨o83, o84⟩⟩, ⟨⟨o85, o86⟩, ⟨o87, o88⟩⟩⟩, ⟨⟨⟨o89, o91⟩, ⟨o92, o93⟩⟩, ⟨⟨o94, o95⟩, ⟨o96, o97⟩⟩⟩⟩⟩, ⟨⟨⟨⟨o98, ⟨o99, o100⟩⟩, ⟨⟨o101, o102⟩, ⟨o103, o104⟩⟩⟩, ⟨⟨⟨o105, o106⟩, ⟨o107, o108⟩⟩, ⟨⟨o109, o110⟩, ⟨o111, o112⟩⟩⟩⟩, ⟨⟨⟨⟨o113, o114⟩, ⟨o115, o116⟩⟩, ⟨⟨o117, o118⟩, ⟨o119, o120⟩⟩⟩, ⟨⟨⟨o121, o122⟩, ⟨o123, o124⟩⟩, ⟨⟨o125, o126⟩, ⟨o127, o128⟩⟩⟩⟩⟩⟩⟩, ⟨⟨⟨⟨⟨⟨o129, ⟨o130, o131⟩⟩, ⟨⟨o132, o133⟩, ⟨o134, o135⟩⟩⟩, ⟨⟨⟨o136, o137⟩, ⟨o138, o139⟩⟩, ⟨⟨o140, o141⟩, ⟨o142, o143⟩⟩⟩⟩, ⟨⟨⟨o144, ⟨o145, o147⟩⟩, ⟨⟨o148, o149⟩, ⟨o150, o151⟩⟩⟩, ⟨⟨⟨o152, o153⟩, ⟨o154, o155⟩⟩, ⟨⟨o156, o157⟩, ⟨o158, o159⟩⟩⟩⟩⟩, ⟨⟨⟨⟨o160, ⟨o161, o162⟩⟩, ⟨⟨o163, o164⟩, ⟨o165, o166⟩⟩⟩, ⟨⟨⟨o167, o168⟩, ⟨o169, o170⟩⟩, ⟨⟨o171, o172⟩, ⟨o174, o175⟩⟩⟩⟩, ⟨⟨⟨⟨o176, o177⟩, ⟨o178, o180⟩⟩, ⟨⟨o181, o182⟩, ⟨o183, o184⟩⟩⟩, ⟨⟨⟨o185, o186⟩, ⟨o187, o188⟩⟩, ⟨⟨o189, o190⟩, ⟨o191, o192⟩⟩⟩⟩⟩⟩, ⟨⟨⟨⟨⟨o193, ⟨o195, o196⟩⟩, ⟨⟨o197, o198⟩, ⟨o199, o201⟩⟩⟩, ⟨⟨⟨o202, o203⟩, ⟨o204, o205⟩⟩, ⟨⟨o206, o207⟩, ⟨o208, o224⟩⟩⟩⟩, ⟨⟨⟨⟨o225, o226⟩, ⟨o227, o228⟩⟩, ⟨⟨o229, o230⟩, ⟨o231, o232⟩⟩⟩, ⟨⟨⟨o233, o234⟩, ⟨o235, o236⟩⟩, ⟨⟨o237, o238⟩, ⟨o239, o240⟩⟩⟩⟩⟩, ⟨⟨⟨⟨o241, ⟨o242, o243⟩⟩, ⟨⟨o244, o245⟩, ⟨o246, o247⟩⟩⟩, ⟨⟨⟨o248, o249⟩, ⟨o250, o251⟩⟩, ⟨⟨o252, o253⟩, ⟨o254, o255⟩⟩⟩⟩, ⟨⟨⟨⟨o256, o257⟩, ⟨o258, o259⟩⟩, ⟨⟨o260, o261⟩, ⟨o262, o263⟩⟩⟩, ⟨⟨⟨o264, o265⟩, ⟨o266, o267⟩⟩, ⟨⟨o268, o269⟩, ⟨o270, o271⟩⟩⟩⟩⟩⟩⟩⟩ f vf h

theorem mixed : Tryz.prog.follows .mixedOrders = true := by kernel_rfl
theorem globs : Tryz.prog.globals.size = 8 := by kernel_rfl

noncomputable def h8 : T O := layAll [(0, r0, .dead), (0, r1, .dead), (0, r2, .dead), (0, r3, .dead), (0, r4, .dead), (0, r5, .dead), (0, r6, .dead), (0, r7, .dead)] .e
theorem bare8 : Bare 8 h8 r8 := by
  refine ⟨fun g hg => ?_, rfl⟩
  match g, hg with
  | 0, _ => rfl
  | 1, _ => rfl
  | 2, _ => rfl
  | 3, _ => rfl
  | 4, _ => rfl
  | 5, _ => rfl
  | 6, _ => rfl
  | 7, _ => rfl
theorem bare : Bare Tryz.prog.globals.size h8 r8 := by rw [globs]; exact bare8

theorem ext79 : IsExt Tryz.prog 79 Go.Extern.BytealgCount.count := ⟨Tryz.f79, Tryz.func79, by kernel_rfl, by kernel_rfl, by kernel_rfl, by kernel_rfl⟩
theorem ext173 : IsExt Tryz.prog 173 Go.Extern.BytealgIndexByte.indexByte := ⟨Tryz.f173, Tryz.func173, by kernel_rfl, by kernel_rfl, by kernel_rfl, by kernel_rfl⟩

/-- The closure that Read defers. -/
def restOf : Code → Code
  | .seq _ b => b
  | c => c
def headOf : Code → Code
  | .seq a _ => a
  | c => c
def bodyOf (f : Go.Func) : Code := f.body.getD .skip

noncomputable def noCall : Caller := fun _ _ _ _ => .no
theorem noCall_ok {P : Program} {ρ : Nat → Int} : CallOk P ρ noCall := fun _ _ _ _ _ _ _ h => by cases h
theorem noCall_mono : CallMono noCall := fun _ _ _ _ => WLe.no

end GoVm

/- parse.Read in the virtual machine; which calls are answered otherwise. -/
namespace GoVm
open Go (Value World Program Code)
open Go.Proofs

variable {ρ : Nat → Int}

theorem ends42 : ends (exec noCall 100 (compCode Tryz.prog m42 19 (restOf (bodyOf Tryz.f42))) (T.put .nili r0 .e) h8 r8) = true := by kernel_rfl

theorem slots42 : slotsOk m42 = true := by kernel_rfl

theorem quiet42 (args : Array Value) (w : World) (hsz : Tryz.prog.globals.size ≤ w.heap.size) :
    (Go.callFunc 42 args).run Tryz.prog w = .ok (.enter 42 args) w ∧ Go.CallsD Tryz.prog 42 args .returning w fun e u w' => u = .returning ∧ (∃ v, e = .returned v) ∧ Wider w w' := by
  constructor
  · have hn : ¬ Tryz.f42.name = "runtime.NumGoroutine" := by
      have : (Tryz.f42.name == "runtime.NumGoroutine") = false := by kernel_rfl
      simpa using this
    obtain ⟨c, hc⟩ : ∃ c, Tryz.f42.body = some c := ⟨_, rfl⟩
    simp [Go.callFunc, Tryz.func42, hc, hn]
  · exact closure_quiet (ρ := fun _ => 0) (noCall_ok) (draw_ok mixed noCall_ok noCall_mono (slotsOk_inj slots42) 19) (slotsOk_inj slots42) Tryz.func42 (rest := restOf (bodyOf Tryz.f42)) (rfl) rfl rfl rfl rfl rfl rfl (by decide) (by decide) rfl rfl
      (by rfl : slotOf m42 3 = some r0) bare ends42 args hsz

def vhd : VC → VC
  | .seq a _ => a
  | _ => .fail
def vtl : VC → VC
  | .seq _ b => b
  | _ => .fail

noncomputable def pRead (call : Caller) : Caller := fun f vs h nx => cnd (Nat.beq f 23) (deferGo call 10000 c23.params (vhd c23.code) (vhd (vtl c23.code)) (vhd (vtl (vtl c23.code))) (vtl (vtl (vtl (vtl c23.code)))) c23.res vs h nx) .no

theorem read_ok {call : Caller} (hc : CallOk Tryz.prog ρ call) (hm : CallMono call) : CallOk Tryz.prog ρ (pRead call) := by
  intro f vs h nx v h' nx' hr φ w args ha r hG
  change cnd (Nat.beq f 23) (deferGo call 10000 c23.params (vhd c23.code) (vhd (vtl c23.code)) (vhd (vtl (vtl c23.code))) (vtl (vtl (vtl (vtl c23.code)))) c23.res vs h nx) .no = .ok v h' nx' at hr
  cases hb : Nat.beq f 23 with
  | false => rw [hb] at hr; cases hr
  | true =>
    rw [hb] at hr
    have : f = 23 := by simpa using hb
    subst this
    have hcode := (fn_parts k23 (c := bodyOf Tryz.f23) rfl).2.2.1
    rw [hcode] at hr
    have hr : deferGo call 10000 c23.params _ _ _ _ c23.res vs h nx = .ok v h' nx' := hr
    have e1 : vhd (compCode Tryz.prog m23 Tryz.f23.ntmps (bodyOf Tryz.f23)) = compCode Tryz.prog m23 Tryz.f23.ntmps (headOf (bodyOf Tryz.f23)) := by kernel_rfl
    have e2 : vhd (vtl (compCode Tryz.prog m23 Tryz.f23.ntmps (bodyOf Tryz.f23))) = compCode Tryz.prog m23 Tryz.f23.ntmps (headOf (restOf (bodyOf Tryz.f23))) := by kernel_rfl
    have e3 : vhd (vtl (vtl (compCode Tryz.prog m23 Tryz.f23.ntmps (bodyOf Tryz.f23)))) = compCode Tryz.prog m23 Tryz.f23.ntmps (headOf (restOf (restOf (bodyOf Tryz.f23)))) := by kernel_rfl
    have e4 : vtl (vtl (vtl (vtl (compCode Tryz.prog m23 Tryz.f23.ntmps (bodyOf Tryz.f23))))) = compCode Tryz.prog m23 Tryz.f23.ntmps (restOf (restOf (restOf (restOf (bodyOf Tryz.f23))))) := by kernel_rfl
    rw [e1, e2, e3, e4] at hr
    exact defer_sound hc (fun m N hI => draw_ok mixed hc hm hI N) Tryz.func23 (by kernel_rfl) k23 (A1 := headOf (bodyOf Tryz.f23)) (A2 := headOf (restOf (bodyOf Tryz.f23))) (A3 := headOf (restOf (restOf (bodyOf Tryz.f23))))
      (X4 := restOf (restOf (restOf (restOf (bodyOf Tryz.f23))))) rfl rfl rfl rfl rfl rfl rfl (by decide) (by kernel_rfl : slotOf m23 18 = none) quiet42 hr ha r hG

theorem read_mono {call : Caller} (hm : CallMono call) : CallMono (pRead call) := fun _ _ _ _ => WLe.cnd (defer_mono hm) WLe.no

/-- The calls that are answered otherwise at first: the two functions without body. -/
noncomputable def prims0 : Caller := orCall (pFor 173 idxK) (pFor 79 cntK)
theorem prims0_ok : CallOk Tryz.prog ρ prims0 := orCall_ok (idx_ok ext173) (cnt_ok ext79)
theorem prims0_mono : CallMono prims0 := orCall_mono (ext_mono _ _) (ext_mono _ _)

noncomputable def run0 : Caller := callN (NT.find ftab) prims0 60
theorem run0_ok : CallOk Tryz.prog ρ run0 := calls_ok mixed prims0_ok prims0_mono fns_ok 60
theorem run0_mono : CallMono run0 := callN_mono prims0_mono 60

end GoVm

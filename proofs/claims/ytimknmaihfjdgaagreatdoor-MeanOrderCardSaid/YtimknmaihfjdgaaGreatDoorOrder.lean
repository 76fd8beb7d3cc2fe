/- MeanOrder answers true for every input, and leaves its input as it was. -/
import Derived.Test.YtimknmaihfjdgaaGreatDoorFin
import Derived.Test.YtimknmaihfjdgaaGreatDoorOrderRa
import Derived.Test.YtimknmaihfjdgaaGreatDoorOrderRb
import Derived.Test.YtimknmaihfjdgaaGreatDoorOrderRc
import Derived.Test.YtimknmaihfjdgaaGreatDoorOrderRd
namespace Go.Proofs.YtimknmaihfjdgaaGreatDoor.meanOrder
open Go.ChangeShapes Go.WideShapes Go.ChangeAt Go.RowKit

theorem run (a b c : Bool) (W : World) (hW : Tryz.prog.globals.size ≤ W.heap.size) :
    Calls Tryz.prog 4 #[.bool a, .bool b, .bool c] W fun e W' => e = .returned (.bool true) ∧ GoVm.Wider W W' := by
  let ρ : Nat → Int := fun _ => 0
  have v1 : ∀ x : Bool, GoVm.VR Tryz.prog ρ (GoVm.phiG Tryz.prog.globals.size) (.bool x) (.bool x) := fun x => by simp only [GoVm.VR]
  cases a <;> cases b <;> cases c
  · exact GoVm.run_true (ρ := ρ) GoVm.run3_ok GoVm.bare GoVm.order_fff Tryz.func4 (by kernel_rfl) (by kernel_rfl) (.cons (v1 _) (.cons (v1 _) (.cons (v1 _) .nil))) hW
  · exact GoVm.run_true (ρ := ρ) GoVm.run3_ok GoVm.bare GoVm.order_fft Tryz.func4 (by kernel_rfl) (by kernel_rfl) (.cons (v1 _) (.cons (v1 _) (.cons (v1 _) .nil))) hW
  · exact GoVm.run_true (ρ := ρ) GoVm.run3_ok GoVm.bare GoVm.order_ftf Tryz.func4 (by kernel_rfl) (by kernel_rfl) (.cons (v1 _) (.cons (v1 _) (.cons (v1 _) .nil))) hW
  · exact GoVm.run_true (ρ := ρ) GoVm.run3_ok GoVm.bare GoVm.order_ftt Tryz.func4 (by kernel_rfl) (by kernel_rfl) (.cons (v1 _) (.cons (v1 _) (.cons (v1 _) .nil))) hW
  · exact GoVm.run_true (ρ := ρ) GoVm.run3_ok GoVm.bare GoVm.order_tff Tryz.func4 (by kernel_rfl) (by kernel_rfl) (.cons (v1 _) (.cons (v1 _) (.cons (v1 _) .nil))) hW
  · exact GoVm.run_true (ρ := ρ) GoVm.run3_ok GoVm.bare GoVm.order_tft Tryz.func4 (by kernel_rfl) (by kernel_rfl) (.cons (v1 _) (.cons (v1 _) (.cons (v1 _) .nil))) hW
  · exact GoVm.run_true (ρ := ρ) GoVm.run3_ok GoVm.bare GoVm.order_ttf Tryz.func4 (by kernel_rfl) (by kernel_rfl) (.cons (v1 _) (.cons (v1 _) (.cons (v1 _) .nil))) hW
  · exact GoVm.run_true (ρ := ρ) GoVm.run3_ok GoVm.bare GoVm.order_ttt Tryz.func4 (by kernel_rfl) (by kernel_rfl) (.cons (v1 _) (.cons (v1 _) (.cons (v1 _) .nil))) hW

set_option maxRecDepth 100000 in
theorem lifted (os : Os) (started : os.Started) (H : Type) (enc : TypeId × Value → H) :
    ReturnsInHanded {} Tryz.checked os 4 .any (fun w args => (Rows.meanOrderSpec.pre enc Tryz.prog Tryz.f4 Rows.meanOrderRow.domain false w args ∧ laidMetH Tryz.prog Rows.meanOrderRow.laid w) ∧ sizedMet enc Tryz.prog Tryz.f4 (OpenSpec.ofChange Rows.meanOrderSpec) false w args)
      (Rows.meanOrderSpec.post enc Tryz.prog Tryz.f4 false true false false) := by
  refine returnsInHanded_of_change_and (C := Tryz.checked) (X := fun w _ => laidMetH Tryz.prog Rows.meanOrderRow.laid w) (fun _ _ _ hh h => h.of_heap hh) own started (by kernel_rfl) Tryz.func4
    (ChangeSpec.witness_shaped (enc := enc) (C := Tryz.checked) (os := os) (X := fun w _ => laidMetH Tryz.prog Rows.meanOrderRow.laid w) false (World.laidAll Tryz.prog os Rows.meanOrderRow.laid) #[.bool false, .bool false, .bool false] 8 (World.laidAll_os _ _ _)
      (World.shaped_of_ZipB (by kernel_rfl) (by kernel_rfl)) (by kernel_rfl) (by kernel_rfl) (by kernel_rfl)
      (witness_laid os _ (laidMet_laidAll _ (by kernel_rfl) (by kernel_rfl)))) ?_
  intro W base args ds gs before hval0 hW hc _ hL _
  have hval : ∀ (j : Nat) t v, Tryz.f4.params[j]? = some t → args[j]? = some v → Value.okWide Tryz.prog W .any base t v := hval0
  have hW' := hW
  obtain ⟨p, q, hA0, hV, rfl, _, _⟩ := hW
  have hA : DataW.TrodAll enc Tryz.prog W 0 (fun _ => true) true Tryz.f4.params.toList args.toList ds p := hA0
  rw [Tryz.params4] at hA hval
  obtain ⟨v0, vs0, d0, ds0, p0, q0, hargs, rfl, rfl, h0, r0⟩ := trodAll_cons hA
  obtain ⟨v1, vs1, d1, ds1, p1, q1, rfl, rfl, rfl, h1, r1⟩ := trodAll_cons r0
  obtain ⟨v2, vs2, d2, ds2, p2, q2, rfl, rfl, rfl, h2, r2⟩ := trodAll_cons r1
  obtain ⟨rfl, rfl, rfl⟩ := trodAll_nil r2
  obtain rfl : args = #[v0, v1, v2] := by cases args; simp_all
  obtain ⟨rfl, rfl⟩ := trodVars_none hV
  obtain ⟨a0, rfl, rfl, rfl⟩ := open_bool Tryz.underlying4 (hval 0 4 v0 rfl rfl) h0
  obtain ⟨a1, rfl, rfl, rfl⟩ := open_bool Tryz.underlying4 (hval 1 4 v1 rfl rfl) h1
  obtain ⟨a2, rfl, rfl, rfl⟩ := open_bool Tryz.underlying4 (hval 2 4 v2 rfl rfl) h2
  simp only [List.append_nil] at hW'
  refine (run a0 a1 a2 W (sized_of_laid hL)).mono fun e W' ⟨he, hw⟩ => ?_
  subst he
  exact ⟨_, rfl, GoVm.post_plain hW' (fun _ _ => trodAll_mk1 (shut_bool Tryz.underlying4 _)) (fun _ => (trodAll_cons_mk (shut_bool Tryz.underlying4 _) (trodAll_cons_mk (shut_bool Tryz.underlying4 _) (trodAll_cons_mk (shut_bool Tryz.underlying4 _) trodAll_mk0)))) (fun _ => rfl) hw⟩

theorem said : Rows.MeanOrderSaid :=
  OpenClaim.holds_of_wide 4 Tryz.f4 rfl rfl rfl rfl rfl rfl rfl ⟨rfl, rfl, rfl, rfl, rfl⟩ rfl rfl rfl rfl rfl (by kernel_rfl) Tryz.func4 (by kernel_rfl)
    (of_decide_eq_true (by kernel_rfl)) (by unfold Func.isWrapper; first | (rw [if_pos (by decide +kernel)]; kernel_rfl) | (rw [if_neg (by decide +kernel)]; exact ⟨rfl, rfl⟩))
    (fun os started H enc _ => lifted os started H enc)

/-- No parameter wants a stand-in; the program's own looks are on: what the card asks. -/
theorem plain (f : FuncId) (fn : Func) (hf : Tryz.pinned.checked.prog.funcNamed "roadstead/roadkeep2.MeanOrder" = some f) (hfn : Tryz.pinned.checked.prog.funcs[f]? = some fn) :
    true = Tryz.pinned.checked.prog.looks [] ∧ ∀ (j : Nat) t, fn.params[j]? = some t → Tryz.pinned.checked.prog.wantsStandIn t = false := by
  obtain rfl : f = 4 := Option.some.inj ((show Tryz.prog.funcNamed "roadstead/roadkeep2.MeanOrder" = some 4 by kernel_rfl).symm.trans hf) |>.symm
  obtain rfl : fn = Tryz.f4 := (Option.some.inj (Tryz.func4.symm.trans hfn)).symm
  refine ⟨by kernel_rfl, fun j t ht => ?_⟩
  rw [Tryz.params4] at ht
  have hm : t ∈ [4, 4, 4] := by simpa using Array.mem_of_getElem? ht
  have hall : ([4, 4, 4].all fun u => !Tryz.prog.wantsStandIn u) = true := by kernel_rfl
  exact (show Tryz.prog.wantsStandIn t = false by simpa using List.all_eq_true.1 hall t hm)

theorem holds : Rows.MeanOrderCardSaid :=
  Claim7.holds_tied_plain_at .later [] _ _ _ _ said (fun _ h => by cases h) (by kernel_rfl) (fun _ h => by cases h) meanOrder_row_tie rfl ⟨rfl, rfl⟩ (by kernel_rfl) rfl plain (by kernel_rfl)
#print axioms holds
end Go.Proofs.YtimknmaihfjdgaaGreatDoor.meanOrder

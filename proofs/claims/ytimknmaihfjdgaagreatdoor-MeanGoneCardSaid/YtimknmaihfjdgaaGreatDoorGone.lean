/- MeanGone answers true for every input, and leaves its input as it was. -/
import Derived.Test.YtimknmaihfjdgaaGreatDoorFin
import Derived.Test.YtimknmaihfjdgaaGreatDoorWithin
import Derived.Test.YtimknmaihfjdgaaGreatDoorGoneRa
import Derived.Test.YtimknmaihfjdgaaGreatDoorGoneRb
namespace Go.Proofs.YtimknmaihfjdgaaGreatDoor.meanGone
open Go.ChangeShapes Go.WideShapes Go.ChangeAt Go.RowKit

theorem run (a : Int) (ha : IntKind.i64.wrap a = a) (b : Int) (hb : IntKind.i64.wrap b = b) (W : World) (hW : Tryz.prog.globals.size ≤ W.heap.size) :
    Calls Tryz.prog 8 #[.int .i64 a, .int .i64 b] W fun e W' => e = .returned (.bool true) ∧ GoVm.Wider W W' := by
  let ρ : Nat → Int := fun i => if i = 0 then a else b
  have v0 : GoVm.VR Tryz.prog ρ (GoVm.phiG Tryz.prog.globals.size) (.sym .i64 0 1 0) (.int .i64 a) := by
    simp only [GoVm.VR]
    show Value.int .i64 a = .int .i64 (IntKind.i64.wrap (1 * a + 0))
    rw [Int.one_mul, Int.add_zero, ha]
  have v1 : GoVm.VR Tryz.prog ρ (GoVm.phiG Tryz.prog.globals.size) (.sym .i64 1 1 0) (.int .i64 b) := by
    simp only [GoVm.VR]
    show Value.int .i64 b = .int .i64 (IntKind.i64.wrap (1 * b + 0))
    rw [Int.one_mul, Int.add_zero, hb]
  have hj : a % 6 = 0 ∨ a % 6 = 1 ∨ a % 6 = 2 ∨ a % 6 = 3 ∨ a % 6 = 4 ∨ a % 6 = 5 := by omega
  rcases hj with hj | hj | hj | hj | hj | hj
  · exact GoVm.run_true (ρ := ρ) (GoVm.runW_ok (within_ok a 6 0 rfl ha (by decide) hj (by kernel_rfl))) GoVm.bare GoVm.gone0 Tryz.func8 (by kernel_rfl) (by kernel_rfl) (.cons v0 (.cons v1 .nil)) hW
  · exact GoVm.run_true (ρ := ρ) (GoVm.runW_ok (within_ok a 6 1 rfl ha (by decide) hj (by kernel_rfl))) GoVm.bare GoVm.gone1 Tryz.func8 (by kernel_rfl) (by kernel_rfl) (.cons v0 (.cons v1 .nil)) hW
  · exact GoVm.run_true (ρ := ρ) (GoVm.runW_ok (within_ok a 6 2 rfl ha (by decide) hj (by kernel_rfl))) GoVm.bare GoVm.gone2 Tryz.func8 (by kernel_rfl) (by kernel_rfl) (.cons v0 (.cons v1 .nil)) hW
  · exact GoVm.run_true (ρ := ρ) (GoVm.runW_ok (within_ok a 6 3 rfl ha (by decide) hj (by kernel_rfl))) GoVm.bare GoVm.gone3 Tryz.func8 (by kernel_rfl) (by kernel_rfl) (.cons v0 (.cons v1 .nil)) hW
  · exact GoVm.run_true (ρ := ρ) (GoVm.runW_ok (within_ok a 6 4 rfl ha (by decide) hj (by kernel_rfl))) GoVm.bare GoVm.gone4 Tryz.func8 (by kernel_rfl) (by kernel_rfl) (.cons v0 (.cons v1 .nil)) hW
  · exact GoVm.run_true (ρ := ρ) (GoVm.runW_ok (within_ok a 6 5 rfl ha (by decide) hj (by kernel_rfl))) GoVm.bare GoVm.gone5 Tryz.func8 (by kernel_rfl) (by kernel_rfl) (.cons v0 (.cons v1 .nil)) hW

set_option maxRecDepth 100000 in
theorem lifted (os : Os) (started : os.Started) (H : Type) (enc : TypeId × Value → H) :
    ReturnsInHanded {} Tryz.checked os 8 .any (fun w args => (Rows.meanGoneSpec.pre enc Tryz.prog Tryz.f8 Rows.meanGoneRow.domain false w args ∧ laidMetH Tryz.prog Rows.meanGoneRow.laid w) ∧ sizedMet enc Tryz.prog Tryz.f8 (OpenSpec.ofChange Rows.meanGoneSpec) false w args)
      (Rows.meanGoneSpec.post enc Tryz.prog Tryz.f8 false true false false) := by
  refine returnsInHanded_of_change_and (C := Tryz.checked) (X := fun w _ => laidMetH Tryz.prog Rows.meanGoneRow.laid w) (fun _ _ _ hh h => h.of_heap hh) own started (by kernel_rfl) Tryz.func8
    (ChangeSpec.witness_shaped (enc := enc) (C := Tryz.checked) (os := os) (X := fun w _ => laidMetH Tryz.prog Rows.meanGoneRow.laid w) false (World.laidAll Tryz.prog os Rows.meanGoneRow.laid) #[.int .i64 0, .int .i64 0] 8 (World.laidAll_os _ _ _)
      (World.shaped_of_ZipB (by kernel_rfl) (by kernel_rfl)) (by kernel_rfl) (by kernel_rfl) (by kernel_rfl)
      (witness_laid os _ (laidMet_laidAll _ (by kernel_rfl) (by kernel_rfl)))) ?_
  intro W base args ds gs before hval0 hW hc _ hL _
  have hval : ∀ (j : Nat) t v, Tryz.f8.params[j]? = some t → args[j]? = some v → Value.okWide Tryz.prog W .any base t v := hval0
  have hW' := hW
  obtain ⟨p, q, hA0, hV, rfl, _, _⟩ := hW
  have hA : DataW.TrodAll enc Tryz.prog W 0 (fun _ => true) true Tryz.f8.params.toList args.toList ds p := hA0
  rw [Tryz.params8] at hA hval
  obtain ⟨v0, vs0, d0, ds0, p0, q0, hargs, rfl, rfl, h0, r0⟩ := trodAll_cons hA
  obtain ⟨v1, vs1, d1, ds1, p1, q1, rfl, rfl, rfl, h1, r1⟩ := trodAll_cons r0
  obtain ⟨rfl, rfl, rfl⟩ := trodAll_nil r1
  obtain rfl : args = #[v0, v1] := by cases args; simp_all
  obtain ⟨rfl, rfl⟩ := trodVars_none hV
  obtain ⟨a0, rfl, rfl, rfl, w0⟩ := open_int Tryz.underlying3 (hval 0 3 v0 rfl rfl) h0
  obtain ⟨a1, rfl, rfl, rfl, w1⟩ := open_int Tryz.underlying3 (hval 1 3 v1 rfl rfl) h1
  simp only [List.append_nil] at hW'
  refine (run a0 (wrap_of_wf w0) a1 (wrap_of_wf w1) W (sized_of_laid hL)).mono fun e W' ⟨he, hw⟩ => ?_
  subst he
  exact ⟨_, rfl, GoVm.post_plain hW' (fun _ _ => trodAll_mk1 (shut_bool Tryz.underlying4 _)) (fun _ => (trodAll_cons_mk (shut_int Tryz.underlying3 w0) (trodAll_cons_mk (shut_int Tryz.underlying3 w1) trodAll_mk0))) (fun _ => rfl) hw⟩

theorem said : Rows.MeanGoneSaid :=
  OpenClaim.holds_of_wide 8 Tryz.f8 rfl rfl rfl rfl rfl rfl rfl ⟨rfl, rfl, rfl, rfl, rfl⟩ rfl rfl rfl rfl rfl (by kernel_rfl) Tryz.func8 (by kernel_rfl)
    (of_decide_eq_true (by kernel_rfl)) (by unfold Func.isWrapper; first | (rw [if_pos (by decide +kernel)]; kernel_rfl) | (rw [if_neg (by decide +kernel)]; exact ⟨rfl, rfl⟩))
    (fun os started H enc _ => lifted os started H enc)

/-- No parameter wants a stand-in; the program's own looks are on: what the card asks. -/
theorem plain (f : FuncId) (fn : Func) (hf : Tryz.pinned.checked.prog.funcNamed "roadstead/roadkeep2.MeanGone" = some f) (hfn : Tryz.pinned.checked.prog.funcs[f]? = some fn) :
    true = Tryz.pinned.checked.prog.looks [] ∧ ∀ (j : Nat) t, fn.params[j]? = some t → Tryz.pinned.checked.prog.wantsStandIn t = false := by
  obtain rfl : f = 8 := Option.some.inj ((show Tryz.prog.funcNamed "roadstead/roadkeep2.MeanGone" = some 8 by kernel_rfl).symm.trans hf) |>.symm
  obtain rfl : fn = Tryz.f8 := (Option.some.inj (Tryz.func8.symm.trans hfn)).symm
  refine ⟨by kernel_rfl, fun j t ht => ?_⟩
  rw [Tryz.params8] at ht
  have hm : t ∈ [3, 3] := by simpa using Array.mem_of_getElem? ht
  have hall : ([3, 3].all fun u => !Tryz.prog.wantsStandIn u) = true := by kernel_rfl
  exact (show Tryz.prog.wantsStandIn t = false by simpa using List.all_eq_true.1 hall t hm)

theorem holds : Rows.MeanGoneCardSaid :=
  Claim7.holds_tied_plain_at .later [] _ _ _ _ said (fun _ h => by cases h) (by kernel_rfl) (fun _ h => by cases h) meanGone_row_tie rfl ⟨rfl, rfl⟩ (by kernel_rfl) rfl plain (by kernel_rfl)
#print axioms holds
end Go.Proofs.YtimknmaihfjdgaaGreatDoor.meanGone

/- MeanTraits answers true for every input, and leaves its input as it was. -/
import Derived.Test.YtimknmaihfjdgaaGreatDoorFin
import Derived.Test.YtimknmaihfjdgaaGreatDoorTraitsRa
import Derived.Test.YtimknmaihfjdgaaGreatDoorTraitsRb
namespace Go.Proofs.YtimknmaihfjdgaaGreatDoor.meanTraits
open Go.ChangeShapes Go.WideShapes Go.ChangeAt Go.RowKit

theorem run (a : Int) (ha : IntKind.i64.wrap a = a) (t : Bool) (W : World) (hW : Tryz.prog.globals.size ≤ W.heap.size) :
    Calls Tryz.prog 6 #[.int .i64 a, .bool t] W fun e W' => e = .returned (.bool true) ∧ GoVm.Wider W W' := by
  let ρ : Nat → Int := fun _ => a
  have v0 : GoVm.VR Tryz.prog ρ (GoVm.phiG Tryz.prog.globals.size) (.sym .i64 0 1 0) (.int .i64 a) := by
    simp only [GoVm.VR]
    show Value.int .i64 a = .int .i64 (IntKind.i64.wrap (1 * a + 0))
    rw [Int.one_mul, Int.add_zero, ha]
  have v1 : ∀ x : Bool, GoVm.VR Tryz.prog ρ (GoVm.phiG Tryz.prog.globals.size) (.bool x) (.bool x) := fun x => by simp only [GoVm.VR]
  cases t with
  | true => exact GoVm.run_true (ρ := ρ) GoVm.run3_ok GoVm.bare GoVm.traits_true Tryz.func6 (by kernel_rfl) (by kernel_rfl) (.cons v0 (.cons (v1 _) .nil)) hW
  | false => exact GoVm.run_true (ρ := ρ) GoVm.run3_ok GoVm.bare GoVm.traits_false Tryz.func6 (by kernel_rfl) (by kernel_rfl) (.cons v0 (.cons (v1 _) .nil)) hW

set_option maxRecDepth 100000 in
theorem lifted (os : Os) (started : os.Started) (H : Type) (enc : TypeId × Value → H) :
    ReturnsInHanded {} Tryz.checked os 6 .any (fun w args => (Rows.meanTraitsSpec.pre enc Tryz.prog Tryz.f6 Rows.meanTraitsRow.domain false w args ∧ laidMetH Tryz.prog Rows.meanTraitsRow.laid w) ∧ sizedMet enc Tryz.prog Tryz.f6 (OpenSpec.ofChange Rows.meanTraitsSpec) false w args)
      (Rows.meanTraitsSpec.post enc Tryz.prog Tryz.f6 false true false false) := by
  refine returnsInHanded_of_change_and (C := Tryz.checked) (X := fun w _ => laidMetH Tryz.prog Rows.meanTraitsRow.laid w) (fun _ _ _ hh h => h.of_heap hh) own started (by kernel_rfl) Tryz.func6
    (ChangeSpec.witness_shaped (enc := enc) (C := Tryz.checked) (os := os) (X := fun w _ => laidMetH Tryz.prog Rows.meanTraitsRow.laid w) false (World.laidAll Tryz.prog os Rows.meanTraitsRow.laid) #[.int .i64 0, .bool false] 8 (World.laidAll_os _ _ _)
      (World.shaped_of_ZipB (by kernel_rfl) (by kernel_rfl)) (by kernel_rfl) (by kernel_rfl) (by kernel_rfl)
      (witness_laid os _ (laidMet_laidAll _ (by kernel_rfl) (by kernel_rfl)))) ?_
  intro W base args ds gs before hval0 hW hc _ hL _
  have hval : ∀ (j : Nat) t v, Tryz.f6.params[j]? = some t → args[j]? = some v → Value.okWide Tryz.prog W .any base t v := hval0
  have hW' := hW
  obtain ⟨p, q, hA0, hV, rfl, _, _⟩ := hW
  have hA : DataW.TrodAll enc Tryz.prog W 0 (fun _ => true) true Tryz.f6.params.toList args.toList ds p := hA0
  rw [Tryz.params6] at hA hval
  obtain ⟨v0, vs0, d0, ds0, p0, q0, hargs, rfl, rfl, h0, r0⟩ := trodAll_cons hA
  obtain ⟨v1, vs1, d1, ds1, p1, q1, rfl, rfl, rfl, h1, r1⟩ := trodAll_cons r0
  obtain ⟨rfl, rfl, rfl⟩ := trodAll_nil r1
  obtain rfl : args = #[v0, v1] := by cases args; simp_all
  obtain ⟨rfl, rfl⟩ := trodVars_none hV
  obtain ⟨a0, rfl, rfl, rfl, w0⟩ := open_int Tryz.underlying3 (hval 0 3 v0 rfl rfl) h0
  obtain ⟨a1, rfl, rfl, rfl⟩ := open_bool Tryz.underlying4 (hval 1 4 v1 rfl rfl) h1
  simp only [List.append_nil] at hW'
  refine (run a0 (wrap_of_wf w0) a1 W (sized_of_laid hL)).mono fun e W' ⟨he, hw⟩ => ?_
  subst he
  exact ⟨_, rfl, GoVm.post_plain hW' (fun _ _ => trodAll_mk1 (shut_bool Tryz.underlying4 _)) (fun _ => (trodAll_cons_mk (shut_int Tryz.underlying3 w0) (trodAll_cons_mk (shut_bool Tryz.underlying4 _) trodAll_mk0))) (fun _ => rfl) hw⟩

theorem said : Rows.MeanTraitsSaid :=
  OpenClaim.holds_of_wide 6 Tryz.f6 rfl rfl rfl rfl rfl rfl rfl ⟨rfl, rfl, rfl, rfl, rfl⟩ rfl rfl rfl rfl rfl (by kernel_rfl) Tryz.func6 (by kernel_rfl)
    (of_decide_eq_true (by kernel_rfl)) (by unfold Func.isWrapper; first | (rw [if_pos (by decide +kernel)]; kernel_rfl) | (rw [if_neg (by decide +kernel)]; exact ⟨rfl, rfl⟩))
    (fun os started H enc _ => lifted os started H enc)

/-- No parameter wants a stand-in; the program's own looks are on: what the card asks. -/
theorem plain (f : FuncId) (fn : Func) (hf : Tryz.pinned.checked.prog.funcNamed "roadstead/roadkeep2.MeanTraits" = some f) (hfn : Tryz.pinned.checked.prog.funcs[f]? = some fn) :
    true = Tryz.pinned.checked.prog.looks [] ∧ ∀ (j : Nat) t, fn.params[j]? = some t → Tryz.pinned.checked.prog.wantsStandIn t = false := by
  obtain rfl : f = 6 := Option.some.inj ((show Tryz.prog.funcNamed "roadstead/roadkeep2.MeanTraits" = some 6 by kernel_rfl).symm.trans hf) |>.symm
  obtain rfl : fn = Tryz.f6 := (Option.some.inj (Tryz.func6.symm.trans hfn)).symm
  refine ⟨by kernel_rfl, fun j t ht => ?_⟩
  rw [Tryz.params6] at ht
  have hm : t ∈ [3, 4] := by simpa using Array.mem_of_getElem? ht
  have hall : ([3, 4].all fun u => !Tryz.prog.wantsStandIn u) = true := by kernel_rfl
  exact (show Tryz.prog.wantsStandIn t = false by simpa using List.all_eq_true.1 hall t hm)

theorem holds : Rows.MeanTraitsCardSaid :=
  Claim7.holds_tied_plain_at .later [] _ _ _ _ said (fun _ h => by cases h) (by kernel_rfl) (fun _ h => by cases h) meanTraits_row_tie rfl ⟨rfl, rfl⟩ (by kernel_rfl) rfl plain (by kernel_rfl)
#print axioms holds
end Go.Proofs.YtimknmaihfjdgaaGreatDoor.meanTraits

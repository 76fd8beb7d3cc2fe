/- MeanCells answers true for every input, and leaves its input as it was. -/
import Derived.Test.YtimknmaihfjdgaaGreatDoorFin
import Derived.Test.YtimknmaihfjdgaaGreatDoorCellsR
namespace Go.Proofs.YtimknmaihfjdgaaGreatDoor
open Go.ChangeShapes Go.WideShapes Go.ChangeAt Go.RowKit

theorem cells_run (a b : Int) (ha : IntKind.i64.wrap a = a) (hb : IntKind.i64.wrap b = b) (t : Bool) (W : World) (hW : Tryz.prog.globals.size ≤ W.heap.size) :
    Calls Tryz.prog 3 #[.int .i64 a, .int .i64 b, .bool t] W fun e W' => e = .returned (.bool true) ∧ GoVm.Wider W W' := by
  let ρ : Nat → Int := fun i => if i = 0 then a else b
  have va : GoVm.VR Tryz.prog ρ (GoVm.phiG Tryz.prog.globals.size) (.sym .i64 0 1 0) (.int .i64 a) := by
    simp only [GoVm.VR]
    show Value.int .i64 a = .int .i64 (IntKind.i64.wrap (1 * a + 0))
    rw [Int.one_mul, Int.add_zero, ha]
  have vb : GoVm.VR Tryz.prog ρ (GoVm.phiG Tryz.prog.globals.size) (.sym .i64 1 1 0) (.int .i64 b) := by
    simp only [GoVm.VR]
    show Value.int .i64 b = .int .i64 (IntKind.i64.wrap (1 * b + 0))
    rw [Int.one_mul, Int.add_zero, hb]
  have vt : GoVm.VR Tryz.prog ρ (GoVm.phiG Tryz.prog.globals.size) (.bool t) (.bool t) := by simp only [GoVm.VR]
  cases t with
  | true => exact GoVm.run_true (ρ := ρ) GoVm.run3_ok GoVm.bare GoVm.cells_true Tryz.func3 (by kernel_rfl) (by kernel_rfl) (.cons va (.cons vb (.cons vt .nil))) hW
  | false => exact GoVm.run_true (ρ := ρ) GoVm.run3_ok GoVm.bare GoVm.cells_false Tryz.func3 (by kernel_rfl) (by kernel_rfl) (.cons va (.cons vb (.cons vt .nil))) hW

set_option maxRecDepth 100000 in
theorem lifted (os : Os) (started : os.Started) (H : Type) (enc : TypeId × Value → H) :
    ReturnsInHanded {} Tryz.checked os 3 .any (fun w args => (Rows.meanCellsSpec.pre enc Tryz.prog Tryz.f3 Rows.meanCellsRow.domain false w args ∧ laidMetH Tryz.prog Rows.meanCellsRow.laid w) ∧ sizedMet enc Tryz.prog Tryz.f3 (OpenSpec.ofChange Rows.meanCellsSpec) false w args)
      (Rows.meanCellsSpec.post enc Tryz.prog Tryz.f3 false true false false) := by
  refine returnsInHanded_of_change_and (C := Tryz.checked) (X := fun w _ => laidMetH Tryz.prog Rows.meanCellsRow.laid w) (fun _ _ _ hh h => h.of_heap hh) own started (by kernel_rfl) Tryz.func3
    (ChangeSpec.witness_shaped (enc := enc) (C := Tryz.checked) (os := os) (X := fun w _ => laidMetH Tryz.prog Rows.meanCellsRow.laid w) false (World.laidAll Tryz.prog os Rows.meanCellsRow.laid) #[.int .i64 0, .int .i64 0, .bool false] 8 (World.laidAll_os _ _ _)
      (World.shaped_of_ZipB (by kernel_rfl) (by kernel_rfl)) (by kernel_rfl) (by kernel_rfl) (by kernel_rfl)
      (witness_laid os _ (laidMet_laidAll _ (by kernel_rfl) (by kernel_rfl)))) ?_
  intro W base args ds gs before hval0 hW hc _ hL _
  have hval : ∀ (j : Nat) t v, Tryz.f3.params[j]? = some t → args[j]? = some v → Value.okWide Tryz.prog W .any base t v := hval0
  have hW' := hW
  obtain ⟨p, q, hA0, hV, rfl, _, _⟩ := hW
  have hA : DataW.TrodAll enc Tryz.prog W 0 (fun _ => true) true Tryz.f3.params.toList args.toList ds p := hA0
  rw [Tryz.params3] at hA hval
  obtain ⟨v0, vs0, d0, ds0, p0, q0, hargs, rfl, rfl, h0, r0⟩ := trodAll_cons hA
  obtain ⟨v1, vs1, d1, ds1, p1, q1, rfl, rfl, rfl, h1, r1⟩ := trodAll_cons r0
  obtain ⟨v2, vs2, d2, ds2, p2, q2, rfl, rfl, rfl, h2, r2⟩ := trodAll_cons r1
  obtain ⟨rfl, rfl, rfl⟩ := trodAll_nil r2
  obtain rfl : args = #[v0, v1, v2] := by cases args; simp_all
  obtain ⟨rfl, rfl⟩ := trodVars_none hV
  obtain ⟨a, rfl, rfl, rfl, wa⟩ := open_int Tryz.underlying3 (hval 0 3 v0 rfl rfl) h0
  obtain ⟨b, rfl, rfl, rfl, wb⟩ := open_int Tryz.underlying3 (hval 1 3 v1 rfl rfl) h1
  obtain ⟨t, rfl, rfl, rfl⟩ := open_bool Tryz.underlying4 (hval 2 4 v2 rfl rfl) h2
  simp only [List.append_nil] at hW'
  refine (cells_run a b (wrap_of_wf wa) (wrap_of_wf wb) t W (sized_of_laid hL)).mono fun e W' ⟨he, hw⟩ => ?_
  subst he
  exact ⟨_, rfl, GoVm.post_plain hW' (fun _ _ => trodAll_mk1 (shut_bool Tryz.underlying4 _))
    (fun _ => trodAll_cons_mk (shut_int Tryz.underlying3 wa) (trodAll_cons_mk (shut_int Tryz.underlying3 wb) (trodAll_cons_mk (shut_bool Tryz.underlying4 _) trodAll_mk0))) (fun _ => rfl) hw⟩

theorem said : Rows.MeanCellsSaid :=
  OpenClaim.holds_of_wide 3 Tryz.f3 rfl rfl rfl rfl rfl rfl rfl ⟨rfl, rfl, rfl, rfl, rfl⟩ rfl rfl rfl rfl rfl (by kernel_rfl) Tryz.func3 (by kernel_rfl)
    (of_decide_eq_true (by kernel_rfl)) (by unfold Func.isWrapper; first | (rw [if_pos (by decide +kernel)]; kernel_rfl) | (rw [if_neg (by decide +kernel)]; exact ⟨rfl, rfl⟩))
    (fun os started H enc _ => lifted os started H enc)

/-- No parameter wants a stand-in; the program's own looks are on: what the card asks. -/
theorem plain (f : FuncId) (fn : Func) (hf : Tryz.pinned.checked.prog.funcNamed "roadstead/roadkeep2.MeanCells" = some f) (hfn : Tryz.pinned.checked.prog.funcs[f]? = some fn) :
    true = Tryz.pinned.checked.prog.looks [] ∧ ∀ (j : Nat) t, fn.params[j]? = some t → Tryz.pinned.checked.prog.wantsStandIn t = false := by
  obtain rfl : f = 3 := Option.some.inj ((show Tryz.prog.funcNamed "roadstead/roadkeep2.MeanCells" = some 3 by kernel_rfl).symm.trans hf) |>.symm
  obtain rfl : fn = Tryz.f3 := (Option.some.inj (Tryz.func3.symm.trans hfn)).symm
  refine ⟨by kernel_rfl, fun j t ht => ?_⟩
  rw [Tryz.params3] at ht
  have hm : t ∈ [3, 3, 4] := by simpa using Array.mem_of_getElem? ht
  have hall : ([3, 3, 4].all fun u => !Tryz.prog.wantsStandIn u) = true := by kernel_rfl
  exact (show Tryz.prog.wantsStandIn t = false by simpa using List.all_eq_true.1 hall t hm)

theorem meanCells_holds : Rows.MeanCellsCardSaid :=
  Claim7.holds_tied_plain_at .later [] _ _ _ _ said (fun _ h => by cases h) (by kernel_rfl) (fun _ h => by cases h) meanCells_row_tie rfl ⟨rfl, rfl⟩ (by kernel_rfl) rfl plain (by kernel_rfl)
#print axioms meanCells_holds
end Go.Proofs.YtimknmaihfjdgaaGreatDoor

/- Within: a number from 0 on, below its second argument, by the remainder. -/
import Derived.Test.YtimknmaihfjdgaaGreatDoorFin
import Derived.WalkKit
namespace Go.Proofs.YtimknmaihfjdgaaGreatDoor
open Go.ChangeShapes Go.WideShapes Go.ChangeAt Go.RowKit

theorem tmod_cases (n m : Int) (hm : 0 < m) : (n.tmod m < 0 → n.tmod m + m = n % m) ∧ (0 ≤ n.tmod m → n.tmod m = n % m) := by
  have h1 := Int.emod_nonneg n (show m ≠ 0 by omega)
  have h2 := Int.emod_lt_of_pos n hm
  rw [Int.tmod_eq_emod]
  have h3 : (m.natAbs : Int) = m := by omega
  split
  · exact ⟨fun h => by omega, fun _ => by omega⟩
  · rw [h3]; exact ⟨fun _ => by omega, fun h => by omega⟩

theorem rest_walk (n m : Int) (hm : 0 < m) (w : World) (hr : wrap64 (n % m) = n % m) :
    Calls Tryz.prog 31 #[.int .i64 n, .int .i64 m] w fun e w' => e = .returned (.int .i64 (n % m)) ∧ w' = w := by
  obtain ⟨c1, c2⟩ := tmod_cases n m hm
  have hm0 : ¬ m = 0 := by omega
  go_enter Tryz.func31, Tryz.ntmps31
  go_wp2
  all_goals go_ret
  · refine ⟨?_, rfl⟩
    show Ending.returned (.int .i64 (wrap64 (n % m))) = _
    rw [hr]
  · refine ⟨?_, rfl⟩
    show Ending.returned (.int .i64 (n.tmod m)) = _
    rw [c2 (by assumption)]

theorem within_walk (n m : Int) (hm : 0 < m) (w : World) (hr : wrap64 (n % m) = n % m) :
    Calls Tryz.prog 16 #[.int .i64 n, .int .i64 m] w fun e w' => e = .returned (.int .i64 (n % m)) ∧ w' = w := by
  go_enter Tryz.func16, Tryz.ntmps16
  go_wp2_with (go_at_call 31; refine (rest_walk n m hm _ hr).mono ?_; rintro e w' ⟨rfl, rfl⟩)
  all_goals go_wp2
  all_goals go_ret
  all_goals exact ⟨rfl, rfl⟩

/-- Its answer is known in the virtual machine. -/
theorem within_ok {ρ : Nat → Int} (a m j : Int) (ha : ρ 0 = a) (hw : IntKind.i64.wrap a = a) (hm : 0 < m) (hj : a % m = j) (hr : wrap64 j = j) : GoVm.CallOk Tryz.prog ρ (GoVm.pKnown [⟨16, [.sym .i64 0 1 0, .int .i64 m], .int .i64 j⟩]) := by
  intro f vs h nx v h' nx' hk φ w args hargs r hG
  obtain ⟨u, h1, h2⟩ := GoVm.wo_eq hk
  cases h2
  have hmem := GoVm.knownOf_mem h1
  simp only [List.mem_singleton, GoVm.Known.mk.injEq] at hmem
  obtain ⟨rfl, rfl, rfl⟩ := hmem
  simp only [GoVm.VRs, GoVm.VR] at hargs
  obtain ⟨c1, l1, e1, rfl, c2, l2, rfl, rfl, rfl⟩ := hargs
  obtain ⟨args⟩ := args
  simp only at e1
  subst e1
  rw [ha, Int.one_mul, Int.add_zero, hw]
  subst hj
  refine .inl ⟨?_, (within_walk a m hm w hr).mono ?_⟩
  · have hn : ¬ Tryz.f16.name = "runtime.NumGoroutine" := by
      have : (Tryz.f16.name == "runtime.NumGoroutine") = false := by kernel_rfl
      simpa using this
    obtain ⟨c, hc⟩ : ∃ c, Tryz.f16.body = some c := ⟨_, rfl⟩
    simp [callFunc, Tryz.func16, hc, hn]
  · rintro e w' ⟨rfl, rfl⟩
    exact ⟨φ, by simp only [GoVm.VR], r, .refl _ _ _, .refl _ _⟩
end Go.Proofs.YtimknmaihfjdgaaGreatDoor

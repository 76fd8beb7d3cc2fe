/- From a run in the bare memory to the statement of a law. -/
import Derived.Test.YtimknmaihfjdgaaGreatDoorMeans
import Derived.Test.YtimknmaihfjdgaaGreatDoorCards
import Derived.Test.YtimknmaihfjdgaaGreatDoorTie
import Derived.ProofKit
import Derived.OpenShut
import Derived.LaidMore
import Derived.Lay
import Derived.SevenTiedAt
import Derived.Stop.Joined
namespace GoVm
open Go (Value World Program Code DataW MemPlace)

variable {P : Program} {ρ : Nat → Int}

theorem Invokes.calls {f : Nat} {fn : Go.Func} (hf : P.funcs[f]? = some fn) (hb : fn.body.isSome = true) (hn : (fn.name == "runtime.NumGoroutine") = false) {args : Array Value} {w : World} {R : Value → World → Prop} (i : Invokes P f args w R) :
    Go.Calls P f args w fun e w' => ∃ v, e = .returned v ∧ R v w' := by
  have he : (Go.callFunc f args).run P w = .ok (.enter f args) w := by
    obtain ⟨c, hc⟩ := Option.isSome_iff_exists.1 hb
    simp [Go.callFunc, hf, hc, (by simpa using hn : ¬ fn.name = "runtime.NumGoroutine")]
  rcases i with ⟨_, h2⟩ | ⟨c, w', h1, _⟩
  · refine h2.mono fun e w' h => ?_
    cases e with
    | returned v => exact ⟨v, rfl, h⟩
    | panicked c => exact h.elim
    | outgrown => exact h.elim
  · rw [he] at h1; cases h1

/-- A run in the bare memory that answers true. -/
theorem run_true {call : Caller} (hc : CallOk P ρ call) {h0 : T O} {nx0 : Pos} (b : Bare P.globals.size h0 nx0) {f : Nat} {vs : List V} (hr : okV (call f vs h0 nx0) (.bool true) = true) {fn : Go.Func} (hf : P.funcs[f]? = some fn) (hb : fn.body.isSome = true)
    (hn : (fn.name == "runtime.NumGoroutine") = false) {args : Array Value} {w : World} (ha : VRs P ρ (phiG P.globals.size) vs args.toList) (hw : P.globals.size ≤ w.heap.size) :
    Go.Calls P f args w fun e w' => e = .returned (.bool true) ∧ Wider w w' := by
  cases hx : call f vs h0 nx0 with
  | no => rw [hx] at hr; cases hr
  | ok v h' nx' =>
    rw [hx] at hr
    have : v = .bool true := V.beq_eq _ _ hr
    subst this
    refine ((hc f vs h0 nx0 _ h' nx' hx (phiG P.globals.size) w args ha (b.rel hw) (phiG_gok rfl)).calls hf hb hn).mono fun e w' => ?_
    rintro ⟨c, rfl, φ', h1, r, e, g⟩
    simp only [VR] at h1
    subst h1
    exact ⟨rfl, e.size, b.kept e, e.tape, e.os, e.output⟩

theorem Wider.kept {w w' : World} (h : Wider w w') : w.keptBut w' (fun _ => False) := by
  refine ⟨h.os, h.output, fun i hi => ?_⟩
  have hk := h.keep i hi
  cases hx : w.heap[i]? with
  | none => rw [hk, hx]
  | some o =>
    rw [hk, hx]
    cases o with
    | cells c t fr => exact ⟨rfl, rfl, rfl, fun _ _ => rfl⟩
    | map es clock => exact .inr ⟨rfl, rfl⟩
    | _ => rfl

/-- What is to be shown behind a call of arguments without memory. -/
theorem post_plain {H : Type} {enc : Go.TypeId × Value → H} {f : Go.Func} {s : Go.ChangeSpec} {W W' : World} {args : Array Value} {v : Value} {ds gs : List (DataW H)} (hW : DataW.Whole enc P f.params.toList s.vars false W args.toList ds gs [])
    (hres : ∀ (b : Nat) (sp : Nat → Bool), DataW.TrodAll enc P W' b sp false f.resultTypes.toList (v.resultList f.resultTypes.size) (s.fn H (ds ++ gs)).results [])
    (hargs : ∀ sp : Nat → Bool, DataW.TrodAll enc P W' 0 sp true f.params.toList args.toList (s.fn H (ds ++ gs)).args [])
    (hvars : ∀ sp : Nat → Bool, DataW.TrodVars enc P W' sp s.vars (s.fn H (ds ++ gs)).vars [])
    (hk : Wider W W') : s.post enc P f false true false false W args v W' :=
  ⟨ds, gs, [], [], [], [], hW, hres _ _, hargs _, hvars _, Go.World.keptBut_mono (fun _ h => h.elim) hk.kept, fun h => by cases h⟩

end GoVm
namespace Go.Proofs.YtimknmaihfjdgaaGreatDoor
open Go.ChangeShapes Go.WideShapes Go.ChangeAt Go.RowKit

theorem own : ownKnob Tryz.prog.godebug = none := by kernel_rfl

/-- The package-level variables lie in memory. -/
theorem sized_of_laid {W : World} (h : laidMetH Tryz.prog Rows.meanCellsRow.laid W) : Tryz.prog.globals.size ≤ W.heap.size := by
  rw [MakeChecks.laidMetH_plain _ _ _ (by kernel_rfl)] at h
  obtain ⟨ps, ⟨g0, t0, cs0, f0, p0, q0, hg0, ht0, hv0, hd0, ⟨g1, t1, cs1, f1, p1, q1, hg1, ht1, hv1, hd1, _, _⟩, _⟩, _, _⟩ := h
  have hg : g1 = 7 := Option.some.inj (hg1.symm.trans (show Tryz.prog.globalNamed "math/bits.deBruijn64tab" = some 7 by kernel_rfl))
  subst hg
  have h7 : (W.heap[7]?).isSome = true := by
    unfold World.var? at hv1
    rw [hg1] at hv1
    cases hx : W.heap[7]? with
    | none => rw [Option.bind_some] at hv1; rw [hx] at hv1; cases hv1
    | some o => rfl
  rw [GoVm.globs]
  obtain ⟨o, ho⟩ := Option.isSome_iff_exists.1 h7
  exact (Array.getElem?_eq_some_iff.1 ho).1

/-- A world for the witness. -/
theorem witness_laid (os : Os) (args : Array Value) (h : laidMet Tryz.prog Rows.meanCellsRow.laid ((World.laidAll Tryz.prog os Rows.meanCellsRow.laid).forCall (fun _ _ => 0) ⟨#[], args, []⟩).memory) :
    laidMetH Tryz.prog Rows.meanCellsRow.laid ((World.laidAll Tryz.prog os Rows.meanCellsRow.laid).forCall (fun _ _ => 0) ⟨#[], args, []⟩).memory := by
  rw [MakeChecks.laidMetH_plain _ _ _ (by kernel_rfl)]; exact h

theorem wrap_of_wf {n : Int} (h : (Lit.int .i64 n).wf = true) : IntKind.i64.wrap n = n := by
  simp only [Lit.wf, Bool.and_eq_true, decide_eq_true_eq] at h
  have h1 : (-9223372036854775808 : Int) ≤ n := h.1
  have h2 : n ≤ 9223372036854775807 := h.2
  clear h
  rw [← GoVm.wrapK_eq]
  refine (GoVm.wrapS_eq 18446744073709551616 9223372036854775808 rfl (by decide) n).trans ?_
  split <;> omega

end Go.Proofs.YtimknmaihfjdgaaGreatDoor

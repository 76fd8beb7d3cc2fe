/- The numbers of the virtual machine's blocks only grow. -/
import Derived.Test.YtimknmaihfjdgaaGreatDoorVmE
import Derived.Orders
namespace GoVm

variable {stk : List V} {slots : T V} {h : T O} {nx : Pos} {call : Caller}

def WLe (nx : Pos) (w : WR) : Prop := ∀ v h' nx', w = .ok v h' nx' → nx.num ≤ nx'.num

theorem WLe.no : WLe nx .no := fun _ _ _ e => by cases e
theorem WLe.ok {v : V} {nx' : Pos} (g : nx.num ≤ nx'.num) : WLe nx (.ok v h nx') := fun _ _ _ e => by cases e; exact g
theorem WLe.set {o : O} {b : Pos} {v : V} : WLe nx (setW o b h nx v) := fun _ _ _ e => by obtain ⟨_, _, rfl⟩ := setW_ok e; exact Nat.le_refl _
theorem WLe.new {o : O} {v : V} : WLe nx (newW o h nx v) := fun _ _ _ e => by obtain ⟨_, _, rfl⟩ := newW_ok e; rw [Pos.num_succ]; omega
theorem WLe.wo {α : Type} {x : Option α} {f : α → WR} (g : ∀ a, WLe nx (f a)) : WLe nx (wo x f) := fun v h' nx' e => by
  obtain ⟨a, _, h2⟩ := wo_eq e; exact g a v h' nx' h2
theorem WLe.cnd {c : Bool} {x y : WR} (hx : WLe nx x) (hy : WLe nx y) : WLe nx (cnd c x y) := by cases c <;> assumption

/-- An optional run of which every outcome is fine. -/
def OLe (nx : Pos) (x : Option WR) : Prop := ∀ w, x = some w → WLe nx w
theorem OLe.none : OLe nx .none := fun _ e => by cases e
theorem OLe.some {w : WR} (g : WLe nx w) : OLe nx (some w) := fun _ e => by cases e; exact g
theorem OLe.ob {α : Type} {x : Option α} {f : α → Option WR} (g : ∀ a, OLe nx (f a)) : OLe nx (ob x f) := fun w e => by
  obtain ⟨a, _, h2⟩ := ob_eq e; exact g a w h2
theorem OLe.cnd {c : Bool} {x y : Option WR} (hx : OLe nx x) (hy : OLe nx y) : OLe nx (cnd c x y) := by cases c <;> assumption
theorem OLe.wo {x : Option WR} (g : OLe nx x) : WLe nx (wo x fun w => w) := fun v h' nx' e => by
  obtain ⟨a, h1, h2⟩ := wo_eq e; exact g a h1 v h' nx' h2
theorem OLe.ptr {v : V} {f : Pos → Nat → Option WR} (g : ∀ a b, OLe nx (f a b)) : OLe nx (vPtr v .none f) := fun w e => by
  obtain ⟨_, h⟩ | ⟨p, o, _, h⟩ := vPtr_eq e
  · cases h
  · exact g p o w h
theorem OLe.str {v : V} {f : Nat → Nat → Option WR} (g : ∀ a b, OLe nx (f a b)) : OLe nx (vStr v f) := fun w e => by
  obtain ⟨p, o, _, h⟩ := vStr_eq e; exact g p o w h
theorem OLe.mp {v : V} {z : Option WR} {f : Pos → Option WR} (hz : OLe nx z) (g : ∀ a, OLe nx (f a)) : OLe nx (vMap v z f) := fun w e => by
  obtain ⟨_, h⟩ | ⟨p, _, h⟩ := vMap_eq e
  · exact hz w h
  · exact g p w h
theorem OLe.cells {o : Option O} {f : List V → Nat → Bool → Bool → Option WR} (g : ∀ a b c d, OLe nx (f a b c d)) : OLe nx (oCells o f) := fun w e => by
  obtain ⟨_, _, _, _, _, h⟩ := oCells_eq e; exact g _ _ _ _ w h
theorem OLe.omap {o : Option O} {f : List (V × V) → Option WR} (g : ∀ a, OLe nx (f a)) : OLe nx (oMap o f) := fun w e => by
  obtain ⟨_, _, h⟩ := oMap_eq e; exact g _ w h
theorem OLe.siter {o : Option O} {f : Nat → Nat → Nat → Option WR} (g : ∀ a b c, OLe nx (f a b c)) : OLe nx (oSiter o f) := fun w e => by
  obtain ⟨_, _, _, _, h⟩ := oSiter_eq e; exact g _ _ _ w h
theorem OLe.miter {o : Option O} {f : Option Pos → Nat → Nat → Option WR} (g : ∀ a b c, OLe nx (f a b c)) : OLe nx (oMiter o f) := fun w e => by
  obtain ⟨_, _, _, _, h⟩ := oMiter_eq e; exact g _ _ _ w h

theorem evW_mono (wi : WI) : WLe nx (evW wi stk slots h nx) := by
  cases wi with
  | st n x v =>
    refine OLe.wo (OLe.ob fun a => OLe.ob fun v => OLe.ptr fun b o => OLe.cells fun cs u w p => OLe.ob fun l => OLe.cnd (OLe.ob fun cs' => OLe.some WLe.set) OLe.none)
  | mks t sz b z l c => exact WLe.wo fun n => WLe.new
  | mkm => exact WLe.new
  | mu kd m k v =>
    refine OLe.wo (OLe.ob fun a => OLe.ob fun b => OLe.ob fun c => OLe.mp OLe.none fun p => OLe.omap fun es => OLe.ob fun r => ?_)
    cases r with
    | none => exact OLe.some WLe.set
    | some x => exact OLe.none
  | app t sz x y =>
    refine WLe.wo fun a => WLe.wo fun b => ?_
    refine WLe.wo fun r => WLe.cnd ?_ WLe.no
    obtain ⟨n, new⟩ := r
    cases n with
    | zero => exact WLe.wo fun _ => WLe.ok (Nat.le_refl _)
    | succ n =>
      refine OLe.wo ?_
      intro w e
      obtain ⟨_, h1⟩ | ⟨p, off, len, cap, _, h1⟩ := vSl_eq e
      · cases h1; exact WLe.new
      · have h2 := (cnd_some h1).2
        cases h2
        refine WLe.wo fun c => WLe.cnd ?_ ?_
        · exact WLe.wo fun cs' => by rw [forceN_eq]; exact WLe.set
        · refine WLe.wo fun old => ?_
          rw [T.setK_eq, forceN_eq]
          exact WLe.new
  | s2b t x => exact OLe.wo (OLe.ob fun a => OLe.str fun n a => OLe.some WLe.new)
  | rgs x => exact OLe.wo (OLe.ob fun a => OLe.str fun n a => OLe.some WLe.new)
  | rgm x => exact OLe.wo (OLe.ob fun a => OLe.mp (OLe.some WLe.new) fun b => OLe.ob fun n => OLe.some WLe.new)
  | nxs x =>
    refine OLe.wo (OLe.ob fun a => OLe.ptr fun b o => OLe.cnd (OLe.siter fun n a p => OLe.some (WLe.cnd ?_ (WLe.ok (Nat.le_refl _)))) OLe.none)
    refine WLe.cnd ?_ WLe.no
    rw [forceN_eq, forceN_eq]
    exact WLe.set
  | nxm x =>
    refine OLe.wo (OLe.ob fun a => OLe.ptr fun b o => OLe.cnd (OLe.miter fun m n s => ?_) OLe.none)
    cases m with
    | none => exact OLe.some (WLe.ok (Nat.le_refl _))
    | some m =>
      refine OLe.omap fun es => OLe.some ?_
      cases es with
      | nil => exact WLe.cnd (WLe.ok (Nat.le_refl _)) WLe.no
      | cons e es =>
        cases es with
        | nil => exact WLe.cnd (WLe.cnd WLe.set (WLe.cnd (WLe.ok (Nat.le_refl _)) WLe.no)) WLe.no
        | cons e2 es => exact WLe.no

def CallMono (call : Caller) : Prop := ∀ f vs h nx, WLe nx (call f vs h nx)

theorem evC_mono (hm : CallMono call) (ci : CI) : WLe nx (evC call ci stk slots h nx) := by
  cases ci with
  | cf f args => exact WLe.wo fun vs => hm _ _ _ _
  | cv x args =>
    refine OLe.wo (OLe.ob fun v => OLe.ob fun vs => ?_)
    intro w e
    obtain ⟨f, a, c, _, h1⟩ := vFn_eq e
    cases h1; exact hm _ _ _ _
  | iv cands x args =>
    refine OLe.wo (OLe.ob fun v => OLe.ob fun vs => ?_)
    intro w e
    obtain ⟨_, h1⟩ | ⟨t, r, _, h1⟩ := vIfc_eq e
    · cases h1
    · obtain ⟨f, _, h2⟩ := ob_eq h1
      cases h2; exact hm _ _ _ _

theorem evI_mono (hm : CallMono call) : ∀ (i : I) {h : T O} {nx : Pos}, WLe nx (evI call i stk slots h nx)
  | .P p, _, _ => WLe.wo fun v => WLe.ok (Nat.le_refl _)
  | .R p, _, _ => WLe.wo fun v => WLe.ok (Nat.le_refl _)
  | .F p, _, _ => WLe.wo fun r => WLe.new
  | .W p, _, _ => evW_mono p
  | .C c, _, _ => evC_mono hm c
  | .G c want i, h, nx => by
    refine WLe.wo fun v => ?_
    intro x h' nx' e
    rcases vGuard_run e with ⟨_, h1⟩ | ⟨_, h1⟩
    · exact evI_mono hm i _ _ _ h1
    · cases h1; exact Nat.le_refl _

end GoVm

/- The numbers of the virtual machine's blocks only grow: regions, code, calls. -/
namespace GoVm

variable {stk : List V} {slots : T V} {h : T O} {nx : Pos} {call : Caller}

def SLe (nx : Pos) (s : St) : Prop := ∀ t h' nx', s = .ok t h' nx' → nx.num ≤ nx'.num

theorem runCO_mono (hm : CallMono call) : ∀ (l : List CO) {stk : List V} {slots : T V} {h : T O} {nx : Pos}, SLe nx (runCO call l stk slots h nx)
  | [], _, _, _, _ => fun _ _ _ e => by cases e; exact Nat.le_refl _
  | .el :: l, stk, slots, h, nx => runCO_mono hm l (stk := stk) (slots := slots) (h := h) (nx := nx)
  | .op i push w :: l, stk, slots, h, nx => by
    intro t h' nx' e
    change coOp call (runCO call l) i push w stk slots h nx = _ at e
    rw [coOp_eq] at e
    cases hev : evI call i stk slots h nx with
    | no => rw [hev] at e; cases e
    | ok v h1 nx1 =>
      rw [hev] at e
      exact Nat.le_trans (evI_mono hm i _ _ _ hev) (runCO_mono hm l _ _ _ e)

/-- What stays and what is laid when an operation lays some of what is pending. -/
noncomputable def restP (fl : List Nat) : List (Nat × Pos × O) → List (Nat × Pos × O)
  | [] => []
  | x :: l => if memN x.1 fl then restP fl l else x :: restP fl l
noncomputable def layP (fl : List Nat) : List (Nat × Pos × O) → T O → T O
  | [], h => h
  | x :: l, h => if memN x.1 fl then layP fl l (h.put x.2.2 x.2.1) else layP fl l h

theorem layPend_eq (fl : List Nat) : ∀ (l : List (Nat × Pos × O)) (h : T O), layPend fl l h = (restP fl l, layP fl l h)
  | [], h => rfl
  | x :: l, h => by
    change cnd (memN x.1 fl) (T.setK x.2.2 x.2.1 h (layPend fl l)) (Prod.rec (fun r h' => (x :: r, h')) (layPend fl l h)) = _
    rw [T.setK_eq, layPend_eq fl l, layPend_eq fl l]
    simp only [restP, layP]
    cases memN x.1 fl <;> rfl

theorem layAll_eq : ∀ (l : List (Nat × Pos × O)) (h : T O), layAll l h = l.foldl (fun h x => h.put x.2.2 x.2.1) h
  | [], h => rfl
  | x :: l, h => by
    change T.setK x.2.2 x.2.1 h (layAll l) = _
    rw [T.setK_eq, layAll_eq l]; rfl

/-- One operation of a region that draws its order, in the order of the text. -/
inductive D1 (call : Caller) (j : Nat) : Cls → Bool → I → DSt → V → DSt → Prop
  | no {c it d} (hc : isHC c = false) : D1 call j c false it d undefV d
  | noh {fl it d} : D1 call j (.h fl) false it d undefV { d with heap := layP fl d.pend d.heap, pend := restP fl d.pend, vers := layP fl d.pend d.heap :: d.vers, hard := d.hard + 1 }
  | p {p d v} (hv : evP p d.stk d.slots = some v) : D1 call j .q true (.P p) d v d
  | r {lo hi p d v} (hv : evR p d.stk d.slots d.heap = some v) : D1 call j (.r lo hi) true (.R p) d v (if lo = hi then d else { d with rds := ⟨lo, hi, p, d.stk, d.slots, v⟩ :: d.rds })
  | f {p d v ob} (hv : evF p d.stk d.slots d.next = some (v, ob)) : D1 call j .f true (.F p) d v { d with pend := (j, d.next, ob) :: d.pend, next := d.next.succ }
  | h {fl it d v h' nx'} (hv : evI call it d.stk d.slots (layP fl d.pend d.heap) d.next = .ok v h' nx') :
      D1 call j (.h fl) true it d v { d with heap := h', next := nx', pend := restP fl d.pend, vers := h' :: d.vers, hard := d.hard + 1 }

theorem pushV_eq (push : Bool) (v : V) (stk : List V) : pushV push v stk = pushS push v stk := by cases push <;> rfl
theorem putW_eq (w : Option Pos) (v : V) (slots : T V) : putW w v slots = putS w v slots := by
  cases w with
  | none => rfl
  | some p => exact T.setK_eq v p slots _

theorem runD_cons {c : Cls} {gi : I} {push : Bool} {w : Option Pos} {l : List (Cls × CO)} {j : Nat} {d dfin : DSt} (hr : runD call ((c, .op gi push w) :: l) j d = some dfin) :
    ∃ q v d1, wantAll (unG gi).1 d.stk d.slots = some q ∧ D1 call j c q (unG gi).2 d v d1 ∧ runD call l (j + 1) { d1 with stk := pushS push v d1.stk, slots := putS w v d1.slots } = some dfin := by
  change dOp call (runD call l) c gi push w j d = some dfin at hr
  obtain ⟨q, h1, h2⟩ := ob_eq hr
  have hQ : ∀ (d1 : DSt) (v : V), dQ (runD call l) j push w d1 v = some dfin → runD call l (j + 1) { d1 with stk := pushS push v d1.stk, slots := putS w v d1.slots } = some dfin := by
    intro d1 v hh
    rw [← pushV_eq, ← putW_eq]; exact hh
  cases q with
  | false =>
    change dNo (runD call l) j c push w d = some dfin at h2
    cases c with
    | q => exact ⟨false, _, _, h1, .no rfl, hQ _ _ h2⟩
    | r lo hi => exact ⟨false, _, _, h1, .no rfl, hQ _ _ h2⟩
    | f => exact ⟨false, _, _, h1, .no rfl, hQ _ _ h2⟩
    | h fl =>
      change dHNo (runD call l) j fl push w d = some dfin at h2
      unfold dHNo at h2
      rw [layPend_eq] at h2
      exact ⟨false, _, _, h1, .noh, hQ _ _ h2⟩
  | true =>
    change dYes call (runD call l) j c push w d (unG gi).2 = some dfin at h2
    generalize (unG gi).2 = it at h2
    cases c with
    | q =>
      cases it <;> try (cases h2; done)
      obtain ⟨v, h3, h4⟩ := ob_eq h2
      exact ⟨true, v, _, h1, .p h3, hQ _ _ h4⟩
    | r lo hi =>
      cases it <;> try (cases h2; done)
      rename_i p
      obtain ⟨v, h3, h4⟩ := ob_eq h2
      refine ⟨true, v, _, h1, .r h3, ?_⟩
      have h5 := hQ _ _ h4
      have e : (cnd (Nat.beq lo hi) d { d with rds := ⟨lo, hi, p, d.stk, d.slots, v⟩ :: d.rds }) = if lo = hi then d else { d with rds := ⟨lo, hi, p, d.stk, d.slots, v⟩ :: d.rds } := by
        by_cases e : lo = hi
        · rw [if_pos e]
          have : Nat.beq lo hi = true := by simpa using e
          rw [this]; rfl
        · rw [if_neg e]
          have : Nat.beq lo hi = false := by
            cases hb : Nat.beq lo hi with
            | false => rfl
            | true => exact absurd (by simpa using hb) e
          rw [this]; rfl
      rw [e] at h5
      exact h5
    | f =>
      cases it <;> try (cases h2; done)
      obtain ⟨⟨v, ob⟩, h3, h4⟩ := ob_eq h2
      rw [Pos.succK_eq] at h4
      exact ⟨true, v, _, h1, .f h3, hQ _ _ h4⟩
    | h fl =>
      change dH call (runD call l) j fl push w d it = some dfin at h2
      unfold dH at h2
      rw [layPend_eq] at h2
      change wb (evI call it d.stk d.slots (layP fl d.pend d.heap) d.next) none (dH1 (runD call l) j push w d (restP fl d.pend)) = some dfin at h2
      cases hev : evI call it d.stk d.slots (layP fl d.pend d.heap) d.next with
      | no => rw [hev] at h2; cases h2
      | ok v h' nx' =>
        rw [hev] at h2
        exact ⟨true, v, _, h1, .h hev, hQ _ _ h2⟩

theorem D1.mono (hm : CallMono call) {j : Nat} {c : Cls} {q : Bool} {it : I} {d : DSt} {v : V} {d1 : DSt} (g : D1 call j c q it d v d1) : d.next.num ≤ d1.next.num := by
  cases g with
  | no _ => exact Nat.le_refl _
  | noh => exact Nat.le_refl _
  | p _ => exact Nat.le_refl _
  | r _ => split <;> exact Nat.le_refl _
  | f _ => show d.next.num ≤ d.next.succ.num; rw [Pos.num_succ]; omega
  | h hv => exact evI_mono hm _ _ _ _ hv

theorem runD_mono (hm : CallMono call) : ∀ (l : List (Cls × CO)) {j : Nat} {d dfin : DSt}, runD call l j d = some dfin → d.next.num ≤ dfin.next.num
  | [], j, d, dfin, e => by cases e; exact Nat.le_refl _
  | (c, .el) :: l, j, d, dfin, e => runD_mono hm l (j := j + 1) (d := d) e
  | (c, .op gi push w) :: l, j, d, dfin, e => by
    obtain ⟨q, v, d1, _, g, h2⟩ := runD_cons e
    have h3 := runD_mono hm l h2
    exact Nat.le_trans (g.mono hm) h3

theorem runDReg_mono (hm : CallMono call) (l : List (Cls × CO)) : SLe nx (runDReg call l slots h nx) := by
  intro t h' nx' e
  change (Option.rec St.no (fun d : DSt => cnd (allSame d.hard d.vers d.rds) (.ok d.slots (layAll d.pend d.heap) d.next) .no) (runD call l 0 ⟨[], slots, h, nx, [], [h], [], 0⟩) : St) = _ at e
  cases hr : runD call l 0 ⟨[], slots, h, nx, [], [h], [], 0⟩ with
  | none => rw [hr] at e; cases e
  | some d =>
    rw [hr] at e
    have := runD_mono hm l hr
    change cnd (allSame d.hard d.vers d.rds) (St.ok d.slots (layAll d.pend d.heap) d.next) .no = _ at e
    cases hs : allSame d.hard d.vers d.rds with
    | false => rw [hs] at e; cases e
    | true => rw [hs] at e; cases e; exact this

def XLe (nx : Pos) : XR → Prop
  | .no => True
  | .norm _ _ nx' | .exit _ _ _ nx' | .ret _ _ nx' => nx.num ≤ nx'.num

theorem XLe.st {s : St} (g : SLe nx s) : XLe nx (ofSt s) := by
  cases s with
  | no => trivial
  | ok t h' nx' => exact g _ _ _ rfl

theorem exec_mono (hm : CallMono call) : ∀ (n : Nat) (c : VC) {slots : T V} {h : T O} {nx : Pos}, XLe nx (exec call n c slots h nx)
  | 0, _, _, _, _ => trivial
  | n + 1, c, slots, h, nx => by
    have ih : ∀ (c : VC) {slots : T V} {h : T O} {nx : Pos}, XLe nx (exec call n c slots h nx) := fun c => exec_mono hm n c
    have two : ∀ (x y : VC), XLe nx (XR.rec .no (exec call n y) .exit .ret (exec call n x slots h nx) : XR) := by
      intro x y
      have h1 := ih x (slots := slots) (h := h) (nx := nx)
      cases hx : exec call n x slots h nx with
      | no => trivial
      | norm t1 h1' nx1 =>
        rw [hx] at h1
        have h2 := ih y (slots := t1) (h := h1') (nx := nx1)
        change XLe nx (exec call n y t1 h1' nx1)
        cases hy : exec call n y t1 h1' nx1 <;> first
          | trivial
          | (rw [hy] at h2; exact Nat.le_trans h1 h2)
      | exit id t1 h1' nx1 => rw [hx] at h1; exact h1
      | ret t1 h1' nx1 => rw [hx] at h1; exact h1
    cases c with
    | fail => trivial
    | skip => exact Nat.le_refl _
    | exit id => exact Nat.le_refl _
    | ret => exact Nat.le_refl _
    | reg ops => exact XLe.st (runCO_mono hm ops)
    | dreg ops => exact XLe.st (runDReg_mono hm ops)
    | seq a b => exact two a b
    | loop b => exact two b (.loop b)
    | cond c a b =>
      change XLe nx (Option.rec .no (fun q => Bool.rec (exec call n b slots h nx) (exec call n a slots h nx) q) (ob (loc c [] slots) fun v => vBool v some) : XR)
      cases ob (loc c [] slots) fun v => vBool v some with
      | none => trivial
      | some q => cases q <;> exact ih _
    | block id b =>
      have h1 := ih b (slots := slots) (h := h) (nx := nx)
      change XLe nx (XR.rec .no .norm (fun m t h nx => cnd (Nat.beq m id) (.norm t h nx) (.exit m t h nx)) .ret (exec call n b slots h nx) : XR)
      cases hx : exec call n b slots h nx with
      | no => trivial
      | norm t1 h1' nx1 => rw [hx] at h1; exact h1
      | ret t1 h1' nx1 => rw [hx] at h1; exact h1
      | exit m t1 h1' nx1 =>
        rw [hx] at h1
        change XLe nx (cnd (Nat.beq m id) (.norm t1 h1' nx1) (.exit m t1 h1' nx1))
        cases Nat.beq m id <;> exact h1

theorem callN_mono {fns : Nat → Option VFn} {prims : Caller} (hp : CallMono prims) : ∀ n, CallMono (callN fns prims n)
  | 0 => fun _ _ _ _ => WLe.no
  | n + 1 => by
    intro f vs h nx
    have ih := callN_mono (fns := fns) hp n
    change WLe nx (wb (prims f vs h nx) (wo (fns f) fun fn => runFn (callN fns prims n) (Nat.add 10000 n) fn vs h nx) .ok)
    have h1 := hp f vs h nx
    cases hpr : prims f vs h nx with
    | ok v h' nx' => rw [hpr] at h1; exact h1
    | no =>
      refine WLe.wo fun fn => WLe.wo fun t => ?_
      have h2 := exec_mono ih (Nat.add 10000 n) fn.code (slots := t) (h := h) (nx := nx)
      change WLe nx (XR.rec .no (leave fn.res) (fun _ _ _ _ => .no) (leave fn.res) (exec (callN fns prims n) (Nat.add 10000 n) fn.code t h nx) : WR)
      cases hx : exec (callN fns prims n) (Nat.add 10000 n) fn.code t h nx with
      | no => exact WLe.no
      | exit id t1 h1' nx1 => exact WLe.no
      | norm t1 h1' nx1 => rw [hx] at h2; exact WLe.wo fun vs => WLe.ok h2
      | ret t1 h1' nx1 => rw [hx] at h2; exact WLe.wo fun vs => WLe.ok h2

end GoVm

/- What the checks on a region that draws its order say. -/
namespace GoVm
open Go (Oper Region.binds)

theorem fold_bits (b : Array Nat) (i : Nat) : ∀ (es : List Go.Edge) (s : Nat), (es.foldl (fun s e => if Region.binds .any e then s ||| 2 ^ e.on ||| b.getD e.on 0 else s) s).testBit i =
    (s.testBit i || es.any fun e => Region.binds .any e && (e.on == i || befB b i e.on))
  | [], s => by simp
  | e :: es, s => by
    simp only [List.foldl_cons, List.any_cons]
    rw [fold_bits b i es]
    cases hb : Region.binds .any e with
    | false => simp
    | true =>
      simp only [if_true, Nat.testBit_or, Nat.testBit_two_pow, Bool.true_and, befB]
      have h2 : decide (e.on = i) = (e.on == i) := by
        by_cases h1 : e.on = i <;> simp [h1]
      rw [h2]
      simp only [Bool.or_assoc]

/-- What the checks say. -/
structure OrdOk (ops : Array Oper) (b : Array Nat) (k : Array Cls) : Prop where
  edge : ∀ j o, ops[j]? = some o → ∀ e ∈ o.after.toList, Region.binds .any e = true → e.on < j ∧ befB b e.on j = true
  back : ∀ j o i, ops[j]? = some o → befB b i j = true → ∃ e ∈ o.after.toList, Region.binds .any e = true ∧ (e.on = i ∨ befB b i e.on = true)
  up : ∀ j o i e, ops[j]? = some o → e ∈ o.after.toList → Region.binds .any e = true → befB b i e.on = true → befB b i j = true
  name : ∀ i j oi oj t, ops[i]? = some oi → ops[j]? = some oj → i ≠ j → oi.dst = some t → t ∈ namesOf ops oj → (i < j → befB b i j = true) ∧ (j < i → befB b j i = true)
  size : k.size = ops.size
  total : ∀ i j, i < j → j < ops.size → isHC (k.getD i .q) = true → isHC (k.getD j .q) = true → befB b i j = true
  free : ∀ j i, j < ops.size → i < ops.size → isFC (k.getD j .q) = true → befB b j i = true → isHC (k.getD i .q) = true ∨ ∃ x, x < ops.size ∧ isHC (k.getD x .q) = true ∧ befB b j x = true ∧ befB b x i = true
  rd : ∀ j lo hi, j < ops.size → k.getD j .q = .r lo hi → lo ≤ ((List.range ops.size).filter fun i => isHC (k.getD i .q) && befB b i j).length ∧
    ((List.range ops.size).filter fun i => isHC (k.getD i .q) && !(befB b j i)).length ≤ hi
  fl : ∀ j f i, j < ops.size → i < ops.size → k.getD j .q = .h f → isFC (k.getD i .q) = true → (i ∈ f ↔ befB b i j = true)

theorem ordOk {ops : Array Oper} {b : Array Nat} {k : Array Cls} (h1 : edgesOk ops b = true) (h2 : namesOk ops b = true) (h3 : classOk ops b k = true) : OrdOk ops b k := by
  have idx : ∀ {j : Nat} {o : Oper}, ops[j]? = some o → j < ops.size := fun h => (Array.getElem?_eq_some_iff.1 h).1
  simp only [edgesOk, List.all_eq_true, List.mem_range] at h1
  have e1 : ∀ j o, ops[j]? = some o → (∀ e ∈ o.after.toList, Region.binds .any e = true → e.on < j) ∧
      b.getD j 0 = o.after.toList.foldl (fun s e => if Region.binds .any e then s ||| 2 ^ e.on ||| b.getD e.on 0 else s) 0 := by
    intro j o hj
    have := h1 j (idx hj)
    rw [hj] at this
    simp only [Bool.and_eq_true, List.all_eq_true, Bool.or_eq_true, Bool.not_eq_true', Nat.beq_eq] at this
    refine ⟨fun e he hb => ?_, this.2⟩
    rcases this.1 e he with h | h
    · rw [hb] at h; cases h
    · exact Nat.le_of_ble_eq_true h
  have bit : ∀ j o i, ops[j]? = some o → (befB b i j = true ↔ ∃ e ∈ o.after.toList, Region.binds .any e = true ∧ (e.on = i ∨ befB b i e.on = true)) := by
    intro j o i hj
    have := (e1 j o hj).2
    unfold befB
    rw [this, fold_bits]
    simp only [Nat.zero_testBit, Bool.false_or, List.any_eq_true, Bool.and_eq_true, Bool.or_eq_true, beq_iff_eq, befB]
  simp only [namesOk, List.all_eq_true, List.mem_range] at h2
  simp only [classOk, Bool.and_eq_true, List.all_eq_true, List.mem_range, Nat.beq_eq] at h3
  obtain ⟨h3a, h3⟩ := h3
  refine ⟨fun j o hj e he hb => ⟨(e1 j o hj).1 e he hb, (bit j o e.on hj).2 ⟨e, he, hb, .inl rfl⟩⟩, fun j o i hj hb => (bit j o i hj).1 hb,
    fun j o i e hj he hb h => (bit j o i hj).2 ⟨e, he, hb, .inr h⟩, ?_, h3a, ?_, ?_, ?_, ?_⟩
  · intro i j oi oj t hi hj hne hd hn
    have := h2 j (idx hj)
    rw [hj] at this
    simp only [List.all_eq_true, List.mem_range] at this
    have := this i (idx hi)
    rw [hi] at this
    simp only [hd] at this
    simp only [Bool.or_eq_true, Nat.beq_eq, Bool.not_eq_true', List.contains_eq_mem, decide_eq_false_iff_not] at this
    rcases this with (h | h) | h
    · exact absurd h hne
    · exact absurd hn h
    · constructor
      · intro hl; rw [if_pos hl] at h; exact h
      · intro hl; rw [if_neg (by omega)] at h; exact h
  · intro i j hij hj hi hh
    have := h3 j hj
    cases hc : k.getD j .q with
    | h f =>
      rw [hc] at this
      simp only [Bool.and_eq_true, List.all_eq_true, List.mem_range, Bool.or_eq_true, Bool.not_eq_true'] at this
      rcases this.1 i (by omega) with (h | h) | h
      · rw [hi] at h; cases h
      · have : Nat.blt i j = true := by simpa using hij
        rw [this] at h; cases h
      · exact h
    | _ => rw [hc] at hh; cases hh
  · intro j i hj hi hf hb
    have := h3 j hj
    cases hc : k.getD j .q with
    | f =>
      rw [hc] at this
      simp only [List.all_eq_true, List.mem_range, Bool.or_eq_true, Bool.not_eq_true', List.any_eq_true, Bool.and_eq_true] at this
      rcases this i hi with (h | h) | ⟨x, hx, h⟩
      · rw [hb] at h; cases h
      · exact .inl h
      · exact .inr ⟨x, hx, h.1.1, h.1.2, h.2⟩
    | _ => rw [hc] at hf; cases hf
  · intro j lo hi hj hc
    have := h3 j hj
    rw [hc] at this
    simp only [Bool.and_eq_true, Nat.ble_eq] at this
    exact this
  · intro j f i hj hi hc hf
    have := h3 j hj
    rw [hc] at this
    simp only [Bool.and_eq_true, List.all_eq_true, List.mem_range, Bool.or_eq_true, Bool.not_eq_true', beq_iff_eq] at this
    rcases this.2 i hi with h | h
    · rw [hf] at h; cases h
    · rw [← h]; simp

namespace OrdOk
variable {ops : Array Oper} {b : Array Nat} {k : Array Cls}

theorem lt (h : OrdOk ops b k) : ∀ j i, j < ops.size → befB b i j = true → i < j := by
  intro j
  induction j using Nat.strongRecOn with
  | _ j ih =>
    intro i hj hb
    obtain ⟨e, he, hbd, h1⟩ := h.back j _ i (Array.getElem?_eq_getElem hj) hb
    have hlt := (h.edge j _ (Array.getElem?_eq_getElem hj) e he hbd).1
    rcases h1 with rfl | h1
    · exact hlt
    · exact Nat.lt_trans (ih e.on hlt i (by omega) h1) hlt

theorem trans (h : OrdOk ops b k) : ∀ j i x, j < ops.size → befB b i j = true → befB b x i = true → befB b x j = true := by
  intro j
  induction j using Nat.strongRecOn with
  | _ j ih =>
    intro i x hj hb hx
    obtain ⟨e, he, hbd, h1⟩ := h.back j _ i (Array.getElem?_eq_getElem hj) hb
    have hlt := (h.edge j _ (Array.getElem?_eq_getElem hj) e he hbd).1
    rcases h1 with rfl | h1
    · exact h.up j _ x e (Array.getElem?_eq_getElem hj) he hbd hx
    · exact h.up j _ x e (Array.getElem?_eq_getElem hj) he hbd (ih e.on hlt i x (by omega) h1 hx)
end OrdOk

end GoVm

/- The virtual machine's run of a region that draws its order, operation by operation. -/
namespace GoVm
open Go (Value World Addr Obj MapEntry Program Operand Oper Op)

variable {P : Program} {m : SlotMap} {call : Caller} {ops : Array Oper}

def dstAt (ops : Array Oper) (i : Nat) : Option Nat := (ops[i]?).bind (·.dst)

/-- The value that stands at a place ahead of operation j, in the order of the text. -/
def Stands (ops : Array Oper) (m : SlotMap) (slots0 : T V) (val : Nat → V) (j t : Nat) (v : V) : Prop :=
  (∃ i, i < j ∧ dstAt ops i = some t ∧ val i = v ∧ ∀ x, i < x → x < j → dstAt ops x ≠ some t) ∨
  ((∀ i, i < j → dstAt ops i ≠ some t) ∧ ∃ p, slotOf m t = some p ∧ slots0.get p = some v)

theorem Stands.congr {slots0 : T V} {val val' : Nat → V} {j : Nat} (h : ∀ i, i < j → val i = val' i) {t : Nat} {v : V} (s : Stands ops m slots0 val j t v) : Stands ops m slots0 val' j t v := by
  rcases s with ⟨i, h1, h2, h3, h4⟩ | s
  · exact .inl ⟨i, h1, h2, by rw [← h i h1]; exact h3, h4⟩
  · exact .inr s

/-- What the places stand for, by a predicate. -/
structure IX (m : SlotMap) (e : Env) (stk : List V) (slots : T V) (X : Nat → V → Prop) : Prop where
  len : stk.length = e.depth
  lr : ∀ x ∈ e.loc, (∀ i, x.2 = .stk i → i < e.depth) ∧ ∀ v, loc (toLoc e x.2) stk slots = some v → X x.1 v
  sr : ∀ t p v, slotOf m t = some p → slots.get p = some v → X t v

theorem IX.imp {e : Env} {stk : List V} {slots : T V} {X Y : Nat → V → Prop} (h : IX m e stk slots X) (g : ∀ t v, X t v → Y t v) : IX m e stk slots Y :=
  ⟨h.len, fun x hx => ⟨(h.lr x hx).1, fun v hv => g _ _ ((h.lr x hx).2 v hv)⟩, fun t p v h1 h2 => g _ _ (h.sr t p v h1 h2)⟩

theorem place_X (hI : Inj m) {i : I} {dst : Option Nat} {rest : List Oper} {co : CO} {e e' : Env} (hp : place m ops e i dst rest = some (co, e')) {stk : List V} {slots : T V} {X X' : Nat → V → Prop} (hR : IX m e stk slots X)
    {v : V} (hX : ∀ t u, dst ≠ some t → X t u → X' t u) (hv : ∀ d, dst = some d → X' d v) : ∃ push wr, co = .op i push wr ∧ IX m e' (pushS push v stk) (putS wr v slots) X' ∧ e'.G = e.G ∧ e'.N = e.N ∧ ∀ d, dst = some d → d < e.N := by
  cases dst with
  | none =>
    cases hp
    exact ⟨false, none, rfl, hR.imp fun t u h => hX t u (by simp) h, rfl, rfl, fun d hd => by cases hd⟩
  | some d =>
    simp only [place] at hp
    split at hp
    · cases hp
    · rename_i hN
      simp only [Bool.not_eq_true, Bool.not_eq_false', decide_eq_true_eq] at hN
      have hdd : ∀ d', some d = some d' → d' < e.N := fun d' h => by cases h; exact hN
      have keep : ∀ t u, t ≠ d → X t u → X' t u := fun t u h g => hX t u (fun e => h (by cases e; rfl)) g
      have sr_no : slotOf m d = none → ∀ t p u, slotOf m t = some p → slots.get p = some u → X' t u := by
        intro hno t p u h1 h2
        have : t ≠ d := fun e => by rw [e, hno] at h1; cases h1
        exact keep t u this (hR.sr t p u h1 h2)
      split at hp
      · rename_i p hs
        cases hp
        refine ⟨false, some p, rfl, ⟨hR.len, fun x hx => ?_, fun t p' u h1 h2 => ?_⟩, rfl, rfl, hdd⟩
        · obtain ⟨h1, h2⟩ := mem_dropT hx
          obtain ⟨h3, h4⟩ := mem_dropSl h1
          obtain ⟨h5, h6⟩ := hR.lr x h3
          refine ⟨h5, fun u hu => ?_⟩
          refine keep _ _ h2 (h6 u ?_)
          cases hx2 : x.2 with
          | stk j => rw [hx2] at hu; exact hu
          | k z => rw [hx2] at hu; exact hu
          | sl q =>
            rw [hx2] at hu
            change T.get q (T.put v p slots) = some u at hu
            rw [T.get_put_other v p q slots (h4 q hx2)] at hu
            exact hu
        · change T.get p' (T.put v p slots) = some u at h2
          by_cases e : t = d
          · subst e
            rw [hs] at h1; cases h1
            rw [T.get_put_same] at h2; cases h2
            exact hv _ rfl
          · have : p' ≠ p := fun e2 => e (hI t d p (e2 ▸ h1) hs)
            rw [T.get_put_other v p p' slots this] at h2
            exact keep _ _ e (hR.sr t p' u h1 h2)
      · rename_i hs
        split at hp
        · cases hp
          refine ⟨true, none, rfl, ⟨by simp [pushS, Env.push, hR.len], fun x hx => ?_, sr_no hs⟩, rfl, rfl, hdd⟩
          simp only [Env.push, Env.set, List.mem_cons] at hx
          rcases hx with rfl | hx
          · refine ⟨fun i hi => by cases hi; simp [Env.push, Env.set], fun u hu => ?_⟩
            have : u = v := by
              simp only [toLoc, Env.push, Env.set, pushS, if_true] at hu
              rw [show e.depth + 1 - 1 - e.depth = 0 by omega] at hu
              change some v = some u at hu
              cases hu; rfl
            subst this
            exact hv _ rfl
          · obtain ⟨h1, h2⟩ := mem_dropT hx
            obtain ⟨h5, h6⟩ := hR.lr x h1
            refine ⟨fun i hi => Nat.lt_succ_of_lt (h5 i hi), fun u hu => ?_⟩
            refine keep _ _ h2 (h6 u ?_)
            cases hx2 : x.2 with
            | sl q => rw [hx2] at hu; exact hu
            | k z => rw [hx2] at hu; exact hu
            | stk j =>
              rw [hx2] at hu
              have hj := h5 j hx2
              simp only [toLoc, Env.push, Env.set, pushS, if_true] at hu ⊢
              rw [show e.depth + 1 - 1 - j = (e.depth - 1 - j) + 1 by omega] at hu
              exact hu
        · cases hp
          refine ⟨false, none, rfl, ⟨hR.len, fun x hx => ?_, sr_no hs⟩, rfl, rfl, hdd⟩
          obtain ⟨h1, h2⟩ := mem_dropT hx
          obtain ⟨h5, h6⟩ := hR.lr x h1
          exact ⟨h5, fun u hu => keep _ _ h2 (h6 u hu)⟩

theorem D1.same {j : Nat} {c : Cls} {q : Bool} {it : I} {d : DSt} {v : V} {d1 : DSt} (g : D1 call j c q it d v d1) : d1.stk = d.stk ∧ d1.slots = d.slots := by
  cases g with
  | r _ => split <;> exact ⟨rfl, rfl⟩
  | _ => exact ⟨rfl, rfl⟩

/-- Two states with the same memory. -/
def SameMem (d d' : DSt) : Prop := d'.heap = d.heap ∧ d'.next = d.next ∧ d'.pend = d.pend ∧ d'.vers = d.vers ∧ d'.rds = d.rds ∧ d'.hard = d.hard

/-- What is known of operation j. -/
structure StepOk (P : Program) (m : SlotMap) (ops : Array Oper) (call : Caller) (k : Array Cls) (slots0 : T V) (val : Nat → V) (G N : Nat) (j : Nat) (e : Env) (d d' : DSt) : Prop where
  ix : IX m e d.stk d.slots (Stands ops m slots0 val j)
  eG : e.G = G
  eN : e.N = N
  dst : ∀ t, dstAt ops j = some t → t < N
  run : ∀ o, ops[j]? = some o → ∃ it gi q d1, opI P m { e with only := some (namesOf ops o) } o.op = some it ∧ guardI m ops { e with only := some (namesOf ops o) } o it = some gi ∧
    wantAll (unG gi).1 d.stk d.slots = some q ∧ D1 call j (k.getD j .q) q (unG gi).2 d (val j) d1 ∧ SameMem d1 d'

theorem trace (hI : Inj m) {k : Array Cls} {slots0 : T V} {G N : Nat} (hk : k.size = ops.size) : ∀ (l : List Oper) (j : Nat) (val0 : Nat → V) {e : Env} {cs : List CO} {d dfin : DSt}, ops.toList.drop j = l → j + l.length = ops.size →
    compOpsD P m ops l e = some cs → runD call ((k.toList.drop j).zip cs) j d = some dfin → IX m e d.stk d.slots (Stands ops m slots0 val0 j) → e.G = G → e.N = N →
    ∃ (val : Nat → V) (ds : Nat → DSt) (es : Nat → Env), (∀ i, i < j → val i = val0 i) ∧ ds j = d ∧ ds ops.size = dfin ∧ (∀ i, j ≤ i → i < ops.size → StepOk P m ops call k slots0 val G N i (es i) (ds i) (ds (i + 1))) ∧
      ∀ t p v, slotOf m t = some p → dfin.slots.get p = some v → Stands ops m slots0 val ops.size t v
  | [], j, val0, e, cs, d, dfin, hd, hl, hcs, hr, hx, hG, hN => by
    cases hcs
    simp only [List.zip_nil_right] at hr
    cases hr
    have hj : j = ops.size := by simpa using hl
    subst hj
    exact ⟨val0, fun _ => d, fun _ => e, fun _ _ => rfl, rfl, rfl, fun i h1 h2 => by omega, hx.sr⟩
  | o :: l, j, val0, e, cs, d, dfin, hd, hl, hcs, hr, hx, hG, hN => by
    have hjn : j < ops.size := by simp at hl; omega
    have hoj : ops[j]? = some o := by
      have := congrArg List.head? hd
      simpa using this
    have hd' : ops.toList.drop (j + 1) = l := by
      have := congrArg List.tail hd
      simpa using this
    simp only [compOpsD] at hcs
    split at hcs
    · cases hcs
    · rename_i co e' hco
      split at hcs
      · cases hcs
      · rename_i cs' hcs'
        cases hcs
        unfold compOpD at hco
        split at hco
        · cases hco
        · rename_i it hit
          split at hco
          · cases hco
          · rename_i gi hgi
            have hkj : k.toList.drop j = k.getD j .q :: k.toList.drop (j + 1) := by
              rw [List.drop_eq_getElem_cons (by simpa [hk] using hjn)]
              congr 1
              simp [Array.getD_eq_getD_getElem?, hk, hjn]
            rw [hkj, List.zip_cons_cons] at hr
            have hco' : ∃ push wr, co = .op gi push wr := by
              unfold place at hco
              repeat' split at hco
              all_goals first
                | (cases hco; exact ⟨_, _, rfl⟩)
                | cases hco
            obtain ⟨push, wr, rfl⟩ := hco'
            obtain ⟨q, v, d1, h1, h2, h3⟩ := runD_cons hr
            let val1 : Nat → V := fun i => if i = j then v else val0 i
            have hagree : ∀ i, i < j → val0 i = val1 i := fun i hi => by simp only [val1]; rw [if_neg (by omega)]
            have hd1 : d1.stk = d.stk ∧ d1.slots = d.slots := by
              exact h2.same
            have hdst : dstAt ops j = o.dst := by simp [dstAt, hoj]
            obtain ⟨push', wr', heq, hx', hG', hN', hlt⟩ := place_X hI hco (hx.imp fun t u h => h.congr hagree) (X' := Stands ops m slots0 val1 (j + 1)) (v := v) (by
              intro t u hne hs
              rcases hs with ⟨i, h4, h5, h6, h7⟩ | ⟨h4, h5⟩
              · refine .inl ⟨i, by omega, h5, h6, fun x hx1 hx2 => ?_⟩
                by_cases e : x = j
                · subst e; rw [hdst]; exact hne
                · exact h7 x hx1 (by omega)
              · refine .inr ⟨fun i hi => ?_, h5⟩
                by_cases e : i = j
                · subst e; rw [hdst]; exact hne
                · exact h4 i (by omega)) (by
              intro t ht
              exact .inl ⟨j, by omega, by rw [hdst]; exact ht, by simp [val1], fun x h4 h5 => by omega⟩)
            cases heq
            rw [← hd1.1, ← hd1.2] at hx'
            obtain ⟨val, ds, es, t1, t2, t3, t4, t5⟩ := trace hI hk l (j + 1) val1 hd' (by simp at hl; omega) hcs' h3 (by simpa using hx') (hG'.trans hG) (hN'.trans hN)
            have hval : val j = v := by rw [t1 j (by omega)]; simp [val1]
            refine ⟨val, fun i => if i = j then d else ds i, fun i => if i = j then e else es i, fun i hi => ?_, by simp, ?_, fun i hi1 hi2 => ?_, t5⟩
            · rw [t1 i (by omega)]; exact (hagree i hi).symm
            · show (if ops.size = j then d else ds ops.size) = dfin
              rw [if_neg (by omega)]; exact t3
            · by_cases e1 : i = j
              · subst e1
                show StepOk P m ops call k slots0 val G N i (if i = i then e else es i) (if i = i then d else ds i) (if i + 1 = i then d else ds (i + 1))
                rw [if_pos rfl, if_pos rfl, if_neg (by omega), t2]
                refine ⟨hx.imp fun t u h => h.congr fun x hx => ?_, hG, hN, fun t ht => ?_, fun o' ho' => ?_⟩
                · rw [t1 x (by omega)]; exact hagree x hx
                · rw [← hN]; exact hlt t (by rw [← hdst]; exact ht)
                · rw [hoj] at ho'; cases ho'
                  exact ⟨it, gi, q, d1, hit, hgi, h1, by rw [hval]; exact h2, rfl, rfl, rfl, rfl, rfl, rfl⟩
              · show StepOk P m ops call k slots0 val G N i (if i = j then e else es i) (if i = j then d else ds i) (if i + 1 = j then d else ds (i + 1))
                rw [if_neg e1, if_neg e1, if_neg (by omega)]
                exact t4 i (by omega) hi2

end GoVm

/- Regions that draw their order: what is laid, and equal values. -/
namespace GoVm
open Go (Value World Addr Obj MapEntry Program Operand Oper Op)

variable {P : Program} {ρ : Nat → Int} {φ : Phi} {h : T O} {nx : Pos} {w : World}

/-- A block that was made already is taken up. -/
theorem Rel.lay (r : Rel P ρ φ h nx w) {p : Pos} {q : Blk} {o : O} (hp : φ p = none) (hlt : p.num < nx.num) (hB : q.B < w.heap.size) (hne : ∀ a q', φ a = some q' → q'.B ≠ q.B) (ho : ObjR P ρ (φ.add p q) w q o) :
    Rel P ρ (φ.add p q) (h.put o p) nx w := by
  have hle : PhiLe φ (φ.add p q) := by
    intro a q' ha
    unfold Phi.add
    split
    · rename_i e; subst e; rw [hp] at ha; cases ha
    · exact ha
  refine ⟨fun a q' ha => ?_, fun a q' ha => ?_, fun a q' ha => ?_, fun a b q1 q2 oa ob ha hb hoa hob hda hdb hw he => ?_⟩
  · unfold Phi.add at ha
    split at ha
    · rename_i e; subst e; cases ha
      exact ⟨o, T.get_put_same o a h, ho⟩
    · rename_i hn
      obtain ⟨o', h1, h2⟩ := r.obj a q' ha
      exact ⟨o', by rw [T.get_put_other o p a h hn]; exact h1, h2.mono hle rfl⟩
  · unfold Phi.add at ha
    split at ha
    · rename_i e; subst e; exact hlt
    · exact r.low a q' ha
  · unfold Phi.add at ha
    split at ha
    · cases ha; exact hB
    · exact r.bnd a q' ha
  · unfold Phi.add at ha hb
    split at ha <;> split at hb
    · rename_i e1 e2; rw [e1, e2]
    · cases ha; exact absurd he.symm (hne _ _ hb)
    · cases hb; exact absurd he (hne _ _ ha)
    · rename_i e1 e2
      rw [T.get_put_other o p a h e1] at hoa
      rw [T.get_put_other o p b h e2] at hob
      exact r.inj a b q1 q2 oa ob ha hb hoa hob hda hdb hw he

theorem Ext.lay {h0 : T O} {φ0 : Phi} {w0 : World} (e : Ext h0 φ0 w0 h φ w) {p : Pos} {q : Blk} {o : O} (hp : φ p = none) (hB : w0.heap.size ≤ q.B) : Ext h0 φ0 w0 (h.put o p) (φ.add p q) w := by
  have hle : PhiLe φ (φ.add p q) := by
    intro a q' ha
    unfold Phi.add
    split
    · rename_i e; subst e; rw [hp] at ha; cases ha
    · exact ha
  refine ⟨e.le.trans hle, e.size, e.keep, fun a q' o' ha ho hw => ?_, fun a q' ha hn => ?_, e.tape, e.os, e.output⟩
  · have : a ≠ p := fun e' => by
      subst e'
      have := e.le a q' ha
      rw [hp] at this; cases this
    rw [T.get_put_other o p a h this] at ho
    exact e.wr a q' o' ha ho hw
  · unfold Phi.add at ha
    split at ha
    · cases ha; exact .inl hB
    · exact e.new a q' ha hn

/-- Numbers may be left out. -/
theorem Rel.skipTo (r : Rel P ρ φ h nx w) {nx' : Pos} (g : nx.num ≤ nx'.num) : Rel P ρ φ h nx' w :=
  ⟨r.obj, fun a q ha => Nat.lt_of_lt_of_le (r.low a q ha) g, r.bnd, r.inj⟩

mutual
theorem V.beq_eq : ∀ (a b : V), V.beq a b = true → a = b
  | .bool a, b, h => by cases b <;> simp [V.beq] at h; rw [h]
  | .int k a, b, h => by cases b <;> simp [V.beq, beqK_eq, eqI_eq] at h; rw [h.1, h.2]
  | .sym k v m c, b, h => by cases b <;> simp [V.beq, beqK_eq, eqI_eq] at h; obtain ⟨⟨⟨h1, h2⟩, h3⟩, h4⟩ := h; rw [h1, h2, h3, h4]
  | .str n a, b, h => by cases b <;> simp [V.beq] at h; rw [h.1, h.2]
  | .nilp, b, h => by cases b <;> simp [V.beq] at h; rfl
  | .ptr p o, b, h => by cases b <;> simp [V.beq] at h; rw [Pos.beq_eq _ _ h.1, h.2]
  | .nils, b, h => by cases b <;> simp [V.beq] at h; rfl
  | .sl p o n c, b, h => by cases b <;> simp [V.beq] at h; obtain ⟨⟨⟨h1, h2⟩, h3⟩, h4⟩ := h; rw [Pos.beq_eq _ _ h1, h2, h3, h4]
  | .nilm, b, h => by cases b <;> simp [V.beq] at h; rfl
  | .map p, b, h => by cases b <;> simp [V.beq] at h; rw [Pos.beq_eq _ _ h]
  | .nilf, b, h => by cases b <;> simp [V.beq] at h; rfl
  | .fn f x y, b, h => by cases b <;> simp [V.beq] at h; obtain ⟨⟨h1, h2⟩, h3⟩ := h; rw [h1, V.beqs_eq _ _ h2, V.beqs_eq _ _ h3]
  | .nili, b, h => by cases b <;> simp [V.beq] at h; rfl
  | .ifc t x, b, h => by cases b <;> simp [V.beq] at h; rw [h.1, V.beq_eq _ _ h.2]
  | .agg x, b, h => by cases b <;> simp [V.beq] at h; rw [V.beqs_eq _ _ h]
  | .tup x, b, h => by cases b <;> simp [V.beq] at h; rw [V.beqs_eq _ _ h]
theorem V.beqs_eq : ∀ (a b : List V), V.beqs a b = true → a = b
  | [], b, h => by cases b <;> simp [V.beqs] at h; rfl
  | x :: a, b, h => by
    cases b with
    | nil => simp [V.beqs] at h
    | cons y b =>
      simp [V.beqs] at h
      rw [V.beq_eq _ _ h.1, V.beqs_eq _ _ h.2]
end

/-- A read of which the window was looked at. -/
theorem sameIn_sound (rd : Rd) : ∀ (hs : List (T O)) (k : Nat), sameIn rd hs k = true → ∀ (i : Nat) (hh : T O), hs[i]? = some hh → i ≤ k → rd.lo ≤ k - i → k - i ≤ rd.hi → evR rd.i rd.stk rd.slots hh = some rd.v
  | [], _, _, i, hh, hi, _, _, _ => by simp at hi
  | x :: hs, k, e, i, hh, hi, hik, hlo, hhi => by
    change andB (cnd (andB (Nat.ble rd.lo k) (Nat.ble k rd.hi)) (Option.rec false (fun v => V.beq v rd.v) (evR rd.i rd.stk rd.slots x)) true) (sameIn rd hs (Nat.pred k)) = true at e
    rw [andB_eq, Bool.and_eq_true] at e
    cases i with
    | zero =>
      simp only [List.getElem?_cons_zero, Option.some.injEq] at hi
      subst hi
      have hc : andB (Nat.ble rd.lo k) (Nat.ble k rd.hi) = true := by
        rw [andB_eq, Bool.and_eq_true, Nat.ble_eq, Nat.ble_eq]; omega
      rw [hc] at e
      have e1 := e.1
      rw [cnd_true] at e1
      cases hv : evR rd.i rd.stk rd.slots x with
      | none => rw [hv] at e1; cases e1
      | some v => rw [hv] at e1; rw [V.beq_eq _ _ e1]
    | succ i =>
      refine sameIn_sound rd hs (Nat.pred k) e.2 i hh (by simpa using hi) ?_ ?_ ?_
      · show i ≤ k - 1; omega
      · show rd.lo ≤ k - 1 - i; omega
      · show k - 1 - i ≤ rd.hi; omega

theorem allSame_mem {m : Nat} {vers : List (T O)} : ∀ {l : List Rd}, allSame m vers l = true → ∀ rd ∈ l, sameIn rd vers m = true
  | [], _, rd, h => by cases h
  | x :: l, e, rd, h => by
    change andB (sameIn x vers m) (allSame m vers l) = true at e
    rw [andB_eq, Bool.and_eq_true] at e
    rcases List.mem_cons.1 h with rfl | h
    · exact e.1
    · exact allSame_mem e.2 rd h

end GoVm

/- Regions that draw their order: the run in the order of the text, seen as a whole. -/
namespace GoVm
open Go (Value World Addr Obj MapEntry Program Operand Oper Op)

variable {P : Program} {m : SlotMap} {call : Caller} {ops : Array Oper} {k : Array Cls} {slots0 : T V} {val : Nat → V} {G N : Nat}

/-- How many hard operations stand ahead. -/
def cnt (k : Array Cls) (i : Nat) : Nat := ((List.range i).filter fun x => isHC (k.getD x .q)).length

theorem cnt_succ (k : Array Cls) (i : Nat) : cnt k (i + 1) = cnt k i + (if isHC (k.getD i .q) then 1 else 0) := by
  unfold cnt
  rw [List.range_succ, List.filter_append, List.length_append]
  congr 1
  simp only [List.filter_cons, List.filter_nil]
  split <;> rfl

/-- The whole run. -/
structure Run (P : Program) (m : SlotMap) (ops : Array Oper) (call : Caller) (k : Array Cls) (slots0 : T V) (val : Nat → V) (G N : Nat) (h0 : T O) (nx0 : Pos) (es : Nat → Env) (ds : Nat → DSt) : Prop where
  zero : ds 0 = ⟨[], slots0, h0, nx0, [], [h0], [], 0⟩
  step : ∀ i, i < ops.size → StepOk P m ops call k slots0 val G N i (es i) (ds i) (ds (i + 1))

variable {h0 : T O} {nx0 : Pos} {es : Nat → Env} {ds : Nat → DSt}

/-- What operation i does to the memory. -/
theorem Run.mem (R : Run P m ops call k slots0 val G N h0 nx0 es ds) {i : Nat} (hi : i < ops.size) :
    ∃ o it gi q d1, ops[i]? = some o ∧ opI P m { es i with only := some (namesOf ops o) } o.op = some it ∧ guardI m ops { es i with only := some (namesOf ops o) } o it = some gi ∧
      wantAll (unG gi).1 (ds i).stk (ds i).slots = some q ∧ D1 call i (k.getD i .q) q (unG gi).2 (ds i) (val i) d1 ∧ SameMem d1 (ds (i + 1)) := by
  obtain ⟨it, gi, q, d1, h⟩ := (R.step i hi).run _ (Array.getElem?_eq_getElem hi)
  exact ⟨_, it, gi, q, d1, Array.getElem?_eq_getElem hi, h⟩

theorem Run.hard (R : Run P m ops call k slots0 val G N h0 nx0 es ds) : ∀ i, i ≤ ops.size → (ds i).hard = cnt k i ∧ (ds i).vers.length = cnt k i + 1 ∧ (ds i).vers.head? = some (ds i).heap
  | 0, _ => by rw [R.zero]; exact ⟨rfl, rfl, rfl⟩
  | i + 1, hi => by
    obtain ⟨a1, a2, a3⟩ := R.hard i (by omega)
    obtain ⟨o, it, gi, q, d1, _, _, _, _, g, s1, s2, s3, s4, s5, s6⟩ := R.mem (i := i) (by omega)
    rw [cnt_succ, s1, s4, s6]
    generalize k.getD i .q = c at g
    generalize val i = v at g
    generalize (unG gi).2 = it2 at g
    cases g with
    | no hc => rw [hc]; exact ⟨a1, a2, a3⟩
    | p _ => exact ⟨a1, a2, a3⟩
    | f _ => exact ⟨a1, a2, a3⟩
    | r _ => split <;> exact ⟨a1, a2, a3⟩
    | noh => exact ⟨by show _ + 1 = _ + 1; rw [a1], by show (_ :: _).length = _; simp [a2, isHC], rfl⟩
    | h _ => exact ⟨by show _ + 1 = _ + 1; rw [a1], by show (_ :: _).length = _; simp [a2, isHC], rfl⟩

theorem Run.suf (R : Run P m ops call k slots0 val G N h0 nx0 es ds) (hm : CallMono call) {i : Nat} : ∀ j, i ≤ j → j ≤ ops.size →
    (∃ l, (ds j).vers = l ++ (ds i).vers) ∧ (∀ rd ∈ (ds i).rds, rd ∈ (ds j).rds) ∧ (ds i).next.num ≤ (ds j).next.num
  | j, hij, hj => by
    by_cases e : i = j
    · subst e; exact ⟨⟨[], rfl⟩, fun _ h => h, Nat.le_refl _⟩
    · cases j with
      | zero => omega
      | succ j =>
        obtain ⟨⟨l, a1⟩, a2, a3⟩ := R.suf hm (i := i) j (by omega) (by omega)
        obtain ⟨o, it, gi, q, d1, _, _, _, _, g, s1, s2, s3, s4, s5, s6⟩ := R.mem (i := j) (by omega)
        have hmo := g.mono hm
        rw [s2, s4, s5]
        refine ⟨?_, ?_, Nat.le_trans a3 hmo⟩
        · generalize k.getD j .q = c at g
          generalize val j = v at g
          generalize (unG gi).2 = it2 at g
          cases g with
          | no hc => exact ⟨l, a1⟩
          | p _ => exact ⟨l, a1⟩
          | f _ => exact ⟨l, a1⟩
          | r _ => split <;> exact ⟨l, a1⟩
          | noh => exact ⟨_ :: l, by show _ :: _ = _; rw [a1]; rfl⟩
          | h _ => exact ⟨_ :: l, by show _ :: _ = _; rw [a1]; rfl⟩
        · intro rd hrd
          have := a2 rd hrd
          generalize k.getD j .q = c at g
          generalize val j = v at g
          generalize (unG gi).2 = it2 at g
          cases g with
          | no hc => exact this
          | p _ => exact this
          | f _ => exact this
          | r _ =>
            split
            · exact this
            · exact List.mem_cons_of_mem _ this
          | noh => exact this
          | h _ => exact this

end GoVm

/- Regions that draw their order: what is pending in the run in the order of the text. -/
namespace GoVm
open Go (Value World Addr Obj MapEntry Program Operand Oper Op)

variable {P : Program} {m : SlotMap} {call : Caller} {ops : Array Oper} {k : Array Cls} {slots0 : T V} {val : Nat → V} {G N : Nat} {h0 : T O} {nx0 : Pos} {es : Nat → Env} {ds : Nat → DSt} {b : Array Nat}

theorem memN_eq (n : Nat) : ∀ l : List Nat, memN n l = true ↔ n ∈ l
  | [] => by simp [memN]
  | x :: l => by
    have ih := memN_eq n l
    change (Bool.rec (memN n l) true (Nat.beq n x) : Bool) = true ↔ _
    cases hb : Nat.beq n x with
    | true =>
      have : n = x := by simpa using hb
      simp [this]
    | false =>
      have : n ≠ x := fun e => by subst e; simp at hb
      simp only [List.mem_cons]
      rw [ih]
      exact ⟨.inr, fun h => h.resolve_left this⟩

theorem mem_restP (fl : List Nat) : ∀ (l : List (Nat × Pos × O)) (x : Nat × Pos × O), x ∈ restP fl l ↔ x ∈ l ∧ x.1 ∉ fl
  | [], x => by simp [restP]
  | y :: l, x => by
    simp only [restP]
    have ih := mem_restP fl l x
    split
    · rename_i hy
      rw [ih]
      constructor
      · exact fun h => ⟨List.mem_cons_of_mem _ h.1, h.2⟩
      · rintro ⟨h1, h2⟩
        rcases List.mem_cons.1 h1 with rfl | h1
        · exact absurd ((memN_eq _ _).1 hy) h2
        · exact ⟨h1, h2⟩
    · rename_i hy
      rw [List.mem_cons, ih, List.mem_cons]
      constructor
      · rintro (rfl | h)
        · exact ⟨.inl rfl, fun h => hy ((memN_eq _ _).2 h)⟩
        · exact ⟨.inr h.1, h.2⟩
      · rintro ⟨h1 | h1, h2⟩
        · exact .inl h1
        · exact .inr ⟨h1, h2⟩

theorem unG_guard {e : Env} {o : Oper} {it gi : I} (hg : guardI m ops e o it = some gi) (hi : opI P m e o.op = some it) : (unG gi).2 = it := by
  have hno : (unG it).2 = it := by
    cases it with
    | G c w i =>
      obtain ⟨c', _, h2⟩ := opI_C hi rfl
      rcases callI_C h2 rfl with ⟨_, _, _, _, h⟩ | ⟨_, _, _, _, _, _, h⟩ | ⟨_, _, _, _, _, _, _, h⟩ <;> cases h
    | _ => rfl
  unfold guardI at hg
  split at hg
  · cases hg; exact hno
  · split at hg
    · cases hg
    · split at hg
      · cases hg
      · cases hg
        exact hno

/-- A wanted operation that makes memory of values and is free. -/
def Flo (P : Program) (m : SlotMap) (ops : Array Oper) (k : Array Cls) (val : Nat → V) (es : Nat → Env) (ds : Nat → DSt) (f : Nat) (p : Pos) (ob : O) : Prop :=
  k.getD f .q = .f ∧ p = (ds f).next ∧ (ds (f + 1)).next = p.succ ∧ ∃ o fi, ops[f]? = some o ∧ opI P m { es f with only := some (namesOf ops o) } o.op = some (.F fi) ∧ evF fi (ds f).stk (ds f).slots p = some (val f, ob)

theorem Run.pend (R : Run P m ops call k slots0 val G N h0 nx0 es ds) (O : OrdOk ops b k) : ∀ i, i ≤ ops.size →
    (∀ x ∈ (ds i).pend, x.1 < i ∧ Flo P m ops k val es ds x.1 x.2.1 x.2.2 ∧ ∀ y, y < i → isHC (k.getD y .q) = true → befB b x.1 y = false) ∧
    (∀ f ob, f < i → Flo P m ops k val es ds f (ds f).next ob → (∀ y, y < i → isHC (k.getD y .q) = true → befB b f y = false) → (f, (ds f).next, ob) ∈ (ds i).pend)
  | 0, _ => by
    rw [R.zero]
    exact ⟨fun x hx => (by cases hx), fun f ob hf => by omega⟩
  | i + 1, hi => by
    obtain ⟨a1, a2⟩ := R.pend O i (by omega)
    obtain ⟨o, it, gi, q, d1, ho, hit, hgi, hwant, g, s1, s2, s3, s4, s5, s6⟩ := R.mem (i := i) (by omega)
    rw [unG_guard hgi hit] at g
    -- an operation that lays nothing and makes nothing
    have quiet : isHC (k.getD i .q) = false → (ds (i + 1)).pend = (ds i).pend → (∀ ob, ¬ Flo P m ops k val es ds i (ds i).next ob) →
        (∀ x ∈ (ds (i + 1)).pend, x.1 < i + 1 ∧ Flo P m ops k val es ds x.1 x.2.1 x.2.2 ∧ ∀ y, y < i + 1 → isHC (k.getD y .q) = true → befB b x.1 y = false) ∧
        (∀ f ob, f < i + 1 → Flo P m ops k val es ds f (ds f).next ob → (∀ y, y < i + 1 → isHC (k.getD y .q) = true → befB b f y = false) → (f, (ds f).next, ob) ∈ (ds (i + 1)).pend) := by
      intro hc hp hno
      rw [hp]
      refine ⟨fun x hx => ?_, fun f ob hf hfl hy => ?_⟩
      · obtain ⟨h1, h2, h3⟩ := a1 x hx
        refine ⟨by omega, h2, fun y hy hh => ?_⟩
        by_cases e : y = i
        · subst e; rw [hc] at hh; cases hh
        · exact h3 y (by omega) hh
      · by_cases e : f = i
        · subst e; exact absurd hfl (hno ob)
        · exact a2 f ob (by omega) hfl fun y h1 h2 => hy y (by omega) h2
    -- an operation that lays some
    have lays : ∀ fl, k.getD i .q = .h fl → (ds (i + 1)).pend = restP fl (ds i).pend →
        (∀ x ∈ (ds (i + 1)).pend, x.1 < i + 1 ∧ Flo P m ops k val es ds x.1 x.2.1 x.2.2 ∧ ∀ y, y < i + 1 → isHC (k.getD y .q) = true → befB b x.1 y = false) ∧
        (∀ f ob, f < i + 1 → Flo P m ops k val es ds f (ds f).next ob → (∀ y, y < i + 1 → isHC (k.getD y .q) = true → befB b f y = false) → (f, (ds f).next, ob) ∈ (ds (i + 1)).pend) := by
      intro fl hc hp
      rw [hp]
      have hH : isHC (k.getD i .q) = true := by rw [hc]; rfl
      refine ⟨fun x hx => ?_, fun f ob hf hfl hy => ?_⟩
      · rw [mem_restP] at hx
        obtain ⟨h1, h2, h3⟩ := a1 x hx.1
        refine ⟨by omega, h2, fun y hy hh => ?_⟩
        by_cases e : y = i
        · subst e
          have := O.fl y fl x.1 (by omega) (by omega) hc (by rw [h2.1]; rfl)
          cases hb : befB b x.1 y with
          | false => rfl
          | true => exact absurd (this.2 hb) hx.2
        · exact h3 y (by omega) hh
      · have hne : f ≠ i := fun e => by subst e; rw [hfl.1] at hc; cases hc
        rw [mem_restP]
        refine ⟨a2 f ob (by omega) hfl fun y h1 h2 => hy y (by omega) h2, fun hm => ?_⟩
        have := (O.fl i fl f (by omega) (by omega) hc (by rw [hfl.1]; rfl)).1 hm
        rw [hy i (by omega) hH] at this; cases this
    have noF : k.getD i .q ≠ .f → ∀ ob, ¬ Flo P m ops k val es ds i (ds i).next ob := fun h ob hf => h hf.1
    cases hc : k.getD i .q with
    | q =>
      rw [hc] at g
      refine quiet (by rw [hc]; rfl) ?_ (noF (by rw [hc]; simp))
      rw [s3]
      generalize val i = v at g
      cases g <;> rfl
    | r lo hi' =>
      rw [hc] at g
      refine quiet (by rw [hc]; rfl) ?_ (noF (by rw [hc]; simp))
      rw [s3]
      generalize val i = v at g
      cases g with
      | no _ => rfl
      | r _ => split <;> rfl
    | h fl =>
      rw [hc] at g
      refine lays fl hc ?_
      rw [s3]
      generalize val i = v at g
      cases g with
      | no h => cases h
      | noh => rfl
      | h _ => rfl
    | f =>
      rw [hc] at g
      generalize hv : val i = v at g
      cases g with
      | no _ =>
        refine quiet (by rw [hc]; rfl) s3 (fun ob hf => ?_)
        have h1 := hf.2.2.1
        rw [s2] at h1
        have := congrArg Pos.num h1
        rw [Pos.num_succ] at this; omega
      | f hev =>
        rename_i fi ob
        have hfl : Flo P m ops k val es ds i (ds i).next ob := ⟨hc, rfl, s2, o, fi, ho, hit, by rw [hv]; exact hev⟩
        have hself : befB b i i = false := by
          cases hb : befB b i i with
          | false => rfl
          | true => exact absurd (O.lt i i (by omega) hb) (by omega)
        rw [s3]
        refine ⟨fun x hx => ?_, fun f ob' hf hfl' hy => ?_⟩
        · rcases List.mem_cons.1 hx with rfl | hx
          · refine ⟨by show i < i + 1; omega, hfl, fun y hy hh => ?_⟩
            by_cases e : y = i
            · subst e; rw [hc] at hh; cases hh
            · cases hb : befB b i y with
              | false => rfl
              | true => exact absurd (O.lt y i (by omega) hb) (by omega)
          · obtain ⟨h1, h2, h3⟩ := a1 x hx
            refine ⟨by omega, h2, fun y hy hh => ?_⟩
            by_cases e : y = i
            · subst e; rw [hc] at hh; cases hh
            · exact h3 y (by omega) hh
        · by_cases e : f = i
          · subst e
            have : ob' = ob := by
              obtain ⟨_, _, _, o', fi', ho', hit', hev'⟩ := hfl'
              rw [ho] at ho'; cases ho'
              rw [hit] at hit'; cases hit'
              rw [hv, hev] at hev'; cases hev'; rfl
            subst this
            exact List.mem_cons_self
          · exact List.mem_cons_of_mem _ (a2 f ob' (by omega) hfl' fun y h1 h2 => hy y (by omega) h2)

end GoVm

/- Regions that draw their order: a law that any order keeps. -/
namespace GoVm
open Go (Value World Program Oper Op Exit Region.ready wpOp wpAny)

variable {P : Program} {ops : Array Oper} {k : Array Cls} {b : Array Nat} {Q : Exit → Go.Act → World → Prop}

def left (n : Nat) (l : Array Bool) : Nat := ((List.range n).filter fun i => !(l.getD i true)).length

theorem left_set {n : Nat} {l : Array Bool} {j : Nat} (hj : j < n) (hl : l.getD j true = false) : left n (l.setIfInBounds j true) + 1 = left n l := by
  have hlt : j < l.size := by
    rcases Nat.lt_or_ge j l.size with h | h
    · exact h
    · simp [Array.getD_eq_getD_getElem?, Array.getElem?_eq_none h] at hl
  have key : ∀ m, left m (l.setIfInBounds j true) + (if j < m then 1 else 0) = left m l := by
    intro m
    induction m with
    | zero => simp [left]
    | succ m ih =>
      unfold left at ih ⊢
      rw [List.range_succ, List.filter_append, List.filter_append, List.length_append, List.length_append]
      by_cases e : j = m
      · subst e
        have h1 : (l.setIfInBounds j true).getD j true = true := by simp [Array.getD_eq_getD_getElem?, hlt]
        rw [if_neg (Nat.lt_irrefl _)] at ih
        simp only [List.filter_cons, List.filter_nil, h1, hl, Bool.not_true, Bool.not_false, Bool.false_eq_true, if_false, if_true, List.length_nil, List.length_singleton]
        rw [if_pos (Nat.lt_succ_self _)]
        omega
      · have h1 : (l.setIfInBounds j true).getD m true = l.getD m true := Go.getD_set_ne true e
        simp only [List.filter_cons, List.filter_nil, h1]
        by_cases e2 : j < m
        · rw [if_pos e2] at ih
          rw [if_pos (show j < m + 1 by omega)]
          omega
        · rw [if_neg e2] at ih
          rw [if_neg (show ¬ j < m + 1 by omega)]
          omega
  have := key n
  rw [if_pos hj] at this
  exact this

theorem any_sound (O : OrdOk ops b k) (Inv : (Nat → Prop) → Go.Act → World → Prop) (hext : ∀ D D' a w, (∀ i, i < ops.size → (D i ↔ D' i)) → Inv D a w → Inv D' a w)
    (step : ∀ D a w j, Inv D a w → j < ops.size → ¬ D j → (∀ o, ops[j]? = some o → ∀ e ∈ o.after, Go.Region.binds .any e = true → D e.on) → wpOp P ops Q j (Inv fun i => D i ∨ i = j) a w)
    (fin : ∀ D a w, (∀ i, i < ops.size → D i) → Inv D a w → Q .normal a w) : ∀ (fuel : Nat) (l : Array Bool) (a : Go.Act) (w : World), l.size = ops.size → left ops.size l ≤ fuel → Inv (fun i => l.getD i false = true) a w → wpAny P .any ops Q fuel l a w := by
  have gd : ∀ (l : Array Bool) i, i < l.size → (l.getD i true = l.getD i false) := fun l i h => by simp [Array.getD_eq_getD_getElem?, h]
  have done : ∀ (l : Array Bool) a w, l.size = ops.size → Region.ready .any ops l = [] → Inv (fun i => l.getD i false = true) a w → Q .normal a w := by
    intro l a w hs hr hI
    refine fin _ a w ?_ hI
    intro i
    induction i using Nat.strongRecOn with
    | _ i ih =>
      intro hi
      cases hl : l.getD i false with
      | true => rfl
      | false =>
        have : i ∈ Region.ready .any ops l := by
          rw [Go.mem_ready]
          refine ⟨by rw [gd l i (by omega)]; exact hl, _, Array.getElem?_eq_getElem hi, fun e he hb => ?_⟩
          have hlt := (O.edge i _ (Array.getElem?_eq_getElem hi) e (by simpa using he) hb).1
          exact ih e.on hlt (by omega)
        rw [hr] at this; cases this
  intro fuel
  induction fuel with
  | zero =>
    intro l a w hs hl hI
    have hr : Region.ready .any ops l = [] := by
      cases h : Region.ready .any ops l with
      | nil => rfl
      | cons j r =>
        have hm : j ∈ Region.ready .any ops l := by rw [h]; exact List.mem_cons_self
        rw [Go.mem_ready] at hm
        obtain ⟨h0, o, ho, _⟩ := hm
        have := left_set (n := ops.size) (Array.getElem?_eq_some_iff.1 ho).1 h0
        omega
    exact ⟨hr, done l a w hs hr hI⟩
  | succ fuel ih =>
    intro l a w hs hl hI
    refine ⟨fun hr => done l a w hs hr hI, fun j hj => ?_⟩
    rw [Go.mem_ready] at hj
    obtain ⟨h0, o, ho, hall⟩ := hj
    have hjn : j < ops.size := (Array.getElem?_eq_some_iff.1 ho).1
    refine Go.wpOp_mono (fun a' w' hI' => ih _ a' w' (by simpa using hs) ?_ ?_) (step _ a w j hI hjn (by rw [← gd l j (by omega), h0]; simp) (fun o' ho' e he hb => by rw [ho] at ho'; cases ho'; exact hall e he hb))
    · have := left_set (n := ops.size) hjn h0
      omega
    · refine hext _ _ a' w' (fun i hi => ?_) hI'
      by_cases e : i = j
      · subst e
        simp [Array.getD_eq_getD_getElem?, hs, hi]
      · rw [Go.getD_set_ne false (Ne.symm e)]
        simp [e]

end GoVm

/- Regions that draw their order: operands in any order. -/
namespace GoVm
open Go (Value World Program Oper Op Exit)

variable {P : Program} {ρ : Nat → Int} {m : SlotMap} {φ : Phi} {stk : List V} {slots : T V} {a : Go.Act} {e : Env}

theorem er_of {X : Nat → V → Prop} {names : List Nat} (hx : IX m e stk slots X) (hv : ∀ t v, t ∈ names → X t v → VR P ρ φ v (a.tmps.getD t Go.undef))
    (gl : ∀ g, g < e.G → ∃ q, φ (Pos.ofNat g) = some q ∧ q.B = g ∧ q.d = 0) : ER P ρ m { e with only := some names } φ stk slots a := by
  refine ⟨hx.len, fun t l hl => ?_, gl⟩
  simp only [elOf] at hl
  split at hl
  · cases hl
  · rename_i hh
    have ht : t ∈ names := by simpa [Env.hid] using hh
    split at hl
    · rename_i y l' hf
      cases hl
      have hm := List.mem_of_find?_eq_some hf
      have ht' := List.find?_some hf
      simp at ht'
      obtain ⟨h1, h2⟩ := hx.lr _ hm
      rw [ht'] at h2
      exact ⟨h1, fun v h3 => hv t v ht (h2 v h3)⟩
    · split at hl
      · cases hl
      · simp only [Option.map_eq_some_iff] at hl
        obtain ⟨p, hp, rfl⟩ := hl
        exact ⟨fun i hi => (by cases hi), fun v h3 => hv t v ht (hx.sr t p v hp h3)⟩

end GoVm

/- Regions that draw their order: what every order keeps. -/
namespace GoVm
open Go (Value World Program Oper Op Exit Obj)

/-- What is fixed while a region runs. -/
structure Ctx where
  P : Program
  ρ : Nat → Int
  m : SlotMap
  ops : Array Oper
  call : Caller
  k : Array Cls
  b : Array Nat
  slots0 : T V
  val : Nat → V
  N : Nat
  h0 : T O
  nx0 : Pos
  es : Nat → Env
  ds : Nat → DSt
  φ0 : Phi
  a0 : Go.Act
  w0 : World

namespace Ctx
variable (C : Ctx)

/-- What is known of it. -/
structure Ok : Prop where
  hI : Inj C.m
  O : OrdOk C.ops C.b C.k
  R : Run C.P C.m C.ops C.call C.k C.slots0 C.val C.P.globals.size C.N C.h0 C.nx0 C.es C.ds
  hc : CallOk C.P C.ρ C.call
  hm : CallMono C.call
  all : allSame (C.ds C.ops.size).hard (C.ds C.ops.size).vers (C.ds C.ops.size).rds = true
  beg : Beg C.P C.ρ C.m C.N C.φ0 C.slots0 C.h0 C.nx0 C.a0 C.w0

/-- Operation f makes the object ob, which is numbered p, and is free. -/
def flo (f : Nat) (p : Pos) (ob : O) : Prop := Flo C.P C.m C.ops C.k C.val C.es C.ds f p ob

/-- The value of operation i. -/
def holds (blk : Nat → Blk) (φ : Phi) (i : Nat) (c : Value) : Prop :=
  ∀ φ' : Phi, PhiLe φ φ' → (∀ p ob, C.flo i p ob → φ' p = some (blk i)) → VR C.P C.ρ φ' (C.val i) c

/-- Is the free operation f taken up: is a hard operation behind it done? -/
def reg (D : Nat → Prop) (f : Nat) : Prop := ∃ y, y < C.ops.size ∧ D y ∧ isHC (C.k.getD y .q) = true ∧ befB C.b f y = true

/-- A free row: the operation made it, and nothing stands for it yet. -/
def Row (φ : Phi) (w : World) (q : Blk) (ob : O) : Prop :=
  ∃ vs cs t, ob = .cells vs t true true ∧ VRc C.P C.ρ φ vs cs.toList ∧ w.heap[q.B]? = some (Obj.cells cs t (0, 0)) ∧ q = ⟨q.B, 0, cs.size, t⟩

structure Inv (D : Nat → Prop) (φ : Phi) (blk : Nat → Blk) (s : Nat) (a : Go.Act) (w : World) : Prop where
  clo : ∀ i j, j < C.ops.size → D j → befB C.b i j = true → D i
  sle : s ≤ C.ops.size
  at_ : ∀ i, i < C.ops.size → isHC (C.k.getD i .q) = true → (D i ↔ i < s)
  rel : Rel C.P C.ρ φ (C.ds s).heap (C.ds s).next w
  ext : Ext C.h0 C.φ0 C.w0 (C.ds s).heap φ w
  grow : Grow C.φ0 C.nx0 φ (C.ds s).next
  sz : C.N ≤ a.tmps.size
  defers : a.defers = C.a0.defers
  val : ∀ i t, i < C.ops.size → D i → dstAt C.ops i = some t → (∀ x, x < C.ops.size → D x → dstAt C.ops x = some t → x ≤ i) → C.holds blk φ i (a.tmps.getD t Go.undef)
  old : ∀ t, (∀ x, x < C.ops.size → D x → dstAt C.ops x ≠ some t) → a.tmps.getD t Go.undef = C.a0.tmps.getD t Go.undef
  none : ∀ f p ob, f < C.ops.size → C.flo f p ob → ¬ C.reg D f → φ p = none
  row : ∀ f p ob, f < C.ops.size → C.flo f p ob → ¬ C.reg D f → D f → C.Row φ w (blk f) ob ∧ C.w0.heap.size ≤ (blk f).B ∧ ∀ x q, φ x = some q → q.B ≠ (blk f).B
  regd : ∀ f p ob, f < C.ops.size → C.flo f p ob → C.reg D f → φ p = some (blk f)
  diff : ∀ f g p q ob ob', f < C.ops.size → g < C.ops.size → C.flo f p ob → C.flo g q ob' → D f → D g → ¬ C.reg D f → ¬ C.reg D g → f ≠ g → (blk f).B ≠ (blk g).B

end Ctx

theorem Flo.eq {P : Program} {m : SlotMap} {ops : Array Oper} {k : Array Cls} {val : Nat → V} {es : Nat → Env} {ds : Nat → DSt} {f : Nat} {p q : Pos} {ob ob' : O}
    (h : Flo P m ops k val es ds f p ob) (g : Flo P m ops k val es ds f q ob') : p = q ∧ ob = ob' := by
  obtain ⟨_, e1, _, o, fi, ho, hit, hev⟩ := h
  obtain ⟨_, e2, _, o', fi', ho', hit', hev'⟩ := g
  rw [ho] at ho'; cases ho'
  rw [hit] at hit'; cases hit'
  have e3 : p = q := e1.trans e2.symm
  subst e3
  rw [hev] at hev'; cases hev'
  exact ⟨rfl, rfl⟩

/-- Laying what is pending. -/
theorem lay_sound {P : Program} {ρ : Nat → Int} {h0 : T O} {φ0 : Phi} {w0 w : World} {nx0 nx : Pos} (blk : Nat → Blk) (fl : List Nat) : ∀ (l : List (Nat × Pos × O)) (h : T O) (φ : Phi),
    Rel P ρ φ h nx w → Ext h0 φ0 w0 h φ w → Grow φ0 nx0 φ nx →
    (∀ x ∈ l, x.1 ∈ fl → φ x.2.1 = none ∧ x.2.1.num < nx.num ∧ nx0.num ≤ x.2.1.num ∧ w0.heap.size ≤ (blk x.1).B ∧ (∀ a q, φ a = some q → q.B ≠ (blk x.1).B) ∧
      ∃ vs cs t, x.2.2 = .cells vs t true true ∧ VRc P ρ φ vs cs.toList ∧ w.heap[(blk x.1).B]? = some (Obj.cells cs t (0, 0)) ∧ blk x.1 = ⟨(blk x.1).B, 0, cs.size, t⟩) →
    l.Pairwise (fun x y => x.1 ∈ fl → y.1 ∈ fl → x.2.1 ≠ y.2.1 ∧ (blk x.1).B ≠ (blk y.1).B) →
    ∃ φ1, Rel P ρ φ1 (layP fl l h) nx w ∧ Ext h0 φ0 w0 (layP fl l h) φ1 w ∧ Grow φ0 nx0 φ1 nx ∧ PhiLe φ φ1 ∧ (∀ x ∈ l, x.1 ∈ fl → φ1 x.2.1 = some (blk x.1)) ∧
      ∀ p q, φ1 p = some q → φ p = some q ∨ ∃ x ∈ l, x.1 ∈ fl ∧ p = x.2.1 ∧ q = blk x.1
  | [], h, φ, r, e, g, _, _ => ⟨φ, r, e, g, .refl φ, (fun x hx => by cases hx), fun p q hp => .inl hp⟩
  | x :: l, h, φ, r, e, g, hl, hp => by
    by_cases hm : x.1 ∈ fl
    · have hm' := (memN_eq x.1 fl).2 hm
      obtain ⟨hn, hlt, hge, hB0, hne, vs, cs, t, hob, hv, hw, hq⟩ := hl x List.mem_cons_self hm
      have hB : (blk x.1).B < w.heap.size := (Array.getElem?_eq_some_iff.1 hw).1
      have hle : PhiLe φ (φ.add x.2.1 (blk x.1)) := by
        intro a q' ha
        unfold Phi.add
        split
        · rename_i e'; subst e'; rw [hn] at ha; cases ha
        · exact ha
      have hobj : ObjR P ρ (φ.add x.2.1 (blk x.1)) w (blk x.1) x.2.2 := by
        rw [hob]
        have := Makes.obj (P := P) (ρ := ρ) hle hv hw
        rw [← hq] at this
        exact this
      have r1 := r.lay hn hlt hB (fun a q' ha => hne a q' ha) hobj
      have e1 := e.lay (o := x.2.2) hn hB0
      have g1 : Grow φ0 nx0 (φ.add x.2.1 (blk x.1)) nx := ⟨g.1, fun a h1 h2 => by
        unfold Phi.add at h2
        split at h2
        · rename_i e'; subst e'; exact hge
        · exact g.2 a h1 h2⟩
      obtain ⟨hp1, hp2⟩ := List.pairwise_cons.1 hp
      obtain ⟨φ1, r2, e2, g2, le2, a2, b2⟩ := lay_sound blk fl l (h.put x.2.2 x.2.1) _ r1 e1 g1 (fun y hy hym => by
        obtain ⟨hn', hlt', hge', hB0', hne', vs', cs', t', hob', hv', hw', hq'⟩ := hl y (List.mem_cons_of_mem _ hy) hym
        obtain ⟨d1, d2⟩ := hp1 y hy hm hym
        refine ⟨by unfold Phi.add; rw [if_neg (Ne.symm d1)]; exact hn', hlt', hge', hB0', fun a q ha => ?_, vs', cs', t', hob', hv'.mono hle, hw', hq'⟩
        unfold Phi.add at ha
        split at ha
        · cases ha; exact d2
        · exact hne' a q ha) hp2
      have hlay : layP fl (x :: l) h = layP fl l (h.put x.2.2 x.2.1) := by simp only [layP, hm', if_true]
      rw [hlay]
      refine ⟨φ1, r2, e2, g2, hle.trans le2, fun y hy hym => ?_, fun p q hpq => ?_⟩
      · rcases List.mem_cons.1 hy with rfl | hy
        · exact le2 _ _ (by simp [Phi.add])
        · exact a2 y hy hym
      · rcases b2 p q hpq with h1 | ⟨y, hy, hym, e3, e4⟩
        · unfold Phi.add at h1
          split at h1
          · rename_i e3; cases h1; exact .inr ⟨x, List.mem_cons_self, hm, e3, rfl⟩
          · exact .inl h1
        · exact .inr ⟨y, List.mem_cons_of_mem _ hy, hym, e3, e4⟩
    · have hm' : memN x.1 fl = false := by
        cases hb : memN x.1 fl with
        | false => rfl
        | true => exact absurd ((memN_eq _ _).1 hb) hm
      have hlay : layP fl (x :: l) h = layP fl l h := by simp only [layP, hm', Bool.false_eq_true, if_false]
      rw [hlay]
      obtain ⟨φ1, r2, e2, g2, le2, a2, b2⟩ := lay_sound blk fl l h φ r e g (fun y hy hym => hl y (List.mem_cons_of_mem _ hy) hym) (List.pairwise_cons.1 hp).2
      refine ⟨φ1, r2, e2, g2, le2, fun y hy hym => ?_, fun p q hpq => ?_⟩
      · rcases List.mem_cons.1 hy with rfl | hy
        · exact absurd hym hm
        · exact a2 y hy hym
      · rcases b2 p q hpq with h1 | ⟨y, hy, hym, e3, e4⟩
        · exact .inl h1
        · exact .inr ⟨y, List.mem_cons_of_mem _ hy, hym, e3, e4⟩

theorem layAll_layP (fl : List Nat) : ∀ (l : List (Nat × Pos × O)) (h : T O), (∀ x ∈ l, x.1 ∈ fl) → layAll l h = layP fl l h
  | [], h, _ => rfl
  | x :: l, h, hl => by
    have hm := (memN_eq x.1 fl).2 (hl x List.mem_cons_self)
    change T.setK x.2.2 x.2.1 h (layAll l) = _
    rw [T.setK_eq, layAll_layP fl l _ (fun y hy => hl y (List.mem_cons_of_mem _ hy))]
    simp only [layP, hm, if_true]

/-- A world in which nothing older has turned. -/
theorem Rel.wider {P : Program} {ρ : Nat → Int} {φ : Phi} {h : T O} {nx : Pos} {w w' : World} (r : Rel P ρ φ h nx w) (hs : w.heap.size ≤ w'.heap.size) (hk : ∀ B, B < w.heap.size → w'.heap[B]? = w.heap[B]?) : Rel P ρ φ h nx w' :=
  ⟨fun a q ha => let ⟨o, h1, h2⟩ := r.obj a q ha; ⟨o, h1, h2.mono (.refl φ) (hk _ (r.bnd a q ha))⟩, r.low, fun a q ha => Nat.lt_of_lt_of_le (r.bnd a q ha) hs, r.inj⟩

theorem Ext.wider (h : T O) (φ : Phi) {w w' : World} (hs : w.heap.size ≤ w'.heap.size) (hk : ∀ B, B < w.heap.size → w'.heap[B]? = w.heap[B]?) (ht : w'.tape = w.tape) (hos : w'.os = w.os) (hout : w'.output = w.output) : Ext h φ w h φ w' :=
  ⟨.refl φ, hs, fun B hB _ => hk B hB, fun a q o' _ h1 h2 => ⟨o', h1, h2⟩, (fun a q h1 h2 => by rw [h1] at h2; cases h2), ht, hos, hout⟩

end GoVm

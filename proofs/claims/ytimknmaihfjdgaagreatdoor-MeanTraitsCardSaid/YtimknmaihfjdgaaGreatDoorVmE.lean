/- One operation of a region in the virtual machine does what the model's operation does, calls among them. -/
import Derived.Test.YtimknmaihfjdgaaGreatDoorVmD
import Derived.Control
import Derived.Calls
namespace GoVm
open Go (Value World Addr Obj MapEntry Program Operand Oper Op IntKind BinOp Sem Result run_underlying Exit LetsOut Calls)

variable {P : Program} {ρ : Nat → Int} {φ : Phi} {m : SlotMap} {e : Env} {stk : List V} {slots : T V} {a : Go.Act} {h : T O} {nx : Pos} {w : World} {call : Caller}

/-- A call of a function gives what R says. -/
def Invokes (P : Program) (f : Nat) (args : Array Value) (w : World) (R : Value → World → Prop) : Prop :=
  ((Go.callFunc f args).run P w = .ok (.enter f args) w ∧ Calls P f args w fun
    | .returned v, w' => R v w'
    | _, _ => False) ∨
  ∃ c w', (Go.callFunc f args).run P w = .ok (.value c) w' ∧ R c w'

/-- The package-level variables lie where they should. -/
def Gok (P : Program) (φ : Phi) : Prop := ∀ g, g < P.globals.size → ∃ q, φ (Pos.ofNat g) = some q ∧ q.B = g ∧ q.d = 0

theorem Gok.mono {φ φ' : Phi} (h : Gok P φ) (hφ : PhiLe φ φ') : Gok P φ' := fun g hg => let ⟨q, h1, h2⟩ := h g hg; ⟨q, hφ _ _ h1, h2⟩

/-- What a call leaves. -/
def After (P : Program) (ρ : Nat → Int) (φ : Phi) (h : T O) (nx : Pos) (w : World) (v : V) (h' : T O) (nx' : Pos) (c : Value) (w' : World) : Prop :=
  ∃ φ', VR P ρ φ' v c ∧ Rel P ρ φ' h' nx' w' ∧ Ext h φ w h' φ' w' ∧ Grow φ nx φ' nx'

/-- The machine's calls are right. -/
def CallOk (P : Program) (ρ : Nat → Int) (call : Caller) : Prop :=
  ∀ f vs h nx v h' nx', call f vs h nx = .ok v h' nx' → ∀ φ w (args : Array Value), VRs P ρ φ vs args.toList → Rel P ρ φ h nx w → Gok P φ →
    Invokes P f args w (After P ρ φ h nx w v h' nx')

/-- An operation of which the results are as R says. -/
def Op1 (P : Program) (a : Go.Act) (o : Oper) (w : World) (R : Value → World → Prop) : Prop :=
  ∀ (K : Go.Act → World → Prop) (Q : Exit → Go.Act → World → Prop), (∀ c w', R c w' → K (a.put o.dst c) w') → o.wp P a w K Q

theorem Yields.op {o : Oper} {c : Value} {w' : World} {R : Value → World → Prop} (y : Yields P a o w c w') (hR : R c w') : Op1 P a o w R := by
  intro K Q hK
  unfold Go.Oper.wp
  rcases y with y | ⟨y, rfl⟩
  · rw [y]; exact hK _ _ hR
  · rw [y]; exact hK _ _ hR

theorem Does.op {o : Oper} {v : V} {h' : T O} {nx' : Pos} (d : Does P ρ φ h a o w nx v h' nx') : Op1 P a o w (After P ρ φ h nx w v h' nx') := by
  obtain ⟨c, φ', w', y, h1, h2, h3, h4⟩ := d
  exact y.op ⟨φ', h1, h2, h3, h4⟩

theorem Invokes.op {o : Oper} {f : Nat} {args : Array Value} {R : Value → World → Prop} (i : Invokes P f args w R) (he : (Go.execOp a.eval o).run P w = (Go.callFunc f args).run P w) : Op1 P a o w R := by
  intro K Q hK
  unfold Go.Oper.wp
  rw [he]
  rcases i with ⟨h1, h2⟩ | ⟨c, w', h1, h2⟩
  · rw [h1, Go.Oper.upon_enter]
    refine h2.mono ?_
    intro e w' hh
    cases e with
    | returned v => exact hK _ _ hh
    | panicked c => exact hh.elim
    | outgrown => exact hh.elim
  · rw [h1]; exact hK _ _ h2

theorem c_cf (hc : CallOk P ρ call) (hE : ER P ρ m e φ stk slots a) (r : Rel P ρ φ h nx w) (hG : Gok P φ) {o : Oper} {f : Nat} {args : Array Operand} {ts : Array Nat} (ho : o.op = .call ⟨.value (.func f), args, ts⟩)
    {ls : List GoVm.Loc} (hls : locsOf m e args = some ls) {v : V} {h' : T O} {nx' : Pos} (hv : cCf call f ls stk slots h nx = .ok v h' nx') : Op1 P a o w (After P ρ φ h nx w v h' nx') := by
  obtain ⟨vs, h1, h2⟩ := wo_eq hv
  have hvs := hE.los args.toList hls h1
  have := hc f vs h nx v h' nx' h2 φ w (args.map a.eval) (by simpa using hvs) r hG
  refine this.op ?_
  simp [Go.execOp, ho, Go.resolve, Go.Deferred.ofValue, Go.Act.eval, Go.invoke]

theorem c_cv (hc : CallOk P ρ call) (hE : ER P ρ m e φ stk slots a) (r : Rel P ρ φ h nx w) (hG : Gok P φ) {o : Oper} {x : Operand} {args : Array Operand} {ts : Array Nat} (ho : o.op = .call ⟨.value x, args, ts⟩)
    {lx : GoVm.Loc} (hx : locOf m e x = some lx) {ls : List GoVm.Loc} (hls : locsOf m e args = some ls) {v : V} {h' : T O} {nx' : Pos} (hv : cCv call lx ls stk slots h nx = .ok v h' nx') : Op1 P a o w (After P ρ φ h nx w v h' nx') := by
  obtain ⟨wr, h1, h2⟩ := wo_eq hv
  subst h2
  obtain ⟨u, h3, h4⟩ := ob_eq h1
  obtain ⟨vs, h5, h6⟩ := ob_eq h4
  obtain ⟨f, c1, c2, rfl, h7⟩ := vFn_eq h6
  simp only [Option.some.injEq] at h7
  have hu := hE.lo hx h3
  have hvs := hE.los args.toList hls h5
  simp only [VR] at hu
  obtain ⟨x1, x2, hu, hx1, hx2⟩ := hu
  have := hc f _ h nx v h' nx' h7 φ w (x1 ++ args.map a.eval ++ x2) (by
    simp only [Array.toList_append, Array.toList_map, List.append_assoc]
    exact hx1.append (hvs.append hx2)) r hG
  refine this.op ?_
  simp [Go.execOp, ho, Go.resolve, Go.Deferred.ofValue, hu, Go.invoke]

theorem pickCand_mem {t : Nat} : ∀ {l : List (Nat × Nat)} {f : Nat}, pickCand t l = some f → (t, f) ∈ l
  | [], f, h => by cases h
  | c :: l, f, h => by
    change Bool.rec (pickCand t l) (some c.2) (Nat.beq t c.1) = some f at h
    cases hb : Nat.beq t c.1 with
    | true =>
      rw [hb] at h; cases h
      have : t = c.1 := by simpa using hb
      subst this
      exact List.mem_cons_self
    | false => rw [hb] at h; exact List.mem_cons_of_mem _ (pickCand_mem h)

theorem methCands_sound {name : String} {t f : Nat} (hm : (t, f) ∈ methCands P name) (v : Value) (fuel : Nat) : (Go.method (fuel + 1) t v name).run P w = .ok (f, v) w := by
  unfold methCands at hm
  simp only [List.mem_filterMap, List.mem_range, Option.bind_eq_bind, Option.bind_eq_some_iff] at hm
  obtain ⟨t', _, i, hi, hh⟩ := hm
  obtain ⟨d, hd, hh⟩ := hh
  cases d <;> try (cases hh; done)
  rename_i el
  simp only [Option.bind_eq_some_iff] at hh
  obtain ⟨mt, hmt, hh⟩ := hh
  obtain ⟨⟨f', b⟩, hf, hh⟩ := hh
  cases b <;> try (cases hh; done)
  simp only at hh
  split at hh
  · rename_i hp
    simp only [Option.some.injEq, Prod.mk.injEq] at hh
    obtain ⟨rfl, rfl⟩ := hh
    have hpath : mt.path = #[] := by simpa using hp
    simp [Go.method, run_typeInfo hi, hmt, hpath, Go.follow, hf, Go.receiverAt, run_underlying hd, Go.Place.get]
  · cases hh

theorem c_iv (hc : CallOk P ρ call) (hE : ER P ρ m e φ stk slots a) (r : Rel P ρ φ h nx w) (hG : Gok P φ) {o : Oper} {x : Operand} {name : String} {args : Array Operand} {ts : Array Nat} (ho : o.op = .call ⟨.invoke x name, args, ts⟩)
    {lx : GoVm.Loc} (hx : locOf m e x = some lx) {ls : List GoVm.Loc} (hls : locsOf m e args = some ls) {v : V} {h' : T O} {nx' : Pos} (hv : cIv call (methCands P name) lx ls stk slots h nx = .ok v h' nx') :
    Op1 P a o w (After P ρ φ h nx w v h' nx') := by
  obtain ⟨wr, h1, h2⟩ := wo_eq hv
  subst h2
  obtain ⟨u, h3, h4⟩ := ob_eq h1
  obtain ⟨vs, h5, h6⟩ := ob_eq h4
  obtain ⟨_, h7⟩ | ⟨t, rv, rfl, h7⟩ := vIfc_eq h6
  · cases h7
  obtain ⟨f, h8, h9⟩ := ob_eq h7
  simp only [Option.some.injEq] at h9
  have hu := hE.lo hx h3
  have hvs := hE.los args.toList hls h5
  simp only [VR] at hu
  obtain ⟨x1, hu, hx1⟩ := hu
  have := hc f _ h nx v h' nx' h9 φ w (#[x1] ++ args.map a.eval) (by
    simp only [Array.toList_append, Array.toList_map]
    exact VRs.cons hx1 hvs) r hG
  refine this.op ?_
  have hme := methCands_sound (w := w) (pickCand_mem h8) x1 (P.types.size + Go.Made.depth - 1)
  have hfu : P.types.size + Go.Made.depth - 1 + 1 = P.types.size + Go.Made.depth := by
    have : 0 < Go.Made.depth := by decide
    omega
  rw [hfu] at hme
  have h0 : (#[Value.iface t x1] ++ Array.map a.eval args)[0]? = some (Value.iface t x1) := by rw [Array.getElem?_append_left (by simp)]; rfl
  have h1 : (Array.map a.eval args).extract 0 args.size = Array.map a.eval args := Array.extract_eq_self_of_le (by simp)
  simp [Go.execOp, ho, Go.resolve, hu, Go.invoke, Go.callMethod, hme, h0, h1]

def noCG : I → Bool
  | .C _ | .G _ _ _ => false
  | _ => true

theorem opI_C {op : Op} {i : I} (hh : opI P m e op = some i) (hC : noCG i = false) : ∃ c, op = .call c ∧ callI P m e c = some i := by
  cases op with
  | alloc t =>
    obtain ⟨z, hz, hh⟩ := ob_bind hh
    (first | (cases hh; done) | (cases hh; cases hC))
  | box t x =>
    obtain ⟨l, hl, hh⟩ := ob_bind hh
    (first | (cases hh; done) | (cases hh; cases hC))
  | buildSlice t n ps =>
    obtain ⟨d, hd, hh⟩ := ob_bind hh
    cases d <;> try (cases hh; done)
    obtain ⟨s, hs, hh⟩ := ob_bind hh
    split at hh
    · (first | (cases hh; done) | (cases hh; cases hC))
    · rename_i hsm
      obtain ⟨z, hz, hh⟩ := ob_bind hh
      obtain ⟨ls, hls, hh⟩ := ob_bind hh
      (first | (cases hh; done) | (cases hh; cases hC))
  | load t x =>
    obtain ⟨ag, hag, hh⟩ := ob_bind hh
    obtain ⟨n, hn, hh⟩ := ob_bind hh
    obtain ⟨l, hl, hh⟩ := ob_bind hh
    (first | (cases hh; done) | (cases hh; cases hC))
  | lookup t x i ok =>
    obtain ⟨d, hd, hh⟩ := ob_bind hh
    cases d <;> try (cases hh; done)
    obtain ⟨kd, hkd, hh⟩ := ob_bind hh
    obtain ⟨z, hz, hh⟩ := ob_bind hh
    obtain ⟨l, hl, hh⟩ := ob_bind hh
    obtain ⟨c, hc, hh⟩ := ob_bind hh
    (first | (cases hh; done) | (cases hh; cases hC))
  | entry x => obtain ⟨l, hl, hh⟩ := ob_bind hh; (first | (cases hh; done) | (cases hh; cases hC))
  | convert s d x =>
    obtain ⟨ds, hds, hh⟩ := ob_bind hh
    obtain ⟨dd, hdd, hh⟩ := ob_bind hh
    cases ds <;> cases dd <;> try (cases hh; done)
    case int.int => obtain ⟨l, hl, hh⟩ := ob_bind hh; (first | (cases hh; done) | (cases hh; cases hC))
    case string.string => obtain ⟨l, hl, hh⟩ := ob_bind hh; (first | (cases hh; done) | (cases hh; cases hC))
    case string.slice el =>
      obtain ⟨de, hde, hh⟩ := ob_bind hh
      cases de <;> try (cases hh; done)
      rename_i k; cases k <;> try (cases hh; done)
      obtain ⟨l, hl, hh⟩ := ob_bind hh; obtain ⟨_, _, hh⟩ := ob_bind hh; (first | (cases hh; done) | (cases hh; cases hC))
    case slice.string el =>
      obtain ⟨de, hde, hh⟩ := ob_bind hh
      cases de <;> try (cases hh; done)
      rename_i k; cases k <;> try (cases hh; done)
      obtain ⟨l, hl, hh⟩ := ob_bind hh; (first | (cases hh; done) | (cases hh; cases hC))
  | slice t x lo hi mx =>
    cases mx <;> try (cases hh; done)
    obtain ⟨llo, hlo, hh⟩ := ob_bind hh
    obtain ⟨lhi, hhi, hh⟩ := ob_bind hh
    obtain ⟨d, hd, hh⟩ := ob_bind hh
    cases d <;> try (cases hh; done)
    case string => obtain ⟨l, hl, hh⟩ := ob_bind hh; (first | (cases hh; done) | (cases hh; cases hC))
    case slice el =>
      obtain ⟨n, hn, hh⟩ := ob_bind hh
      obtain ⟨l, hl, hh⟩ := ob_bind hh
      (first | (cases hh; done) | (cases hh; cases hC))
  | binOp op t x y yt =>
    simp only [opI, binI, Option.bind_eq_bind, Option.bind_eq_some_iff] at hh
    obtain ⟨lx, hx, ly, hy, d, hd, hh⟩ := hh
    have nilNo : ∀ kd, nilI kd op x y lx ly = some i → False := by
      intro kd hk
      unfold nilI at hk
      split at hk <;> (try (cases hk; done)) <;> (repeat' split at hk) <;> first | (cases hk; done) | (cases hk; cases hC)
    cases d with
    | pointer el =>
      simp only [Option.bind_eq_some_iff] at hh
      obtain ⟨n, hn, hh⟩ := hh
      split at hh
      · (first | (cases hh; done) | (cases hh; cases hC))
      · split at hh <;> (first | (cases hh; done) | (cases hh; cases hC))
    | int k => simp only at hh; split at hh <;> (first | (cases hh; done) | (cases hh; cases hC))
    | string => simp only at hh; split at hh <;> (first | (cases hh; done) | (cases hh; cases hC))
    | bool => simp only at hh; split at hh <;> (first | (cases hh; done) | (cases hh; cases hC))
    | interface ms => exact (nilNo _ hh).elim
    | slice el => exact (nilNo _ hh).elim
    | map k el => exact (nilNo _ hh).elim
    | func ps rs vr => exact (nilNo _ hh).elim
    | _ => (first | (cases hh; done) | (cases hh; cases hC))
  | call c => exact ⟨c, rfl, hh⟩
  | move x => obtain ⟨l, hl, hh⟩ := ob_bind hh; (first | (cases hh; done) | (cases hh; cases hC))
  | assign x => obtain ⟨l, hl, hh⟩ := ob_bind hh; (first | (cases hh; done) | (cases hh; cases hC))
  | pick c x y =>
    obtain ⟨lc, hc, hh⟩ := ob_bind hh
    obtain ⟨lx, hx, hh⟩ := ob_bind hh
    obtain ⟨ly, hy, hh⟩ := ob_bind hh
    (first | (cases hh; done) | (cases hh; cases hC))
  | build t ps =>
    obtain ⟨z, hz, hh⟩ := ob_bind hh
    obtain ⟨d, hd, hh⟩ := ob_bind hh
    cases d <;> try (cases hh; done)
    case struct fs =>
      simp only at hh
      split at hh
      · (first | (cases hh; done) | (cases hh; cases hC))
      · obtain ⟨ls, hls, hh⟩ := ob_bind hh
        (first | (cases hh; done) | (cases hh; cases hC))
    case array n el =>
      obtain ⟨s, hs, hh⟩ := ob_bind hh
      obtain ⟨ls, hls, hh⟩ := ob_bind hh
      (first | (cases hh; done) | (cases hh; cases hC))
  | nilCheck x => obtain ⟨l, hl, hh⟩ := ob_bind hh; (first | (cases hh; done) | (cases hh; cases hC))
  | unOp op t x =>
    cases op with
    | not => obtain ⟨l, hl, hh⟩ := ob_bind hh; (first | (cases hh; done) | (cases hh; cases hC))
    | neg =>
      obtain ⟨d, hd, hh⟩ := ob_bind hh
      cases d <;> try (cases hh; done)
      obtain ⟨l, hl, hh⟩ := ob_bind hh; (first | (cases hh; done) | (cases hh; cases hC))
    | _ => (first | (cases hh; done) | (cases hh; cases hC))
  | makeInterface t x =>
    obtain ⟨d, hd, hh⟩ := ob_bind hh
    cases d <;> first
      | (cases hh; done)
      | (obtain ⟨l, hl, hh⟩ := ob_bind hh; (first | (cases hh; done) | (cases hh; cases hC)))
  | typeAssert x xt t ok =>
    obtain ⟨d, hd, hh⟩ := ob_bind hh
    cases d <;> first
      | (cases hh; done)
      | (obtain ⟨z, hz, hh⟩ := ob_bind hh; obtain ⟨l, hl, hh⟩ := ob_bind hh; (first | (cases hh; done) | (cases hh; cases hC)))
  | makeFunc f x y =>
    cases f <;> try (cases hh; done)
    obtain ⟨lx, hx, hh⟩ := ob_bind hh
    obtain ⟨ly, hy, hh⟩ := ob_bind hh
    (first | (cases hh; done) | (cases hh; cases hC))
  | fieldAddr t x f =>
    obtain ⟨fd, hfd, hh⟩ := ob_bind hh
    obtain ⟨n, hn, hh⟩ := ob_bind hh
    split at hh
    · (first | (cases hh; done) | (cases hh; cases hC))
    · obtain ⟨l, hl, hh⟩ := ob_bind hh
      (first | (cases hh; done) | (cases hh; cases hC))
  | field t x f =>
    obtain ⟨fd, hfd, hh⟩ := ob_bind hh
    obtain ⟨ag, hag, hh⟩ := ob_bind hh
    obtain ⟨n, hn, hh⟩ := ob_bind hh
    obtain ⟨l, hl, hh⟩ := ob_bind hh
    (first | (cases hh; done) | (cases hh; cases hC))
  | indexAddr t x i =>
    obtain ⟨d, hd, hh⟩ := ob_bind hh
    cases d <;> try (cases hh; done)
    all_goals
      obtain ⟨n, hn, hh⟩ := ob_bind hh
      obtain ⟨lx, hx, hh⟩ := ob_bind hh
      obtain ⟨li, hi, hh⟩ := ob_bind hh
      (first | (cases hh; done) | (cases hh; cases hC))
  | index t x i =>
    obtain ⟨d, hd, hh⟩ := ob_bind hh
    cases d <;> try (cases hh; done)
    case string =>
      obtain ⟨lx, hx, hh⟩ := ob_bind hh
      obtain ⟨li, hi, hh⟩ := ob_bind hh
      (first | (cases hh; done) | (cases hh; cases hC))
    case array n el =>
      obtain ⟨ag, hag, hh⟩ := ob_bind hh
      obtain ⟨s, hs, hh⟩ := ob_bind hh
      split at hh
      · (first | (cases hh; done) | (cases hh; cases hC))
      · obtain ⟨lx, hx, hh⟩ := ob_bind hh
        obtain ⟨li, hi, hh⟩ := ob_bind hh
        (first | (cases hh; done) | (cases hh; cases hC))
  | extract x i => obtain ⟨l, hl, hh⟩ := ob_bind hh; (first | (cases hh; done) | (cases hh; cases hC))
  | store t x y =>
    obtain ⟨ag, _, hh⟩ := ob_bind hh
    obtain ⟨n, _, hh⟩ := ob_bind hh
    obtain ⟨l, _, hh⟩ := ob_bind hh
    (first | (cases hh; done) | (cases hh; cases hC))
  | makeMap t r => cases r <;> (first | (cases hh; done) | (cases hh; cases hC))
  | makeSlice t x y =>
    obtain ⟨d, hd, hh⟩ := ob_bind hh
    cases d <;> try (cases hh; done)
    obtain ⟨b, _, hh⟩ := ob_bind hh
    split at hh
    · (first | (cases hh; done) | (cases hh; cases hC))
    · obtain ⟨z, _, hh⟩ := ob_bind hh
      split at hh
      · (first | (cases hh; done) | (cases hh; cases hC))
      · obtain ⟨s, _, hh⟩ := ob_bind hh
        obtain ⟨l, _, hh⟩ := ob_bind hh
        obtain ⟨c, _, hh⟩ := ob_bind hh
        (first | (cases hh; done) | (cases hh; cases hC))
  | mapUpdate t x i y =>
    obtain ⟨d, hd, hh⟩ := ob_bind hh
    cases d <;> try (cases hh; done)
    obtain ⟨b, _, hh⟩ := ob_bind hh
    obtain ⟨z, _, hh⟩ := ob_bind hh
    obtain ⟨l, _, hh⟩ := ob_bind hh
    obtain ⟨c, _, hh⟩ := ob_bind hh
    (first | (cases hh; done) | (cases hh; cases hC))
  | range t x =>
    obtain ⟨d, hd, hh⟩ := ob_bind hh
    cases d <;> first
      | (cases hh; done)
      | (obtain ⟨b, _, hh⟩ := ob_bind hh; (first | (cases hh; done) | (cases hh; cases hC)))
  | next x b => cases b <;> (obtain ⟨l, _, hh⟩ := ob_bind hh; (first | (cases hh; done) | (cases hh; cases hC)))
  | _ => (first | (cases hh; done) | (cases hh; cases hC))


theorem callI_C {c : Go.Call} {i : I} (hh : callI P m e c = some i) (hC : noCG i = false) :
    (∃ f ls, c.callee = .value (.func f) ∧ locsOf m e c.args = some ls ∧ i = .C (.cf f ls)) ∨
    (∃ x lx ls, c.callee = .value x ∧ locOf m e x = some lx ∧ locsOf m e c.args = some ls ∧ i = .C (.cv lx ls)) ∨
    (∃ x name lx ls, c.callee = .invoke x name ∧ locOf m e x = some lx ∧ locsOf m e c.args = some ls ∧ i = .C (.iv (methCands P name) lx ls)) := by
  obtain ⟨callee, args, ts⟩ := c
  cases callee with
  | value f =>
    cases f with
    | func f =>
      obtain ⟨ls, hls, hh⟩ := ob_bind hh
      cases hh; exact .inl ⟨f, ls, rfl, hls, rfl⟩
    | _ =>
      obtain ⟨lx, hlx, hh⟩ := ob_bind hh
      obtain ⟨ls, hls, hh⟩ := ob_bind hh
      cases hh; exact .inr (.inl ⟨_, lx, ls, rfl, hlx, hls, rfl⟩)
  | invoke rr n =>
    obtain ⟨lx, hlx, hh⟩ := ob_bind hh
    obtain ⟨ls, hls, hh⟩ := ob_bind hh
    cases hh; exact .inr (.inr ⟨_, n, lx, ls, rfl, hlx, hls, rfl⟩)
  | builtin b =>
    simp only [callI, Option.bind_eq_bind, Option.bind_eq_some_iff] at hh
    obtain ⟨as, has, hh⟩ := hh
    split at hh
    · simp only [Option.bind_eq_some_iff] at hh
      obtain ⟨d, ⟨t, ht, hd⟩, hh⟩ := hh
      cases d <;> first | (cases hh; done) | (cases hh; cases hC)
    · simp only [Option.bind_eq_some_iff] at hh
      obtain ⟨d, ⟨t, ht, hd⟩, hh⟩ := hh
      cases d <;> try (cases hh; done)
      simp only [Option.bind_eq_some_iff] at hh
      obtain ⟨n, _, bb, _, z, _, d2, ⟨t2, ht2, hd2⟩, hh⟩ := hh
      cases d2 <;> (try (cases hh; done)) <;> (simp only at hh; split at hh <;> first | (cases hh; done) | (cases hh; cases hC))
    · simp only [Option.bind_eq_some_iff] at hh
      obtain ⟨d, ⟨t, ht, hd⟩, hh⟩ := hh
      cases d <;> first | (cases hh; done) | (cases hh; cases hC)
    · simp only [Option.bind_eq_some_iff] at hh
      obtain ⟨d, ⟨t, ht, hd⟩, hh⟩ := hh
      cases d <;> first | (cases hh; done) | (cases hh; cases hC)
    · cases hh

/-- One operation without its guard. -/
theorem evI_sound (hc : CallOk P ρ call) (hE : ER P ρ m e φ stk slots a) (r : Rel P ρ φ h nx w) (hG : Gok P φ) {o : Oper} {i : I} (hh : opI P m e o.op = some i) {v : V} {h' : T O} {nx' : Pos}
    (hv : evI call i stk slots h nx = .ok v h' nx') : Op1 P a o w (After P ρ φ h nx w v h' nx') := by
  cases i with
  | P p =>
    obtain ⟨u, h1, h2⟩ := wo_eq hv
    cases h2
    exact ((opP_sound hE hh h1 w).does r).op
  | R p =>
    obtain ⟨u, h1, h2⟩ := wo_eq hv
    cases h2
    exact ((opR_sound hE r hh h1).does r).op
  | F p =>
    obtain ⟨⟨u, ob⟩, h1, h2⟩ := wo_eq hv
    obtain ⟨rfl, rfl, rfl⟩ := newW_ok h2
    exact (Makes.does r (opF_sound hE hh nx h1)).op
  | W p => exact (opW_sound hE r hh hv).op
  | G c wnt i =>
    obtain ⟨c', _, h2⟩ := opI_C hh rfl
    rcases callI_C h2 rfl with ⟨_, _, _, _, h⟩ | ⟨_, _, _, _, _, _, h⟩ | ⟨_, _, _, _, _, _, _, h⟩ <;> cases h
  | C ci =>
    obtain ⟨c', ho, h2⟩ := opI_C hh rfl
    obtain ⟨callee, args, ts⟩ := c'
    rcases callI_C h2 rfl with ⟨f, ls, hc1, hls, hi⟩ | ⟨x, lx, ls, hc1, hx, hls, hi⟩ | ⟨x, name, lx, ls, hc1, hx, hls, hi⟩
    · cases hi
      simp only at hc1; subst hc1
      exact c_cf hc hE r hG ho hls hv
    · cases hi
      simp only at hc1; subst hc1
      exact c_cv hc hE r hG ho hx hls hv
    · cases hi
      simp only at hc1; subst hc1
      exact c_iv hc hE r hG ho hx hls hv

end GoVm

/- A region that runs in the order of its text, in the virtual machine and in the model. -/
namespace GoVm
open Go (Value World Addr Obj MapEntry Program Operand Oper Op IntKind BinOp Sem Result run_underlying Exit LetsOut Calls wpList)

variable {P : Program} {ρ : Nat → Int} {φ : Phi} {m : SlotMap} {e : Env} {stk : List V} {slots : T V} {a : Go.Act} {h : T O} {nx : Pos} {w : World} {call : Caller}

/-- The slots stand for their temporaries. -/
def SR (P : Program) (ρ : Nat → Int) (m : SlotMap) (φ : Phi) (slots : T V) (a : Go.Act) : Prop :=
  ∀ t p v, slotOf m t = some p → slots.get p = some v → VR P ρ φ v (a.tmps.getD t Go.undef)

/-- What is known while a region runs. -/
structure IR (P : Program) (ρ : Nat → Int) (m : SlotMap) (e : Env) (φ : Phi) (stk : List V) (slots : T V) (a : Go.Act) : Prop where
  len : stk.length = e.depth
  lr : ∀ x ∈ e.loc, (∀ i, x.2 = .stk i → i < e.depth) ∧ ∀ v, loc (toLoc e x.2) stk slots = some v → VR P ρ φ v (a.tmps.getD x.1 Go.undef)
  sr : SR P ρ m φ slots a
  gl : ∀ g, g < e.G → ∃ q, φ (Pos.ofNat g) = some q ∧ q.B = g ∧ q.d = 0
  sz : e.N ≤ a.tmps.size

theorem IR.er (h : IR P ρ m e φ stk slots a) : ER P ρ m e φ stk slots a := by
  refine ⟨h.len, fun t l hl => ?_, h.gl⟩
  simp only [elOf] at hl
  split at hl
  · cases hl
  · split at hl
    · rename_i x l' hf
      cases hl
      have hm := List.mem_of_find?_eq_some hf
      have ht := List.find?_some hf
      simp at ht
      obtain ⟨h1, h2⟩ := h.lr _ hm
      rw [ht] at h2
      exact ⟨h1, h2⟩
    · split at hl
      · cases hl
      · simp only [Option.map_eq_some_iff] at hl
        obtain ⟨p, hp, rfl⟩ := hl
        exact ⟨(fun i hi => by cases hi), fun v hv => h.sr t p v hp hv⟩

theorem IR.mono {φ' : Phi} (h : IR P ρ m e φ stk slots a) (hφ : PhiLe φ φ') : IR P ρ m e φ' stk slots a :=
  ⟨h.len, fun x hx => ⟨(h.lr x hx).1, fun v hv => ((h.lr x hx).2 v hv).mono hφ⟩, fun t p v h1 h2 => (h.sr t p v h1 h2).mono hφ,
    fun g hg => let ⟨q, h1, h2⟩ := h.gl g hg; ⟨q, hφ _ _ h1, h2⟩, h.sz⟩

def Inj (m : SlotMap) : Prop := ∀ t t' p, slotOf m t = some p → slotOf m t' = some p → t = t'

theorem put_ne {a : Go.Act} {d t : Nat} {c : Value} (h : t ≠ d) : (a.put (some d) c).tmps.getD t Go.undef = a.tmps.getD t Go.undef := by
  simp only [Go.Act.put, Array.getD_eq_getD_getElem?]
  rw [Array.getElem?_setIfInBounds_ne (Ne.symm h)]
theorem put_same {a : Go.Act} {d : Nat} {c : Value} (h : d < a.tmps.size) : (a.put (some d) c).tmps.getD d Go.undef = c := by
  simp [Go.Act.put, Array.getD_eq_getD_getElem?, h]
theorem put_size {a : Go.Act} {d : Option Nat} {c : Value} : (a.put d c).tmps.size = a.tmps.size := by
  cases d <;> simp [Go.Act.put]
theorem put_defers {a : Go.Act} {d : Option Nat} {c : Value} : (a.put d c).defers = a.defers := by
  cases d <;> rfl

/-- The stack and the slots behind an operation. -/
noncomputable def putS (w : Option Pos) (v : V) (slots : T V) : T V := match w with | none => slots | some p => T.put v p slots
def pushS (push : Bool) (v : V) (stk : List V) : List V := if push then v :: stk else stk

theorem mem_dropT {d : Nat} {l : List (Nat × EL)} {x : Nat × EL} (h : x ∈ dropT d l) : x ∈ l ∧ x.1 ≠ d := by
  simpa [dropT] using h
theorem mem_dropSl {p : Pos} {l : List (Nat × EL)} {x : Nat × EL} (h : x ∈ dropSl p l) : x ∈ l ∧ ∀ q, x.2 = .sl q → q ≠ p := by
  simp only [dropSl, List.mem_filter] at h
  refine ⟨h.1, fun q hq e => ?_⟩
  have := h.2
  rw [hq] at this
  subst e
  simp [Pos.beq_self] at this

/-- Behind an operation of which the value is v. -/
theorem place_sound (hI : Inj m) {ops : Array Oper} {i : I} {dst : Option Nat} {rest : List Oper} {co : CO} {e' : Env} (hp : place m ops e i dst rest = some (co, e')) (hR : IR P ρ m e φ stk slots a)
    {v : V} {c : Value} (hv : VR P ρ φ v c) : ∃ push wr, co = .op i push wr ∧ IR P ρ m e' φ (pushS push v stk) (putS wr v slots) (a.put dst c) := by
  cases dst with
  | none =>
    cases hp
    exact ⟨false, none, rfl, hR⟩
  | some d =>
    simp only [place] at hp
    split at hp
    · cases hp
    · rename_i hN
      simp only [Bool.not_eq_true, Bool.not_eq_false', decide_eq_true_eq] at hN
      have hd : d < a.tmps.size := Nat.lt_of_lt_of_le hN hR.sz
      have sr_no : slotOf m d = none → SR P ρ m φ slots (a.put (some d) c) := by
        intro hno t p u h1 h2
        have : t ≠ d := fun e => by rw [e, hno] at h1; cases h1
        rw [put_ne this]; exact hR.sr t p u h1 h2
      split at hp
      · rename_i p hs
        cases hp
        refine ⟨false, some p, rfl, hR.len, fun x hx => ?_, fun t p' u h1 h2 => ?_, hR.gl, by rw [put_size]; exact hR.sz⟩
        · obtain ⟨h1, h2⟩ := mem_dropT hx
          obtain ⟨h3, h4⟩ := mem_dropSl h1
          obtain ⟨h5, h6⟩ := hR.lr x h3
          refine ⟨h5, fun u hu => ?_⟩
          rw [put_ne h2]
          refine h6 u ?_
          cases hx2 : x.2 with
          | stk j => rw [hx2] at hu; exact hu
          | k z => rw [hx2] at hu; exact hu
          | sl q =>
            rw [hx2] at hu
            change T.get q (T.put v p slots) = some u at hu
            rw [T.get_put_other v p q slots (h4 q hx2)] at hu
            exact hu
        · change T.get p' (T.put v p slots) = some u at h2
          by_cases e : t = d
          · subst e
            rw [hs] at h1; cases h1
            rw [T.get_put_same] at h2; cases h2
            rw [put_same hd]; exact hv
          · have : p' ≠ p := fun e2 => e (hI t d p (e2 ▸ h1) hs)
            rw [T.get_put_other v p p' slots this] at h2
            rw [put_ne e]; exact hR.sr t p' u h1 h2
      · rename_i hs
        split at hp
        · cases hp
          refine ⟨true, none, rfl, by simp [pushS, Env.push, hR.len], fun x hx => ?_, sr_no hs, hR.gl, by rw [put_size]; exact hR.sz⟩
          simp only [Env.push, Env.set, List.mem_cons] at hx
          rcases hx with rfl | hx
          · refine ⟨fun i hi => by cases hi; simp [Env.push, Env.set], fun u hu => ?_⟩
            have : u = v := by
              simp only [toLoc, Env.push, Env.set, pushS, if_true] at hu
              rw [show e.depth + 1 - 1 - e.depth = 0 by omega] at hu
              change some v = some u at hu
              cases hu; rfl
            subst this
            rw [put_same hd]; exact hv
          · obtain ⟨h1, h2⟩ := mem_dropT hx
            obtain ⟨h5, h6⟩ := hR.lr x h1
            refine ⟨fun i hi => Nat.lt_succ_of_lt (h5 i hi), fun u hu => ?_⟩
            rw [put_ne h2]
            refine h6 u ?_
            cases hx2 : x.2 with
            | sl q => rw [hx2] at hu; exact hu
            | k z => rw [hx2] at hu; exact hu
            | stk j =>
              rw [hx2] at hu
              have hj := h5 j hx2
              simp only [toLoc, Env.push, Env.set, pushS, if_true] at hu ⊢
              rw [show e.depth + 1 - 1 - j = (e.depth - 1 - j) + 1 by omega] at hu
              exact hu
        · cases hp
          refine ⟨false, none, rfl, hR.len, fun x hx => ?_, sr_no hs, hR.gl, by rw [put_size]; exact hR.sz⟩
          obtain ⟨h1, h2⟩ := mem_dropT hx
          obtain ⟨h5, h6⟩ := hR.lr x h1
          exact ⟨h5, fun u hu => by rw [put_ne h2]; exact h6 u hu⟩

theorem alias_sound {o : Oper} {rest : List Oper} {d : Nat} {l : EL} (hp : aliasOf m e o rest = some (d, l)) (hR : IR P ρ m e φ stk slots a) :
    ∃ x, o.op = .move x ∧ o.guard = none ∧ o.dst = some d ∧ IR P ρ m (e.set d l) φ stk slots (a.put (some d) (a.eval x)) := by
  unfold aliasOf at hp
  split at hp
  · rename_i x d' ho hg hd
    split at hp
    · cases hp
    · rename_i hno
      simp only [Bool.or_eq_true, Bool.not_eq_true', decide_eq_false_iff_not, not_or, Bool.not_eq_true, Option.isSome_eq_false_iff, Option.isNone_iff_eq_none, Nat.not_lt, Nat.not_le] at hno
      split at hp
      · cases hp
      · rename_i l' hl
        have key : ∀ d0 l0, (d0, l0) = (d', l') → IR P ρ m (e.set d0 l0) φ stk slots (a.put (some d0) (a.eval x)) := by
          rintro d0 l0 ⟨⟩
          have hd' : d' < a.tmps.size := Nat.lt_of_lt_of_le hno.2 hR.sz
          have hel := fun v hv => hR.er.el (x := x) (v := v) hl hv
          refine ⟨hR.len, fun y hy => ?_, fun t p u h1 h2 => ?_, hR.gl, by rw [put_size]; exact hR.sz⟩
          · simp only [Env.set, List.mem_cons] at hy
            rcases hy with rfl | hy
            · refine ⟨fun i hi => ?_, fun u hu => ?_⟩
              · cases x with
                | tmp t => exact (hR.er.val t l' hl).1 i hi
                | const z => simp only [elOf, Option.map_eq_some_iff] at hl; obtain ⟨_, _, rfl⟩ := hl; cases hi
                | global g => simp only [elOf] at hl; split at hl <;> cases hl; cases hi
                | func f => simp only [elOf, Option.some.injEq] at hl; subst hl; cases hi
              · rw [put_same hd']; exact hel u hu
            · obtain ⟨h1, h2⟩ := mem_dropT hy
              obtain ⟨h5, h6⟩ := hR.lr y h1
              exact ⟨h5, fun u hu => by rw [put_ne h2]; exact h6 u hu⟩
          · have : t ≠ d' := fun e => by rw [e, hno.1] at h1; cases h1
            rw [put_ne this]; exact hR.sr t p u h1 h2
        refine ⟨x, ho, hg, ?_⟩
        have hpe : (d, l) = (d', l') := by
          split at hp
          · split at hp
            · cases hp
            · cases hp; rfl
          · cases hp; rfl
        have := key d l hpe
        cases hpe
        exact ⟨hd, this⟩
  · cases hp

end GoVm

/- A region that runs in the order of its text: the virtual machine's run of it, and the model's. -/
namespace GoVm
open Go (Value World Addr Obj MapEntry Program Operand Oper Op IntKind BinOp Sem Result run_underlying Exit LetsOut Calls wpList yielded)

variable {P : Program} {ρ : Nat → Int} {φ : Phi} {m : SlotMap} {e : Env} {stk : List V} {slots : T V} {a : Go.Act} {h : T O} {nx : Pos} {w : World} {call : Caller}

theorem After.same {c : Value} {v : V} (h1 : VR P ρ φ v c) (r : Rel P ρ φ h nx w) : After P ρ φ h nx w v h nx c w := ⟨φ, h1, r, .refl _ _ _, .refl _ _⟩

theorem coOp_eq (ih : List V → T V → T O → Pos → St) (i : I) (push : Bool) (wr : Option Pos) : coOp call ih i push wr stk slots h nx = wb (evI call i stk slots h nx) .no fun v h' nx' => ih (pushS push v stk) (putS wr v slots) h' nx' := by
  unfold coOp
  congr 1
  funext v h' nx'
  cases push <;> cases wr <;> simp [pushS, putS, T.setK_eq]

theorem vGuard_run {v : V} {want : Bool} {r : WR} {x : V} {h' : T O} {nx' : Pos} {und : WR} (hh : vGuard v (fun b => cnd (xorB b want) und r) und .no = .ok x h' nx') :
    (v = .bool want ∧ r = .ok x h' nx') ∨ ((v = .bool (!want) ∨ v = .tup []) ∧ und = .ok x h' nx') := by
  cases v <;> try (cases hh; done)
  case bool b =>
    change cnd (xorB b want) und r = _ at hh
    cases b <;> cases want
    · exact .inl ⟨rfl, hh⟩
    · exact .inr ⟨.inl rfl, hh⟩
    · exact .inr ⟨.inl rfl, hh⟩
    · exact .inl ⟨rfl, hh⟩
  case tup l =>
    cases l with
    | nil => exact .inr ⟨.inr rfl, hh⟩
    | cons x l => cases hh

theorem yielded_bool {ops : Array Oper} {j d : Nat} {b : Bool} {tmps : Array Value} (hj : (ops[j]?).bind (·.dst) = some d) (ht : tmps.getD d Go.undef = .bool b) : yielded ops tmps j = some b := by
  unfold yielded
  rw [hj]
  simp only [Option.bind_some]
  rw [Array.getD_eq_getD_getElem?] at ht
  cases hx : tmps[d]? with
  | none => rw [hx] at ht; cases ht
  | some v =>
    rw [hx] at ht
    simp only [Option.getD_some] at ht
    subst ht; rfl

theorem yielded_none {ops : Array Oper} {j d : Nat} {tmps : Array Value} (hj : (ops[j]?).bind (·.dst) = some d) (ht : tmps.getD d Go.undef = .tuple #[]) : yielded ops tmps j = none := by
  unfold yielded
  rw [hj]
  simp only [Option.bind_some]
  rw [Array.getD_eq_getD_getElem?] at ht
  cases hx : tmps[d]? with
  | none => rfl
  | some v =>
    rw [hx] at ht
    simp only [Option.getD_some] at ht
    subst ht; rfl

/-- What an operation is, its guard looked at. -/
theorem guard_sound {ops : Array Oper} {o : Oper} {i gi : I} (hg : guardI m ops e o i = some gi) (hE : ER P ρ m e φ stk slots a) {v : V} {h' : T O} {nx' : Pos} (hv : evI call gi stk slots h nx = .ok v h' nx') :
    (Go.Region.wanted o (yielded ops a.tmps) = true ∧ evI call i stk slots h nx = .ok v h' nx') ∨ (Go.Region.wanted o (yielded ops a.tmps) = false ∧ v = undefV ∧ h' = h ∧ nx' = nx) := by
  unfold guardI at hg
  split at hg
  · rename_i hno
    cases hg
    exact .inl ⟨by simp [Go.Region.wanted, hno], hv⟩
  · rename_i j want hgd
    split at hg
    · cases hg
    · rename_i d hd
      split at hg
      · cases hg
      · rename_i l hl
        cases hg
        obtain ⟨u, h1, h2⟩ := wo_eq hv
        have hu := hE.lo hl h1
        change VR P ρ φ u (a.tmps.getD d Go.undef) at hu
        rcases vGuard_run h2 with ⟨rfl, h3⟩ | ⟨h3, h4⟩
        · simp only [VR] at hu
          exact .inl ⟨by simp [Go.Region.wanted, hgd, yielded_bool hd hu], h3⟩
        · cases h4
          refine .inr ⟨?_, rfl, rfl, rfl⟩
          rcases h3 with rfl | rfl
          · simp only [VR] at hu
            simp [Go.Region.wanted, hgd, yielded_bool hd hu]
          · simp only [VR, VRs] at hu
            obtain ⟨x, hu, hx⟩ := hu
            have : x = #[] := by simpa using hx
            subst this
            simp [Go.Region.wanted, hgd, yielded_none hd hu]

/-- What a piece of a run leaves. -/
structure Left (P : Program) (ρ : Nat → Int) (m : SlotMap) (N : Nat) (φ : Phi) (h : T O) (nx : Pos) (a : Go.Act) (w : World) (slots' : T V) (h' : T O) (nx' : Pos) (a' : Go.Act) (w' : World) : Prop where
  ex : ∃ φ', SR P ρ m φ' slots' a' ∧ Rel P ρ φ' h' nx' w' ∧ Ext h φ w h' φ' w' ∧ Grow φ nx φ' nx'
  sz : N ≤ a'.tmps.size
  defers : a'.defers = a.defers

theorem ops_sound (hc : CallOk P ρ call) (hI : Inj m) {ops : Array Oper} {Q : Exit → Go.Act → World → Prop} : ∀ (l : List Oper) {e : Env} {cs : List CO}, compOps P m ops l e = some cs → e.G = P.globals.size →
    ∀ {stk : List V} {slots : T V} {h : T O} {nx : Pos} {slots' : T V} {h' : T O} {nx' : Pos}, runCO call cs stk slots h nx = .ok slots' h' nx' →
    ∀ {φ : Phi} {a : Go.Act} {w : World}, IR P ρ m e φ stk slots a → Rel P ρ φ h nx w → (∀ a' w', Left P ρ m e.N φ h nx a w slots' h' nx' a' w' → Q .normal a' w') → wpList P ops Q l a w
  | [], e, cs, hcs, hG, stk, slots, h, nx, slots', h', nx', hr, φ, a, w, hR, r, hQ => by
    cases hcs
    cases hr
    exact hQ a w ⟨⟨φ, hR.sr, r, .refl _ _ _, .refl _ _⟩, hR.sz, rfl⟩
  | o :: l, e, cs, hcs, hG, stk, slots, h, nx, slots', h', nx', hr, φ, a, w, hR, r, hQ => by
    simp only [compOps] at hcs
    split at hcs
    · cases hcs
    · rename_i co e' hco
      split at hcs
      · cases hcs
      · rename_i cs' hcs'
        cases hcs
        unfold compOp at hco
        split at hco
        · rename_i d el hal
          cases hco
          obtain ⟨x, ho, hgd, hd, hR'⟩ := alias_sound hal hR
          have hr' : runCO call cs' stk slots h nx = .ok slots' h' nx' := hr
          have ih := ops_sound hc hI (Q := Q) l hcs' hG hr' hR' r (fun a' w' L => hQ a' w' ⟨L.ex, L.sz, L.defers⟩)
          simp only [wpList]
          rw [if_pos (by simp [Go.Region.wanted, hgd])]
          refine .inl ?_
          unfold Go.Oper.wp
          have he : (Go.execOp a.eval o).run P w = .ok (.value (a.eval x)) w := by simp [Go.execOp, ho]
          rw [he, Go.Oper.upon_value, hd]
          exact ih
        · split at hco
          · cases hco
          · rename_i i hi
            split at hco
            · cases hco
            · rename_i gi hgi
              have hco' : ∃ push wr, co = .op gi push wr := by
                unfold place at hco
                repeat' split at hco
                all_goals first
                  | (cases hco; exact ⟨_, _, rfl⟩)
                  | cases hco
              obtain ⟨push, wr, rfl⟩ := hco'
              have hr' : coOp call (runCO call cs') gi push wr stk slots h nx = .ok slots' h' nx' := hr
              rw [coOp_eq] at hr'
              cases hev : evI call gi stk slots h nx with
              | no => rw [hev] at hr'; cases hr'
              | ok v h1 nx1 =>
                rw [hev] at hr'
                change runCO call cs' (pushS push v stk) (putS wr v slots) h1 nx1 = .ok slots' h' nx' at hr'
                have hGN : e'.G = P.globals.size ∧ e'.N = e.N := by
                  unfold place at hco
                  repeat' split at hco
                  all_goals first
                    | (cases hco; exact ⟨hG, rfl⟩)
                    | cases hco
                have next : ∀ c w1, After P ρ φ h nx w v h1 nx1 c w1 → wpList P ops Q l (a.put o.dst c) w1 := by
                  rintro c w1 ⟨φ1, hvc, r1, e1, g1⟩
                  obtain ⟨push', wr', heq, hR1⟩ := place_sound hI hco (hR.mono e1.le) hvc
                  cases heq
                  refine ops_sound hc hI l hcs' hGN.1 hr' hR1 r1 (fun a' w' L => ?_)
                  obtain ⟨⟨φ2, s2, r2, e2, g2⟩, sz2, d2⟩ := L
                  exact hQ a' w' ⟨⟨φ2, s2, r2, e1.trans e2, g1.trans g2⟩, by rw [← hGN.2]; exact sz2, by rw [d2, put_defers]⟩
                simp only [wpList]
                rcases guard_sound hgi hR.er hev with ⟨hw, hev'⟩ | ⟨hw, rfl, rfl, rfl⟩
                · rw [if_pos hw]
                  exact .inl (evI_sound hc hR.er r (fun g hg => hR.gl g (by rw [hG]; exact hg)) hi hev' _ _ next)
                · rw [if_neg (by simp [hw])]
                  exact next _ _ (.same .undef r)

theorem IR.base {G N : Nat} (hs : SR P ρ m φ slots a) (hg : ∀ g, g < G → ∃ q, φ (Pos.ofNat g) = some q ∧ q.B = g ∧ q.d = 0) (hz : N ≤ a.tmps.size) : IR P ρ m (env0 G N) φ [] slots a :=
  ⟨rfl, (fun x hx => by cases hx), hs, hg, hz⟩

end GoVm

/- The virtual machine's run of a function's code, and the model's. -/
namespace GoVm
open Go (Value World Addr Obj MapEntry Program Operand Oper Op IntKind BinOp Sem Result run_underlying Exit LetsOut Calls wpList yielded Code Frame Item Arrives lone)

variable {P : Program} {ρ : Nat → Int} {φ : Phi} {m : SlotMap} {N : Nat} {slots : T V} {a : Go.Act} {h : T O} {nx : Pos} {w : World} {call : Caller}

theorem Left.of {φ φ1 : Phi} {h h1 : T O} {nx nx1 : Pos} {a a1 : Go.Act} {w w1 : World} (e : Ext h φ w h1 φ1 w1) (g : Grow φ nx φ1 nx1) (d : a1.defers = a.defers)
    {slots' : T V} {h' : T O} {nx' : Pos} {a' : Go.Act} {w' : World} (L : Left P ρ m N φ1 h1 nx1 a1 w1 slots' h' nx' a' w') : Left P ρ m N φ h nx a w slots' h' nx' a' w' := by
  obtain ⟨⟨φ2, s2, r2, e2, g2⟩, sz2, d2⟩ := L
  exact ⟨⟨φ2, s2, r2, e.trans e2, g.trans g2⟩, sz2, d2.trans d⟩

/-- What holds where a piece of code may begin. -/
structure Beg (P : Program) (ρ : Nat → Int) (m : SlotMap) (N : Nat) (φ : Phi) (slots : T V) (h : T O) (nx : Pos) (a : Go.Act) (w : World) : Prop where
  sr : SR P ρ m φ slots a
  rel : Rel P ρ φ h nx w
  gok : Gok P φ
  sz : N ≤ a.tmps.size

/-- Regions that draw their order are right. -/
def DrawOk (P : Program) (ρ : Nat → Int) (m : SlotMap) (N : Nat) (call : Caller) : Prop :=
  ∀ (id : Nat) (ops : Array Oper) (vc : VC), compRegion P m N ops true = some vc → ∀ l, vc = .dreg l → ∀ {slots : T V} {h : T O} {nx : Pos} {slots' : T V} {h' : T O} {nx' : Pos},
    runDReg call l slots h nx = .ok slots' h' nx' → ∀ {φ : Phi} {a : Go.Act} {w : World}, Beg P ρ m N φ slots h nx a w →
    ∀ {Q : Exit → Go.Act → World → Prop}, (∀ a' w', Left P ρ m N φ h nx a w slots' h' nx' a' w' → Q .normal a' w') → (Code.region id ops true).wp P Q a w

/-- What must follow, by how the code ends. -/
def Post (P : Program) (ρ : Nat → Int) (m : SlotMap) (N : Nat) (φ : Phi) (h : T O) (nx : Pos) (a : Go.Act) (w : World) (Q : Exit → Go.Act → World → Prop) : XR → Prop
  | .no => False
  | .norm t' h' nx' => ∀ a' w', Left P ρ m N φ h nx a w t' h' nx' a' w' → Q .normal a' w'
  | .exit id t' h' nx' => ∀ a' w', Left P ρ m N φ h nx a w t' h' nx' a' w' → Q (.exit id) a' w'
  | .ret t' h' nx' => ∀ a' w', Left P ρ m N φ h nx a w t' h' nx' a' w' → Q .ret a' w'

theorem Left.beg (hG : Gok P φ) {slots' : T V} {h' : T O} {nx' : Pos} {a' : Go.Act} {w' : World} (L : Left P ρ m N φ h nx a w slots' h' nx' a' w') :
    ∃ φ', Beg P ρ m N φ' slots' h' nx' a' w' ∧ Ext h φ w h' φ' w' ∧ Grow φ nx φ' nx' := by
  obtain ⟨⟨φ', s, r, e, g⟩, sz, d⟩ := L
  exact ⟨φ', ⟨s, r, hG.mono e.le, sz⟩, e, g⟩

theorem Post.of {φ φ1 : Phi} {h h1 : T O} {nx nx1 : Pos} {a a1 : Go.Act} {w w1 : World} {Q : Exit → Go.Act → World → Prop} (e : Ext h φ w h1 φ1 w1) (g : Grow φ nx φ1 nx1) (d : a1.defers = a.defers) :
    ∀ {x : XR}, Post P ρ m N φ h nx a w Q x → Post P ρ m N φ1 h1 nx1 a1 w1 Q x
  | .no, p => p
  | .norm .., p => fun a' w' L => p a' w' (L.of e g d)
  | .exit .., p => fun a' w' L => p a' w' (L.of e g d)
  | .ret .., p => fun a' w' L => p a' w' (L.of e g d)

/-- A loop, from the head of a round on. -/
def LoopWp (P : Program) (c : Code) (Q : Exit → Go.Act → World → Prop) (a : Go.Act) (w : World) : Prop :=
  ∀ (b : Frame) (k : List Item) (cs : List Frame), ∃ e a' w', Q e a' w' ∧ Arrives P (lone (b.at a (.code c :: .inLoop c :: k)) cs w) b k cs e a' w'

theorem LoopWp.wp {c : Code} {Q : Exit → Go.Act → World → Prop} (l : LoopWp P c Q a w) : (Code.loop c).wp P Q a w := by
  intro b k cs
  obtain ⟨e, a', w', hq, harr⟩ := l b k cs
  exact ⟨e, a', w', hq, .of_steps (.one Go.step_loop) harr⟩

theorem LoopWp.round {c : Code} {Q : Exit → Go.Act → World → Prop} (h : c.wp P (Exit.then (LoopWp P c Q) Q) a w) : LoopWp P c Q a w := by
  intro b k cs
  obtain ⟨e, a₁, w₁, hq, harr⟩ := h b (.inLoop c :: k) cs
  cases e with
  | normal =>
    obtain ⟨e₂, a₂, w₂, hq₂, harr₂⟩ := hq b k cs
    exact ⟨e₂, a₂, w₂, hq₂, .of_steps (Go.Steps.trans harr (.one Go.step_inLoop)) harr₂⟩
  | exit id => exact ⟨_, a₁, w₁, hq, .pass (x := .inLoop c) rfl (fun _ _ => .inl (by simp)) harr⟩
  | goto l => exact ⟨_, a₁, w₁, hq, .pass (x := .inLoop c) rfl (fun _ _ => .inl (by simp)) harr⟩
  | ret => exact ⟨_, a₁, w₁, hq, .pass (x := .inLoop c) rfl (fun _ _ => .inl (by simp)) harr⟩
  | panic ch => exact ⟨_, a₁, w₁, hq, .pass (x := .inLoop c) rfl (fun _ _ => .inl (by simp)) harr⟩
  | outgrown => exact ⟨_, a₁, w₁, hq, .pass (x := .inLoop c) rfl (fun _ _ => .inl (by simp)) harr⟩

theorem exec_sound (hc : CallOk P ρ call) (hI : Inj m) (hD : DrawOk P ρ m N call) : ∀ n : Nat,
    (∀ (c : Code) {slots : T V} {h : T O} {nx : Pos} {φ : Phi} {a : Go.Act} {w : World} {Q : Exit → Go.Act → World → Prop}, Beg P ρ m N φ slots h nx a w →
      Post P ρ m N φ h nx a w Q (exec call n (compCode P m N c) slots h nx) → c.wp P Q a w) ∧
    (∀ (c : Code) {slots : T V} {h : T O} {nx : Pos} {φ : Phi} {a : Go.Act} {w : World} {Q : Exit → Go.Act → World → Prop}, Beg P ρ m N φ slots h nx a w →
      Post P ρ m N φ h nx a w Q (exec call n (.loop (compCode P m N c)) slots h nx) → LoopWp P c Q a w)
  | 0 => ⟨fun _ _ _ _ _ _ _ _ _ p => p.elim, fun _ _ _ _ _ _ _ _ _ p => p.elim⟩
  | n + 1 => by
    obtain ⟨ih1, ih2⟩ := exec_sound hc hI hD n
    have loops : ∀ (c : Code) {slots : T V} {h : T O} {nx : Pos} {φ : Phi} {a : Go.Act} {w : World} {Q : Exit → Go.Act → World → Prop}, Beg P ρ m N φ slots h nx a w →
        Post P ρ m N φ h nx a w Q (exec call (n + 1) (.loop (compCode P m N c)) slots h nx) → LoopWp P c Q a w := by
      intro c slots h nx φ a w Q B p
      refine LoopWp.round (ih1 c B ?_)
      change Post P ρ m N φ h nx a w Q (XR.rec .no (exec call n (.loop (compCode P m N c))) .exit .ret (exec call n (compCode P m N c) slots h nx)) at p
      cases hx : exec call n (compCode P m N c) slots h nx with
      | no => rw [hx] at p; exact p
      | norm t1 h1 nx1 =>
        rw [hx] at p
        intro a1 w1 L
        obtain ⟨φ1, B1, e1, g1⟩ := L.beg B.gok
        exact ih2 c B1 (p.of e1 g1 L.defers)
      | exit id t1 h1 nx1 => rw [hx] at p; exact p
      | ret t1 h1 nx1 => rw [hx] at p; exact p
    refine ⟨?_, loops⟩
    intro c slots h nx φ a w Q B p
    cases c with
    | skip => exact Go.wp_skip (p a w ⟨⟨φ, B.sr, B.rel, .refl _ _ _, .refl _ _⟩, B.sz, rfl⟩)
    | exit id => exact Go.wp_exit (p a w ⟨⟨φ, B.sr, B.rel, .refl _ _ _, .refl _ _⟩, B.sz, rfl⟩)
    | ret => exact Go.wp_ret (p a w ⟨⟨φ, B.sr, B.rel, .refl _ _ _, .refl _ _⟩, B.sz, rfl⟩)
    | loop b => exact (loops b B p).wp
    | seq x y =>
      refine Go.wp_seq (ih1 x B ?_)
      change Post P ρ m N φ h nx a w Q (XR.rec .no (exec call n (compCode P m N y)) .exit .ret (exec call n (compCode P m N x) slots h nx)) at p
      cases hx : exec call n (compCode P m N x) slots h nx with
      | no => rw [hx] at p; exact p
      | norm t1 h1 nx1 =>
        rw [hx] at p
        intro a1 w1 L
        obtain ⟨φ1, B1, e1, g1⟩ := L.beg B.gok
        exact ih1 y B1 (p.of e1 g1 L.defers)
      | exit id t1 h1 nx1 => rw [hx] at p; exact p
      | ret t1 h1 nx1 => rw [hx] at p; exact p
    | block id b =>
      refine Go.wp_block (ih1 b B ?_)
      change Post P ρ m N φ h nx a w Q (XR.rec .no .norm (fun m t h nx => cnd (Nat.beq m id) (.norm t h nx) (.exit m t h nx)) .ret (exec call n (compCode P m N b) slots h nx)) at p
      cases hx : exec call n (compCode P m N b) slots h nx with
      | no => rw [hx] at p; exact p
      | norm t1 h1 nx1 => rw [hx] at p; exact p
      | ret t1 h1 nx1 => rw [hx] at p; exact p
      | exit id' t1 h1 nx1 =>
        rw [hx] at p
        change Post P ρ m N φ h nx a w Q (cnd (Nat.beq id' id) (.norm t1 h1 nx1) (.exit id' t1 h1 nx1)) at p
        intro a1 w1 L
        cases hb : Nat.beq id' id with
        | true =>
          rw [hb] at p
          have : id' = id := by simpa using hb
          simp only [Exit.inBlock, this, if_true]
          exact p a1 w1 L
        | false =>
          rw [hb] at p
          have : ¬ id' = id := by
            intro e; subst e; simp at hb
          simp only [Exit.inBlock, this, if_false]
          exact p a1 w1 L
    | cond c x y =>
      change Post P ρ m N φ h nx a w Q (exec call (n + 1) (match locOf m (env0 P.globals.size N) c with | some l => .cond l (compCode P m N x) (compCode P m N y) | none => .fail) slots h nx) at p
      split at p
      · rename_i l hl
        change Post P ρ m N φ h nx a w Q (Option.rec .no (fun q => Bool.rec (exec call n (compCode P m N y) slots h nx) (exec call n (compCode P m N x) slots h nx) q) (ob (loc l [] slots) fun v => vBool v some)) at p
        cases hq : ob (loc l [] slots) fun v => vBool v some with
        | none => rw [hq] at p; exact p.elim
        | some q =>
          rw [hq] at p
          obtain ⟨v, h1, h2⟩ := ob_eq hq
          obtain ⟨q', rfl, h3⟩ := vBool_eq h2
          cases h3
          have hv := (IR.base (G := P.globals.size) (N := N) B.sr B.gok B.sz).er.lo hl h1
          simp only [VR] at hv
          cases q with
          | true => exact Go.wp_cond_true hv (ih1 x B p)
          | false => exact Go.wp_cond_false hv (ih1 y B p)
      · exact p.elim
    | region id ops draw =>
      change Post P ρ m N φ h nx a w Q (exec call (n + 1) (match compRegion P m N ops draw with | some c => c | none => .fail) slots h nx) at p
      split at p
      · rename_i vc hvc
        cases draw with
        | true =>
          have hvc' := hvc
          simp only [compRegion, if_true] at hvc
          split at hvc
          · cases hvc
          · split at hvc
            · cases hvc
            · rename_i l hl
              cases hvc
              change Post P ρ m N φ h nx a w Q (ofSt (runDReg call l slots h nx)) at p
              cases hr : runDReg call l slots h nx with
              | no => rw [hr] at p; exact p.elim
              | ok t1 h1 nx1 =>
                rw [hr] at p
                exact hD id ops _ hvc' l rfl hr B p
        | false =>
          simp only [compRegion, Bool.false_eq_true, if_false] at hvc
          split at hvc
          · cases hvc
          · rename_i cs hcs
            cases hvc
            change Post P ρ m N φ h nx a w Q (ofSt (runCO call cs [] slots h nx)) at p
            cases hr : runCO call cs [] slots h nx with
            | no => rw [hr] at p; exact p.elim
            | ok t1 h1 nx1 =>
              rw [hr] at p
              exact Go.wp_region_list (ops_sound hc hI ops.toList hcs rfl hr (IR.base B.sr B.gok B.sz) B.rel p)
      · exact p.elim
    | _ => exact p.elim

end GoVm

/- Calls of the virtual machine, and the model's calls. -/
namespace GoVm
open Go (Value World Addr Obj MapEntry Program Operand Oper Op IntKind BinOp Sem Result run_underlying Exit LetsOut Calls wpList yielded Code Frame Item Arrives lone ResultVar)

variable {P : Program} {ρ : Nat → Int} {φ : Phi} {m : SlotMap} {N : Nat} {slots : T V} {a : Go.Act} {h : T O} {nx : Pos} {w : World} {call : Caller}

/-! ## Arguments -/

theorem bindArgs_sound : ∀ (n k : Nat) (vs : List V) (t t' : T V), bindArgs ((List.range' k n).map (slotOf m)) vs t = some t' →
    ∀ p v, t'.get p = some v → t.get p = some v ∨ ∃ i, slotOf m (k + i) = some p ∧ vs[i]? = some v
  | 0, k, vs, t, t', hh, p, v, hv => by
    cases vs with
    | nil => cases hh; exact .inl hv
    | cons x vs => cases hh
  | n + 1, k, vs, t, t', hh, p, v, hv => by
    rw [List.range'_succ, List.map_cons] at hh
    change bind1 (slotOf m k) (bindArgs ((List.range' (k + 1) n).map (slotOf m))) vs t = some t' at hh
    cases vs with
    | nil => cases hh
    | cons x vs =>
      cases hs : slotOf m k with
      | none =>
        rw [hs] at hh
        rcases bindArgs_sound n (k + 1) vs t t' hh p v hv with h1 | ⟨i, h1, h2⟩
        · exact .inl h1
        · exact .inr ⟨i + 1, by rw [← h1]; congr 1; omega, by simpa using h2⟩
      | some q =>
        rw [hs] at hh
        change T.setK x q t (bindArgs ((List.range' (k + 1) n).map (slotOf m)) vs) = some t' at hh
        rw [T.setK_eq] at hh
        rcases bindArgs_sound n (k + 1) vs _ t' hh p v hv with h1 | ⟨i, h1, h2⟩
        · by_cases e : p = q
          · subst e
            rw [T.get_put_same] at h1; cases h1
            exact .inr ⟨0, by simpa using hs, rfl⟩
          · rw [T.get_put_other x q p t e] at h1
            exact .inl h1
        · exact .inr ⟨i + 1, by rw [← h1]; congr 1; omega, by simpa using h2⟩

/-! ## Results -/

/-- One result, as the model has it. -/
def resM (tmps : Array Value) : ResultVar → Sem Value
  | .tmp t => pure (tmps.getD t Go.undef)
  | .cell a t => do Go.loadVar t (← Go.asAddr (tmps.getD a Go.undef))

theorem results_eq (fn : Go.Func) (tmps : Array Value) : Go.results fn tmps = (fn.results.mapM (resM tmps) >>= fun vs => pure (if h : vs.size = 1 then vs[0] else .tuple vs)) := by
  unfold Go.results
  congr 2

theorem res_sound (B : Beg P ρ m N φ slots h nx a w) {r : ResultVar} {rv : RV} (hr : compRes P m N r = some rv) {v : V} (hv : resOf rv slots h = some v) : ∃ c, (resM a.tmps r).run P w = .ok c w ∧ VR P ρ φ v c := by
  have hE := (IR.base (G := P.globals.size) (N := N) B.sr B.gok B.sz).er
  cases r with
  | tmp t =>
    simp only [compRes] at hr
    split at hr
    · rename_i l hl
      cases hr
      exact ⟨_, rfl, hE.lo hl hv⟩
    · cases hr
  | cell x t =>
    simp only [compRes] at hr
    split at hr
    · rename_i l ag hl hag
      split at hr
      · rename_i n hn
        cases hr
        obtain ⟨u, h1, h2⟩ := ob_eq hv
        have hu := hE.lo hl h1
        obtain ⟨_, h3⟩ | ⟨b, k, rfl, h3⟩ := vPtr_eq h2
        · cases h3
        · obtain ⟨cs, u, wr, p, h4, h5⟩ := oCells_eq h3
          simp only [VR] at hu
          obtain ⟨q, hq, hu⟩ := hu
          obtain ⟨ds, h6, h7⟩ := cells_at (B.rel.at hq h4)
          obtain ⟨hle, c, hc, hvr⟩ := partOf_sound h5 h6
          refine ⟨c, ?_, hvr⟩
          simp only [Go.Act.eval] at hu
          simp only [resM, Sem.run_bind, hu, Go.asAddr, Sem.run_pure, Result.andThen_ok]
          exact run_load_part hag hn h7 hle hc
      · cases hr
    · cases hr

theorem ress_sound (B : Beg P ρ m N φ slots h nx a w) : ∀ (rs : List ResultVar) {rvs : List RV}, rs.mapM (compRes P m N) = some rvs → ∀ {vs : List V}, ressOf rvs slots h = some vs →
    ∃ cs, (rs.mapM (resM a.tmps)).run P w = .ok cs w ∧ VRs P ρ φ vs cs
  | [], rvs, hr, vs, hv => by
    have : rvs = [] := by simpa using hr.symm
    subst this
    cases hv
    exact ⟨[], rfl, VRs.nil⟩
  | r :: rs, rvs, hr, vs, hv => by
    obtain ⟨y, ys, h1, h2, rfl⟩ := mapM_cons_some hr
    change ob (resOf y slots h) (fun v => ob (ressOf ys slots h) fun vs => some (v :: vs)) = some vs at hv
    obtain ⟨v, h3, h4⟩ := ob_eq hv
    obtain ⟨us, h5, h6⟩ := ob_eq h4
    cases h6
    obtain ⟨c, h7, h8⟩ := res_sound B h1 h3
    obtain ⟨cs, h9, h10⟩ := ress_sound B rs h2 h5
    exact ⟨c :: cs, by simp [List.mapM_cons, h7, h9], VRs.cons h8 h10⟩

theorem leave_sound (B : Beg P ρ m N φ slots h nx a w) {fn : Go.Func} {rvs : List RV} (hr : fn.results.toList.mapM (compRes P m N) = some rvs) {v : V} {h' : T O} {nx' : Pos} (hv : leave rvs slots h nx = .ok v h' nx') :
    ∃ c, (Go.results fn a.tmps).run P w = .ok c w ∧ VR P ρ φ v c ∧ h' = h ∧ nx' = nx := by
  obtain ⟨vs, h1, h2⟩ := wo_eq hv
  cases h2
  obtain ⟨cs, h3, h4⟩ := ress_sound B _ hr h1
  have hl := h4.len
  refine ⟨if h : cs.toArray.size = 1 then cs.toArray[0] else .tuple cs.toArray, ?_, ?_, rfl, rfl⟩
  · rw [results_eq, Array.mapM_eq_mapM_toList]
    simp only [Sem.run_bind, Sem.run_map, h3, Result.andThen_ok, Sem.run_pure]
  · cases vs with
    | nil =>
      have : cs = [] := List.length_eq_zero_iff.1 hl
      subst this
      simp only [tupOf]
      show VR P ρ φ (.tup []) _
      simp only [VR]; exact ⟨_, rfl, h4⟩
    | cons x vs =>
      cases vs with
      | nil =>
        simp only [VRs] at h4
        obtain ⟨c, cs', rfl, h5, h6⟩ := h4
        subst h6
        exact h5
      | cons y vs =>
        have : ¬ cs.toArray.size = 1 := by simp at hl ⊢; omega
        rw [dif_neg this]
        show VR P ρ φ (.tup (x :: y :: vs)) _
        simp only [VR]; exact ⟨_, rfl, by simpa using h4⟩

/-! ## Functions -/

theorem slotsOk_inj : ∀ {m : SlotMap}, slotsOk m = true → Inj m
  | [], _, t, t', p, h1, _ => by cases h1
  | x :: l, hh, t, t', p, h1, h2 => by
    simp only [slotsOk, Bool.and_eq_true, List.all_eq_true] at hh
    have ih := slotsOk_inj (m := l) hh.2
    have mem : ∀ s q, slotOf l s = some q → ∃ y ∈ l, y.2 = q := by
      intro s q hs
      simp only [slotOf, Option.map_eq_some_iff] at hs
      obtain ⟨y, hy, rfl⟩ := hs
      exact ⟨y, List.mem_of_find?_eq_some hy, rfl⟩
    have ne : ∀ s, slotOf l s = some x.2 → False := by
      intro s hs
      obtain ⟨y, hy, e⟩ := mem s _ hs
      have := hh.1 y hy
      rw [e, Pos.beq_self] at this
      cases this
    have cases1 : ∀ s q, slotOf (x :: l) s = some q → (s = x.1 ∧ q = x.2) ∨ slotOf l s = some q := by
      intro s q hs
      simp only [slotOf, List.find?_cons] at hs
      cases hx : (x.1 == s) with
      | true =>
        rw [hx] at hs
        simp only [Option.map_some, Option.some.injEq] at hs
        exact .inl ⟨(by simpa using hx : x.1 = s).symm, hs.symm⟩
      | false => rw [hx] at hs; exact .inr hs
    rcases cases1 t p h1 with ⟨e1, e2⟩ | h3
    · rcases cases1 t' p h2 with ⟨e3, e4⟩ | h4
      · rw [e1, e3]
      · subst e2; exact (ne t' h4).elim
    · rcases cases1 t' p h2 with ⟨e3, e4⟩ | h4
      · subst e4; exact (ne t h3).elim
      · exact ih t t' p h3 h4

/-- A function's compiled form is right. -/
structure FnOk (P : Program) (f : Nat) (vf : VFn) : Prop where
  ex : ∃ fn m, P.funcs[f]? = some fn ∧ compFn P m fn = some vf
  name : ∀ fn, P.funcs[f]? = some fn → (fn.name == "runtime.NumGoroutine") = false

theorem fn_sound (hc : CallOk P ρ call) (hD : ∀ m N, Inj m → DrawOk P ρ m N call) {f : Nat} {vf : VFn} (hf : FnOk P f vf) {fuel : Nat} {vs : List V} {v : V} {h' : T O} {nx' : Pos}
    (hv : runFn call fuel vf vs h nx = .ok v h' nx') {args : Array Value} (hargs : VRs P ρ φ vs args.toList) (r : Rel P ρ φ h nx w) (hG : Gok P φ) : Invokes P f args w (After P ρ φ h nx w v h' nx') := by
  obtain ⟨fn, m, hfn, hcomp⟩ := hf.ex
  have hname := hf.name fn hfn
  unfold compFn at hcomp
  split at hcomp
  · cases hcomp
  · rename_i c hb
    split at hcomp
    · cases hcomp
    · rename_i hok
      have hI : Inj m := slotsOk_inj (by simpa using hok)
      split at hcomp
      · cases hcomp
      · rename_i rvs hrvs
        cases hcomp
        obtain ⟨t, h1, h2⟩ := wo_eq hv
        refine .inl ⟨?_, ?_⟩
        · simp [Go.callFunc, hfn, hb, (by simpa using hname : ¬ fn.name = "runtime.NumGoroutine")]
        · refine Go.calls_of_wp hfn hb ?_
          have hsz : fn.ntmps ≤ (args ++ Array.replicate (fn.ntmps - args.size) Go.undef).size := by simp; omega
          have B : Beg P ρ m fn.ntmps φ t h nx { tmps := args ++ Array.replicate (fn.ntmps - args.size) Go.undef, defers := [] } w := by
            refine ⟨fun t' p u h3 h4 => ?_, r, hG, hsz⟩
            rw [List.range_eq_range'] at h1
            rcases bindArgs_sound _ 0 vs .e t h1 p u h4 with h5 | ⟨i, h5, h6⟩
            · rw [T.get_e] at h5; cases h5
            · rw [Nat.zero_add] at h5
              have : i = t' := hI i t' p h5 h3
              subst this
              obtain ⟨c', h7, h8⟩ := hargs.get i u h6
              have hi : i < args.size := by
                have := (List.getElem?_eq_some_iff.1 h7).1
                simpa using this
              have : (args ++ Array.replicate (fn.ntmps - args.size) Go.undef).getD i Go.undef = c' := by
                rw [Array.getD_eq_getD_getElem?, Array.getElem?_append_left hi]
                rw [Array.getElem?_toList] at h7
                rw [h7]; rfl
              show VR P ρ φ u _
              rw [this]; exact h8
          have fin : ∀ {t1 : T V} {h1 : T O} {nx1 : Pos}, leave rvs t1 h1 nx1 = .ok v h' nx' → ∀ a' w', Left P ρ m fn.ntmps φ h nx { tmps := args ++ Array.replicate (fn.ntmps - args.size) Go.undef, defers := [] } w t1 h1 nx1 a' w' →
              a'.defers = [] ∧ ∃ v', (Go.results fn a'.tmps).run P w' = .ok v' w' ∧ After P ρ φ h nx w v h' nx' v' w' := by
            intro t1 h1 nx1 hl a' w' L
            obtain ⟨φ1, B1, e1, g1⟩ := L.beg hG
            obtain ⟨c', h3, h4, rfl, rfl⟩ := leave_sound B1 hrvs hl
            exact ⟨L.defers, c', h3, φ1, h4, B1.rel, e1, g1⟩
          refine (exec_sound hc hI (hD m fn.ntmps hI) fuel).1 c B ?_
          change (XR.rec WR.no (leave rvs) (fun _ _ _ _ => WR.no) (leave rvs) (exec call fuel (compCode P m fn.ntmps c) t h nx) : WR) = WR.ok v h' nx' at h2
          cases hx : exec call fuel (compCode P m fn.ntmps c) t h nx with
          | no => rw [hx] at h2; cases h2
          | exit id t1 h1 nx1 => rw [hx] at h2; cases h2
          | norm t1 h1 nx1 => rw [hx] at h2; exact fin h2
          | ret t1 h1 nx1 => rw [hx] at h2; exact fin h2

/-- All calls are right: those of the functions, and those that are known otherwise. -/
theorem callN_sound {fns : Nat → Option VFn} {prims : Caller} (hp : CallOk P ρ prims) (hf : ∀ f vf, fns f = some vf → FnOk P f vf) (hD : ∀ n, CallOk P ρ (callN fns prims n) → ∀ m N, Inj m → DrawOk P ρ m N (callN fns prims n)) :
    ∀ n, CallOk P ρ (callN fns prims n)
  | 0 => fun _ _ _ _ _ _ _ hh => by cases hh
  | n + 1 => by
    intro f vs h nx v h' nx' hh φ w args hargs r hG
    have ih := callN_sound hp hf hD n
    change wb (prims f vs h nx) (wo (fns f) fun fn => runFn (callN fns prims n) (Nat.add 10000 n) fn vs h nx) .ok = .ok v h' nx' at hh
    cases hpr : prims f vs h nx with
    | ok v1 h1 nx1 =>
      rw [hpr] at hh
      cases hh
      exact hp f vs h nx v h' nx' hpr φ w args hargs r hG
    | no =>
      rw [hpr] at hh
      obtain ⟨vf, h1, h2⟩ := wo_eq (show wo (fns f) (fun fn => runFn (callN fns prims n) (Nat.add 10000 n) fn vs h nx) = .ok v h' nx' from hh)
      exact fn_sound ih (hD n ih) (hf f vf h1) h2 hargs r hG

end GoVm

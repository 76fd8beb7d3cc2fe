/- Calls whose answers are known otherwise: of arguments without pointers, with an answer without pointers. -/
import Derived.Test.YtimknmaihfjdgaaGreatDoorVmG
import Derived.Lib.Bytealg
import Derived.Defers
import Derived.Recover
namespace GoVm
open Go (Value World Program)

variable {P : Program} {ρ : Nat → Int}

theorem Invokes.mono {f : Nat} {args : Array Value} {w : World} {R R' : Value → World → Prop} (i : Invokes P f args w R) (h : ∀ v w', R v w' → R' v w') : Invokes P f args w R' := by
  rcases i with ⟨h1, h2⟩ | ⟨c, w', h1, h2⟩
  · refine .inl ⟨h1, h2.mono fun e w' he => ?_⟩
    cases e with
    | returned v => exact h _ _ he
    | panicked c => exact he
    | outgrown => exact he
  · exact .inr ⟨c, w', h1, h _ _ h2⟩

/-- A value in which no block is named. -/
def plainV : V → Bool
  | .bool _ | .int _ _ | .sym .. | .str .. => true
  | _ => false

theorem VR.plain {φ φ' : Phi} {v : V} {c : Value} (hp : plainV v = true) (h : VR P ρ φ v c) : VR P ρ φ' v c := by
  cases v <;> first
    | (cases hp; done)
    | simpa only [VR] using h

theorem VRs.plain {φ φ' : Phi} : ∀ {vs : List V} {cs : List Value}, vs.all plainV = true → VRs P ρ φ vs cs → VRs P ρ φ' vs cs
  | [], cs, _, h => by simp only [VRs] at h; subst h; exact VRs.nil
  | v :: vs, cs, hp, h => by
    simp only [List.all_cons, Bool.and_eq_true] at hp
    simp only [VRs] at h
    obtain ⟨c, cs', rfl, h1, h2⟩ := h
    exact VRs.cons (h1.plain hp.1) (VRs.plain hp.2 h2)

/-- The memory in which nothing is known but where the package-level variables lie. -/
structure Bare (G : Nat) (h : T O) (nx : Pos) : Prop where
  get : ∀ g, g < G → h.get (Pos.ofNat g) = some .dead
  nx : nx.num = G + 1

def phiG (G : Nat) : Phi := fun p => if p.num < G + 1 then some ⟨p.num - 1, 0, 0, 0⟩ else none

theorem phiG_eq {G : Nat} {p : Pos} {q : Blk} (h : phiG G p = some q) : p.num < G + 1 ∧ p = Pos.ofNat (p.num - 1) ∧ q = ⟨p.num - 1, 0, 0, 0⟩ := by
  unfold phiG at h
  split at h
  · rename_i hl
    cases h
    refine ⟨hl, Pos.num_inj _ _ ?_, rfl⟩
    have := p.num_pos
    rw [Pos.num_ofNat]; omega
  · cases h

theorem phiG_gok {G : Nat} (hG : P.globals.size = G) : Gok P (phiG G) := by
  intro g hg
  refine ⟨⟨g, 0, 0, 0⟩, ?_, rfl, rfl⟩
  unfold phiG
  rw [Pos.num_ofNat, if_pos (by omega)]; simp

theorem Bare.rel {G : Nat} {h : T O} {nx : Pos} (b : Bare G h nx) {w : World} (hw : G ≤ w.heap.size) : Rel P ρ (phiG G) h nx w := by
  have key : ∀ a q, phiG G a = some q → h.get a = some .dead := by
    intro a q ha
    obtain ⟨h1, h2, _⟩ := phiG_eq ha
    have := a.num_pos
    rw [h2]; exact b.get _ (by omega)
  refine ⟨fun a q ha => ⟨.dead, key a q ha, trivial⟩, fun a q ha => ?_, fun a q ha => ?_, fun a c q r oa ob ha hc hoa hob hda => ?_⟩
  · have := (phiG_eq ha).1; rw [b.nx]; exact this
  · obtain ⟨h1, _, rfl⟩ := phiG_eq ha
    have := a.num_pos
    show a.num - 1 < _
    omega
  · rw [key a q ha] at hoa; cases hoa; exact absurd rfl hda

theorem Gok.size {φ : Phi} {h : T O} {nx : Pos} {w : World} (hG : Gok P φ) (r : Rel P ρ φ h nx w) : P.globals.size ≤ w.heap.size := by
  rcases Nat.eq_zero_or_pos P.globals.size with e | e
  · omega
  · obtain ⟨q, h1, h2, _⟩ := hG (P.globals.size - 1) (by omega)
    have := r.bnd _ _ h1
    omega

/-- What a run in the bare memory leaves: whatever was is as it was. -/
theorem Bare.kept {G : Nat} {h : T O} {nx : Pos} (b : Bare G h nx) {w w' : World} {h' : T O} {φ' : Phi} (e : Ext h (phiG G) w h' φ' w') : ∀ B, B < w.heap.size → w'.heap[B]? = w.heap[B]? := by
  intro B hB
  refine e.keep B hB fun a q o ha ho hw => ?_
  obtain ⟨h1, h2, _⟩ := phiG_eq ha
  have := a.num_pos
  rw [h2, b.get _ (by omega)] at ho
  cases ho; cases hw

/-- A call that was run in the bare memory is right in any. -/
theorem pure_call {call : Caller} (hc : CallOk P ρ call) {h0 : T O} {nx0 : Pos} (b : Bare P.globals.size h0 nx0) {f : Nat} {vs : List V} (hvs : vs.all plainV = true) {v : V} (hv : plainV v = true) {h1 : T O} {nx1 : Pos}
    (hr : call f vs h0 nx0 = .ok v h1 nx1) {φ : Phi} {h : T O} {nx : Pos} {w : World} {args : Array Value} (ha : VRs P ρ φ vs args.toList) (r : Rel P ρ φ h nx w) (hG : Gok P φ) :
    Invokes P f args w (After P ρ φ h nx w v h nx) := by
  refine (hc f vs h0 nx0 v h1 nx1 hr (phiG P.globals.size) w args (ha.plain hvs) (b.rel (hG.size r)) (phiG_gok rfl)).mono ?_
  rintro c w' ⟨φ', h2, r', e', g'⟩
  exact ⟨φ, h2.plain hv, r.wider e'.size (b.kept e'), .wider _ _ e'.size (b.kept e') e'.tape e'.os e'.output, .refl _ _⟩

/-- One known answer. -/
structure Known where
  f : Nat
  vs : List V
  v : V

noncomputable def okV (r : WR) (v : V) : Bool := WR.rec false (fun u _ _ => V.beq u v) r

/-- The answer of a list of known ones. -/
noncomputable def knownOf (f : Nat) (vs : List V) (l : List Known) : Option V :=
  List.rec none (fun k _ ih => Bool.rec ih (some k.v) (andB (Nat.beq f k.f) (V.beqs vs k.vs))) l

theorem knownOf_mem {f : Nat} {vs : List V} : ∀ {l : List Known} {v : V}, knownOf f vs l = some v → ⟨f, vs, v⟩ ∈ l
  | [], v, h => by cases h
  | k :: l, v, h => by
    change (Bool.rec (knownOf f vs l) (some k.v) (andB (Nat.beq f k.f) (V.beqs vs k.vs)) : Option V) = some v at h
    cases hb : andB (Nat.beq f k.f) (V.beqs vs k.vs) with
    | false => rw [hb] at h; exact List.mem_cons_of_mem _ (knownOf_mem h)
    | true =>
      rw [hb] at h
      cases h
      rw [andB_eq, Bool.and_eq_true] at hb
      have h1 : f = k.f := by simpa using hb.1
      have h2 := V.beqs_eq _ _ hb.2
      subst h1; subst h2
      exact List.mem_cons_self

noncomputable def pKnown (l : List Known) : Caller := fun f vs h nx => wo (knownOf f vs l) fun v => .ok v h nx

/-- Are the answers what a caller says in a memory? -/
noncomputable def knownOk (call : Caller) (h : T O) (nx : Pos) (l : List Known) : Bool :=
  List.rec true (fun k _ ih => andB (andB (k.vs.all plainV) (plainV k.v)) (andB (okV (call k.f k.vs h nx) k.v) ih)) l

theorem knownOk_mem {call : Caller} {h : T O} {nx : Pos} : ∀ {l : List Known}, knownOk call h nx l = true → ∀ k ∈ l, k.vs.all plainV = true ∧ plainV k.v = true ∧ ∃ h1 nx1, call k.f k.vs h nx = .ok k.v h1 nx1
  | [], _, k, hk => by cases hk
  | x :: l, e, k, hk => by
    change andB (andB (x.vs.all plainV) (plainV x.v)) (andB (okV (call x.f x.vs h nx) x.v) (knownOk call h nx l)) = true at e
    simp only [andB_eq, Bool.and_eq_true] at e
    rcases List.mem_cons.1 hk with rfl | hk
    · refine ⟨e.1.1, e.1.2, ?_⟩
      have h1 := e.2.1
      cases hr : call k.f k.vs h nx with
      | no => rw [hr] at h1; cases h1
      | ok v h' nx' =>
        rw [hr] at h1
        have := V.beq_eq _ _ (show V.beq v k.v = true from h1)
        subst this
        exact ⟨h', nx', rfl⟩
    · exact knownOk_mem e.2.2 k hk

theorem known_ok {call : Caller} (hc : CallOk P ρ call) {h0 : T O} {nx0 : Pos} (b : Bare P.globals.size h0 nx0) {l : List Known} (hl : knownOk call h0 nx0 l = true) : CallOk P ρ (pKnown l) := by
  intro f vs h nx v h' nx' hr φ w args ha r hG
  obtain ⟨u, h1, h2⟩ := wo_eq hr
  cases h2
  obtain ⟨h3, h4, h5, nx5, h6⟩ := knownOk_mem hl _ (knownOf_mem h1)
  exact pure_call hc b h3 h4 h6 ha r hG

theorem known_mono (l : List Known) : CallMono (pKnown l) := by
  intro f vs h nx
  refine WLe.wo fun v => WLe.ok (Nat.le_refl _)

/-- One caller, else another. -/
noncomputable def orCall (a b : Caller) : Caller := fun f vs h nx => wb (a f vs h nx) (b f vs h nx) .ok

theorem orCall_ok {a b : Caller} (ha : CallOk P ρ a) (hb : CallOk P ρ b) : CallOk P ρ (orCall a b) := by
  intro f vs h nx v h' nx' hr
  change wb (a f vs h nx) (b f vs h nx) .ok = .ok v h' nx' at hr
  cases hx : a f vs h nx with
  | no => rw [hx] at hr; exact hb f vs h nx v h' nx' hr
  | ok v1 h1 nx1 => rw [hx] at hr; cases hr; exact ha f vs h nx v h' nx' hx

theorem orCall_mono {a b : Caller} (ha : CallMono a) (hb : CallMono b) : CallMono (orCall a b) := by
  intro f vs h nx
  change WLe nx (wb (a f vs h nx) (b f vs h nx) .ok)
  have h1 := ha f vs h nx
  cases hx : a f vs h nx with
  | no => exact hb f vs h nx
  | ok v1 h1' nx1 => rw [hx] at h1; exact h1


/-- A caller for one function alone. -/
noncomputable def pAt (f0 : Nat) (c : Caller) : Caller := fun f vs h nx => cnd (Nat.beq f f0) (c f vs h nx) .no

theorem pAt_ok {f0 : Nat} {c : Caller} (hc : CallOk P ρ c) : CallOk P ρ (pAt f0 c) := by
  intro f vs h nx v h' nx' hr
  change cnd (Nat.beq f f0) (c f vs h nx) .no = .ok v h' nx' at hr
  cases hb : Nat.beq f f0 with
  | false => rw [hb] at hr; cases hr
  | true => rw [hb] at hr; exact hc f vs h nx v h' nx' hr

theorem pAt_mono {f0 : Nat} {c : Caller} (hc : CallMono c) : CallMono (pAt f0 c) := fun f vs h nx => WLe.cnd (hc f vs h nx) WLe.no

end GoVm

/- Two functions of the library that have no body: a byte's first place in a text, and how often it stands there. -/
namespace GoVm
open Go (Value World Program Sem)

variable {P : Program} {ρ : Nat → Int}

noncomputable def idxGo (n a c : Nat) : Nat → Nat → Int :=
  Nat.rec (fun _ => .negSucc 0) (fun _ ih i => Bool.rec (forceN (Nat.succ i) ih) (.ofNat i) (Nat.beq (byteAt n a i) c))
noncomputable def cntGo (n a c : Nat) : Nat → Nat → Nat → Nat :=
  Nat.rec (fun _ acc => acc) (fun _ ih i acc => forceN (Nat.succ i) fun j => Bool.rec (ih j acc) (forceN (Nat.succ acc) (ih j)) (Nat.beq (byteAt n a i) c))

theorem idxGo_succ (n a c k i : Nat) : idxGo n a c (k + 1) i = if byteAt n a i = c then (i : Int) else idxGo n a c k (i + 1) := by
  change (Bool.rec (forceN (Nat.succ i) (idxGo n a c k)) (.ofNat i) (Nat.beq (byteAt n a i) c) : Int) = _
  rw [forceN_eq]
  by_cases h : byteAt n a i = c
  · rw [if_pos h]
    have : Nat.beq (byteAt n a i) c = true := by simpa using h
    rw [this]; rfl
  · rw [if_neg h]
    have : Nat.beq (byteAt n a i) c = false := by
      cases hb : Nat.beq (byteAt n a i) c with
      | false => rfl
      | true => exact absurd (by simpa using hb) h
    rw [this]

theorem cntGo_succ (n a c k i acc : Nat) : cntGo n a c (k + 1) i acc = cntGo n a c k (i + 1) (if byteAt n a i = c then acc + 1 else acc) := by
  change forceN (Nat.succ i) (fun j => (Bool.rec (cntGo n a c k j acc) (forceN (Nat.succ acc) (cntGo n a c k j)) (Nat.beq (byteAt n a i) c) : Nat)) = _
  rw [forceN_eq]
  by_cases h : byteAt n a i = c
  · rw [if_pos h]
    have : Nat.beq (byteAt n a i) c = true := by simpa using h
    rw [this]
    show forceN (Nat.succ acc) (cntGo n a c k (i + 1)) = _
    rw [forceN_eq]
  · rw [if_neg h]
    have : Nat.beq (byteAt n a i) c = false := by
      cases hb : Nat.beq (byteAt n a i) c with
      | false => rfl
      | true => exact absurd (by simpa using hb) h
    rw [this]

theorem byte_is {c : Nat} (hc : c < 256) (b : UInt8) : (b.toNat = c) ↔ (b == c.toUInt8) = true := by
  rw [beq_iff_eq]
  constructor
  · intro h
    apply UInt8.toNat_inj.1
    rw [h]; simp [Nat.mod_eq_of_lt hc]
  · intro h
    rw [h]; simp [Nat.mod_eq_of_lt hc]

theorem indexByte_cons (b : UInt8) (l : List UInt8) (c : UInt8) : Go.Lib.indexByte (b :: l) c = if b == c then 0 else if Go.Lib.indexByte l c == -1 then -1 else Go.Lib.indexByte l c + 1 := rfl

theorem idxGo_eq (l : List UInt8) {c : Nat} (hc : c < 256) : ∀ (k i : Nat), i + k = l.length →
    idxGo l.length (numL l) c k i = if Go.Lib.indexByte (l.drop i) c.toUInt8 = -1 then -1 else Go.Lib.indexByte (l.drop i) c.toUInt8 + i
  | 0, i, h => by
    have : l.drop i = [] := List.drop_eq_nil_of_le (by omega)
    rw [this]; rfl
  | k + 1, i, h => by
    have hi : i < l.length := by omega
    rw [idxGo_succ, byteAt_eq l i hi, List.drop_eq_getElem_cons hi]
    have ih := idxGo_eq l hc k (i + 1) (by omega)
    rw [ih, indexByte_cons]
    by_cases h1 : (l[i]).toNat = c
    · rw [if_pos h1, if_pos ((byte_is hc _).1 h1)]
      simp
    · rw [if_neg h1, if_neg (fun h2 => h1 ((byte_is hc _).2 h2))]
      have hge := Go.Lib.indexByte_ge (l.drop (i + 1)) c.toUInt8
      generalize Go.Lib.indexByte (l.drop (i + 1)) c.toUInt8 = r at hge ⊢
      by_cases h3 : r = -1
      · simp [h3]
      · simp only [beq_iff_eq, h3, if_false]
        rw [if_neg (by omega)]
        omega

theorem cntGo_eq (l : List UInt8) {c : Nat} (hc : c < 256) : ∀ (k i acc : Nat), i + k = l.length → cntGo l.length (numL l) c k i acc = acc + Go.Lib.countByte (l.drop i) c.toUInt8
  | 0, i, acc, h => by
    have : l.drop i = [] := List.drop_eq_nil_of_le (by omega)
    rw [this]; rfl
  | k + 1, i, acc, h => by
    have hi : i < l.length := by omega
    rw [cntGo_succ, byteAt_eq l i hi, cntGo_eq l hc k (i + 1) _ (by omega), List.drop_eq_getElem_cons hi]
    unfold Go.Lib.countByte
    rw [List.count_cons]
    by_cases h1 : (l[i]).toNat = c
    · rw [if_pos h1, if_pos ((byte_is hc _).1 h1)]; omega
    · rw [if_neg h1, if_neg (fun h2 => h1 ((byte_is hc _).2 h2))]; omega

/-- A function without a body, of which the model knows what it does. -/
structure IsExt (P : Program) (f : Nat) (e : Array Value → Sem Value) : Prop where
  ex : ∃ fn, P.funcs[f]? = some fn ∧ (fn.name == "runtime.NumGoroutine") = false ∧ fn.body.isNone = true ∧ Go.Extern.findNext fn = none ∧ Go.Extern.find fn = some e

theorem IsExt.run {f : Nat} {e : Array Value → Sem Value} (h : IsExt P f e) {args : Array Value} {w : World} {c : Value} (hr : (e args).run P w = .ok c w) : (Go.callFunc f args).run P w = .ok (.value c) w := by
  obtain ⟨fn, h1, h2, h3, h4, h5⟩ := h.ex
  rw [Go.run_callFunc_extern h1 h2 h3 h4 h5, hr]; rfl

noncomputable def two (vs : List V) (k : V → V → Option V) : Option V := List.rec none (fun x r _ => List.rec none (fun y q _ => List.rec (k x y) (fun _ _ _ => none) q) r) vs
noncomputable def idxK (x y : V) : Option V := vStr x fun n a => vInt y (fun k _ => ob (asNatV y) fun c => cnd (andB (beqK k .u8) (Nat.blt c 256)) (mkI .i64 (idxGo n a c n 0)) none) (fun _ _ _ _ => none)
noncomputable def cntK (x y : V) : Option V := vStr x fun n a => vInt y (fun k _ => ob (asNatV y) fun c => cnd (andB (beqK k .u8) (Nat.blt c 256)) (mkI .i64 (.ofNat (cntGo n a c n 0 0))) none) (fun _ _ _ _ => none)
noncomputable def pFor (f0 : Nat) (k : V → V → Option V) : Caller := fun f vs h nx => cnd (Nat.beq f f0) (wo (two vs k) fun v => .ok v h nx) .no

theorem two_eq {vs : List V} {k : V → V → Option V} {v : V} (h : two vs k = some v) : ∃ x y, vs = [x, y] ∧ k x y = some v := by
  match vs, h with
  | [], h => cases h
  | [x], h => cases h
  | [x, y], h => exact ⟨x, y, rfl, h⟩
  | x :: y :: z :: l, h => cases h

theorem ext_ok {f0 : Nat} {k : V → V → Option V} {e : Array Value → Sem Value} (he : IsExt P f0 e)
    (hk : ∀ x y v, k x y = some v → ∃ n a z, x = .str n a ∧ y = .int .u8 z ∧ ∀ s, StrOk n a s → ∀ w, ∃ c, (e #[.string s, .int .u8 z]).run P w = .ok c w ∧ ∀ φ, VR P ρ φ v c) : CallOk P ρ (pFor f0 k) := by
  intro f vs h nx v h' nx' hr φ w args ha r hG
  change cnd (Nat.beq f f0) (wo (two vs k) fun v => WR.ok v h nx) .no = _ at hr
  cases hb : Nat.beq f f0 with
  | false => rw [hb] at hr; cases hr
  | true =>
    rw [hb] at hr
    have : f = f0 := by simpa using hb
    subst this
    obtain ⟨u, h1, h2⟩ := wo_eq (show wo (two vs k) (fun v => WR.ok v h nx) = _ from hr)
    cases h2
    obtain ⟨x, y, rfl, h3⟩ := two_eq h1
    obtain ⟨n, a, z, rfl, rfl, h4⟩ := hk x y _ h3
    simp only [VRs, VR] at ha
    obtain ⟨c1, l1, e1, ⟨s, rfl, hs⟩, c2, l2, rfl, rfl, rfl⟩ := ha
    obtain ⟨args⟩ := args
    simp only at e1
    subst e1
    obtain ⟨c, h5, h6⟩ := h4 s hs w
    exact .inr ⟨c, w, he.run h5, φ, h6 φ, r, .refl _ _ _, .refl _ _⟩

theorem ext_mono (f0 : Nat) (k : V → V → Option V) : CallMono (pFor f0 k) := by
  intro f vs h nx
  exact WLe.cnd (WLe.wo fun v => WLe.ok (Nat.le_refl _)) WLe.no

theorem idx_ok {f0 : Nat} (he : IsExt P f0 Go.Extern.BytealgIndexByte.indexByte) : CallOk P ρ (pFor f0 idxK) := by
  refine ext_ok he fun x y v hh => ?_
  obtain ⟨n, a, rfl, h1⟩ := vStr_eq hh
  cases y <;> try (cases h1; done)
  rename_i k z
  obtain ⟨c, h2, h3⟩ := ob_eq (show ob (asNatV (.int k z)) (fun c => cnd (andB (beqK k .u8) (Nat.blt c 256)) (mkI .i64 (idxGo n a c n 0)) none) = some v from h1)
  obtain ⟨h4, h5⟩ := cnd_some h3
  rw [andB_eq, Bool.and_eq_true, beqK_eq] at h4
  obtain ⟨rfl, h6⟩ := h4
  have h7 : c < 256 := Nat.lt_succ_of_le (by simpa [Nat.blt] using h6)
  have hz : z = (c : Int) := by
    cases z with
    | ofNat m => cases h2; rfl
    | negSucc m => cases h2
  subst hz
  rw [mkI_eq] at h5; cases h5
  refine ⟨n, a, _, rfl, rfl, fun s hs w => ⟨_, Go.Lib.run_indexByteString s _ w, fun φ => ?_⟩⟩
  obtain ⟨rfl, rfl, _⟩ := hs
  rw [idxGo_eq _ h7 _ 0 (by omega)]
  simp only [VR, Int.toNat_natCast, List.drop_zero]
  congr 1
  split
  · rename_i h; exact h
  · simp

theorem cnt_ok {f0 : Nat} (he : IsExt P f0 Go.Extern.BytealgCount.count) : CallOk P ρ (pFor f0 cntK) := by
  refine ext_ok he fun x y v hh => ?_
  obtain ⟨n, a, rfl, h1⟩ := vStr_eq hh
  cases y <;> try (cases h1; done)
  rename_i k z
  obtain ⟨c, h2, h3⟩ := ob_eq (show ob (asNatV (.int k z)) (fun c => cnd (andB (beqK k .u8) (Nat.blt c 256)) (mkI .i64 (.ofNat (cntGo n a c n 0 0))) none) = some v from h1)
  obtain ⟨h4, h5⟩ := cnd_some h3
  rw [andB_eq, Bool.and_eq_true, beqK_eq] at h4
  obtain ⟨rfl, h6⟩ := h4
  have h7 : c < 256 := Nat.lt_succ_of_le (by simpa [Nat.blt] using h6)
  have hz : z = (c : Int) := by
    cases z with
    | ofNat m => cases h2; rfl
    | negSucc m => cases h2
  subst hz
  rw [mkI_eq] at h5; cases h5
  refine ⟨n, a, _, rfl, rfl, fun s hs w => ⟨_, Go.Lib.run_countString s _ w, fun φ => ?_⟩⟩
  obtain ⟨rfl, rfl, _⟩ := hs
  rw [cntGo_eq _ h7 _ 0 0 (by omega)]
  simp only [VR, Int.toNat_natCast, List.drop_zero, Nat.zero_add]
  rfl

end GoVm

/- A function that defers one closure, which finds nothing to recover. -/
namespace GoVm
open Go (Value World Addr Obj MapEntry Program Operand Oper Op IntKind BinOp Sem Result run_underlying Exit LetsOut Calls wpList yielded Code Frame Item Arrives lone ResultVar CallsD)

variable {P : Program} {ρ : Nat → Int} {φ : Phi} {m : SlotMap} {N : Nat} {slots : T V} {a : Go.Act} {h : T O} {nx : Pos} {w : World} {call : Caller}

/-- Whatever was is as it was. -/
structure Wider (w w' : World) : Prop where
  size : w.heap.size ≤ w'.heap.size
  keep : ∀ B, B < w.heap.size → w'.heap[B]? = w.heap[B]?
  tape : w'.tape = w.tape
  os : w'.os = w.os
  output : w'.output = w.output

theorem fn_parts {fn : Go.Func} {vf : VFn} (hc : compFn P m fn = some vf) {c : Code} (hb : fn.body = some c) :
    slotsOk m = true ∧ fn.results.toList.mapM (compRes P m fn.ntmps) = some vf.res ∧ vf.code = compCode P m fn.ntmps c ∧ vf.params = (List.range (fn.params.size + fn.nfree)).map (slotOf m) := by
  unfold compFn at hc
  rw [hb] at hc
  simp only at hc
  split at hc
  · cases hc
  · rename_i hok
    split at hc
    · cases hc
    · rename_i r hr
      cases hc
      exact ⟨by simpa using hok, hr, rfl, rfl⟩

/-- Where a function's body begins. -/
theorem enter_beg (hI : Inj m) {n : Nat} {vs : List V} {t : T V} (h1 : bindArgs ((List.range n).map (slotOf m)) vs .e = some t) {args : Array Value} (hargs : VRs P ρ φ vs args.toList) (r : Rel P ρ φ h nx w) (hG : Gok P φ) (N : Nat) :
    Beg P ρ m N φ t h nx { tmps := args ++ Array.replicate (N - args.size) Go.undef, defers := [] } w := by
  have hsz : N ≤ (args ++ Array.replicate (N - args.size) Go.undef).size := by simp; omega
  refine ⟨fun t' p u h3 h4 => ?_, r, hG, hsz⟩
  rw [List.range_eq_range'] at h1
  rcases bindArgs_sound _ 0 vs .e t h1 p u h4 with h5 | ⟨i, h5, h6⟩
  · rw [T.get_e] at h5; cases h5
  · rw [Nat.zero_add] at h5
    have : i = t' := hI i t' p h5 h3
    subst this
    obtain ⟨c', h7, h8⟩ := hargs.get i u h6
    have hi : i < args.size := by
      have := (List.getElem?_eq_some_iff.1 h7).1
      simpa using this
    have : (args ++ Array.replicate (N - args.size) Go.undef).getD i Go.undef = c' := by
      rw [Array.getD_eq_getD_getElem?, Array.getElem?_append_left hi]
      rw [Array.getElem?_toList] at h7
      rw [h7]; rfl
    show VR P ρ φ u _
    rw [this]; exact h8

/-- Does a piece of code come to its end? -/
noncomputable def ends (x : XR) : Bool := XR.rec false (fun _ _ _ => true) (fun _ _ _ _ => false) (fun _ _ _ => true) x

/-- The closure: it asks for what is to be recovered; there is nothing. -/
theorem closure_quiet (hc : CallOk P ρ call) (hD : DrawOk P ρ m N call) (hI : Inj m) {g : Nat} {fn : Go.Func} (hf : P.funcs[g]? = some fn) {id d x : Nat} {o1 o2 : Oper} {rest : Code} (hb : fn.body = some (.seq (.region id #[o1, o2] false) rest))
    {ts : Array Nat} (h1 : o1.op = .call ⟨.builtin .recover, #[], ts⟩) (g1 : o1.guard = none) (d1 : o1.dst = some x) (h2 : o2.op = .assign (.tmp x)) (g2 : o2.guard = none) (d2 : o2.dst = some d) (hx : x < fn.ntmps) (hdN : d < fn.ntmps) (hN : fn.ntmps = N) (hres : fn.results = #[])
    {p : Pos} (hs : slotOf m d = some p) {h0 : T O} {nx0 : Pos} (b : Bare P.globals.size h0 nx0) {n : Nat} (he : ends (exec call n (compCode P m N rest) (T.put .nili p .e) h0 nx0) = true) (args : Array Value) (hsz : P.globals.size ≤ w.heap.size) :
    CallsD P g args .returning w fun e u w' => u = .returning ∧ (∃ v, e = .returned v) ∧ Wider w w' := by
  refine Go.callsD_of_wpS hf hb fun c₀ cs hu => ?_
  refine Go.wpS_seq (Go.wpS_region ?_)
  have hr0 : Go.recoverD (c₀ :: cs) = none := by
    simp [Go.recoverD, hu]
  have e1 : ∀ (a : Go.Act), (Go.execOp a.eval o1).run P w = .ok .recover w := by
    intro a; simp [Go.execOp, h1, Go.resolve, Go.invoke, Go.builtin]
  have e2 : ∀ (a : Go.Act), (Go.execOp a.eval o2).run P w = .ok (.value (a.eval (.tmp x))) w := by
    intro a; simp [Go.execOp, h2]
  have w1 : ∀ y, Go.Region.wanted o1 y = true := fun y => by simp [Go.Region.wanted, g1]
  have w2 : ∀ y, Go.Region.wanted o2 y = true := fun y => by simp [Go.Region.wanted, g2]
  have hr2 : List.range (#[o1, o2] : Array Oper).size = [0, 1] := rfl
  rw [hr2]
  simp only [Go.wpOpsS, List.getElem?_toArray, List.getElem?_cons_zero, List.getElem?_cons_succ, w1, w2, if_true, e1, hr0, e2, Go.Oper.upon_value]
  show Code.wpS P rest (Go.bodyPostS P fn c₀ cs _) _ (c₀ :: cs) w
  refine Go.wpS_of_wp ?_
  generalize ha0 : ({ tmps := args ++ Array.replicate (fn.ntmps - args.size) Go.undef, defers := [] } : Go.Act) = a0
  have hz0 : fn.ntmps ≤ a0.tmps.size := by rw [← ha0]; simp; omega
  have hd0 : a0.defers = [] := by rw [← ha0]
  have hev : (a0.put o1.dst Value.nilIface).eval (.tmp x) = Value.nilIface := by
    rw [d1]
    exact put_same (by omega)
  rw [hev]
  generalize ha1 : (a0.put o1.dst Value.nilIface).put o2.dst Value.nilIface = a1
  have hz1 : fn.ntmps ≤ a1.tmps.size := by rw [← ha1, put_size, put_size]; exact hz0
  have hd1 : a1.defers = [] := by rw [← ha1, put_defers, put_defers]; exact hd0
  have hv1 : a1.tmps.getD d Go.undef = Value.nilIface := by
    rw [← ha1, d2]; exact put_same (by rw [put_size]; omega)
  have B : Beg P ρ m N (phiG P.globals.size) (T.put .nili p .e) h0 nx0 a1 w := by
    refine ⟨fun t q u h3 h4 => ?_, b.rel hsz, phiG_gok rfl, by omega⟩
    by_cases e : q = p
    · subst e
      rw [T.get_put_same] at h4; cases h4
      have : t = d := hI t d q h3 hs
      subst this
      simp only [VR]; exact hv1
    · rw [T.get_put_other _ _ _ _ e, T.get_e] at h4; cases h4
  have fin : ∀ {t1 : T V} {h1 : T O} {nx1 : Pos} (a' : Go.Act) (w' : World), Left P ρ m N (phiG P.globals.size) h0 nx0 a1 w t1 h1 nx1 a' w' →
      a'.defers = [] ∧ Wider w w' ∧ (Go.results fn a'.tmps).run P w' = .ok (.tuple #[]) w' := by
    intro t1 h1 nx1 a' w' L
    obtain ⟨⟨φ', _, _, e', _⟩, _, hd⟩ := L
    refine ⟨hd.trans hd1, ⟨e'.size, b.kept e', e'.tape, e'.os, e'.output⟩, ?_⟩
    rw [results_eq, hres]
    simp
  have hc0 : (c₀ : Frame) = { c₀ with mode := .returning } := by rw [← hu]
  refine (exec_sound hc hI hD n).1 rest B ?_
  cases hx : exec call n (compCode P m N rest) (T.put .nili p .e) h0 nx0 with
  | no => rw [hx] at he; cases he
  | exit id t1 h1 nx1 => rw [hx] at he; cases he
  | norm t1 h1 nx1 =>
    intro a' w' L
    obtain ⟨q1, q2, q3⟩ := fin a' w' L
    exact ⟨q1, .returning, by rw [← hc0], _, q3, rfl, ⟨_, rfl⟩, q2⟩
  | ret t1 h1 nx1 =>
    intro a' w' L
    obtain ⟨q1, q2, q3⟩ := fin a' w' L
    exact ⟨q1, .returning, by rw [← hc0], _, q3, rfl, ⟨_, rfl⟩, q2⟩

/-- Runs one piece behind another. -/
noncomputable def xn (x : XR) (k : T V → T O → Pos → WR) : WR := XR.rec .no k (fun _ _ _ _ => .no) (fun _ _ _ => .no) x
noncomputable def xr (x : XR) (k : T V → T O → Pos → WR) : WR := XR.rec .no k (fun _ _ _ _ => .no) k x

theorem xn_eq {x : XR} {k : T V → T O → Pos → WR} {v : V} {h' : T O} {nx' : Pos} (e : xn x k = .ok v h' nx') : ∃ t h nx, x = .norm t h nx ∧ k t h nx = .ok v h' nx' := by
  cases x with
  | norm t h nx => exact ⟨t, h, nx, rfl, e⟩
  | _ => cases e
theorem xr_eq {x : XR} {k : T V → T O → Pos → WR} {v : V} {h' : T O} {nx' : Pos} (e : xr x k = .ok v h' nx') : ∃ t h nx, (x = .norm t h nx ∨ x = .ret t h nx) ∧ k t h nx = .ok v h' nx' := by
  cases x with
  | norm t h nx => exact ⟨t, h, nx, .inl rfl, e⟩
  | ret t h nx => exact ⟨t, h, nx, .inr rfl, e⟩
  | _ => cases e

/-- The run of a function whose fourth piece makes a closure and defers it. -/
noncomputable def deferGo (call : Caller) (n : Nat) (ps : List (Option Pos)) (x1 x2 x3 x4 : VC) (res : List RV) (vs : List V) (h : T O) (nx : Pos) : WR :=
  wo (bindArgs ps vs .e) fun t => xn (exec call n x1 t h nx) fun t h nx => xn (exec call n x2 t h nx) fun t h nx => xn (exec call n x3 t h nx) fun t h nx => xr (exec call n x4 t h nx) (leave res)

theorem seq_norm (hc : CallOk P ρ call) (hD : DrawOk P ρ m N call) (hI : Inj m) {x y : Code} {n : Nat} {Q : Exit → Go.Act → World → Prop} {t1 : T V} {h1 : T O} {nx1 : Pos} (B : Beg P ρ m N φ slots h nx a w)
    (hx : exec call n (compCode P m N x) slots h nx = .norm t1 h1 nx1)
    (hy : ∀ a' w' φ', Beg P ρ m N φ' t1 h1 nx1 a' w' → Ext h φ w h1 φ' w' → Grow φ nx φ' nx1 → a'.defers = a.defers → y.wp P Q a' w') : (Code.seq x y).wp P Q a w := by
  refine Go.wp_seq ((exec_sound hc hI hD n).1 x B ?_)
  rw [hx]
  intro a' w' L
  obtain ⟨φ', B', e', g'⟩ := L.beg B.gok
  exact hy a' w' φ' B' e' g' L.defers

theorem defer_sound (hc : CallOk P ρ call) (hDr : ∀ m N, Inj m → DrawOk P ρ m N call) {f : Nat} {fn : Go.Func} {vf : VFn} (hf : P.funcs[f]? = some fn) (hname : (fn.name == "runtime.NumGoroutine") = false) (hcomp : compFn P m fn = some vf)
    {A1 A2 A3 X4 : Code} {id d g : Nat} {o1 o2 : Oper} (hb : fn.body = some (.seq A1 (.seq A2 (.seq A3 (.seq (.region id #[o1, o2] false) X4)))))
    {caps : Array Operand} {ts : Array Nat} (h1 : o1.op = .makeFunc (.func g) #[] caps) (g1 : o1.guard = none) (d1 : o1.dst = some d) (h2 : o2.op = .defer ⟨.value (.tmp d), #[], ts⟩) (g2 : o2.guard = none) (d2 : o2.dst = none) (hd : d < fn.ntmps) (hs : slotOf m d = none)
    (hg : ∀ (args : Array Value) (w : World), P.globals.size ≤ w.heap.size → (Go.callFunc g args).run P w = .ok (.enter g args) w ∧ CallsD P g args .returning w fun e u w' => u = .returning ∧ (∃ v, e = .returned v) ∧ Wider w w')
    {n : Nat} {vs : List V} {v : V} {h' : T O} {nx' : Pos}
    (hv : deferGo call n vf.params (compCode P m fn.ntmps A1) (compCode P m fn.ntmps A2) (compCode P m fn.ntmps A3) (compCode P m fn.ntmps X4) vf.res vs h nx = .ok v h' nx')
    {args : Array Value} (hargs : VRs P ρ φ vs args.toList) (r : Rel P ρ φ h nx w) (hG : Gok P φ) : Invokes P f args w (After P ρ φ h nx w v h' nx') := by
  obtain ⟨hok, hres, hcode, hpar⟩ := fn_parts hcomp hb
  have hI : Inj m := slotsOk_inj hok
  have hD := hDr m fn.ntmps hI
  obtain ⟨t0, b0, hv⟩ := wo_eq hv
  obtain ⟨t1, h1', nx1, x1, hv⟩ := xn_eq hv
  obtain ⟨t2, h2', nx2, x2, hv⟩ := xn_eq hv
  obtain ⟨t3, h3', nx3, x3, hv⟩ := xn_eq hv
  obtain ⟨t4, h4', nx4, x4, hv⟩ := xr_eq hv
  rw [hpar] at b0
  refine .inl ⟨?_, ?_⟩
  · simp [Go.callFunc, hf, hb, (by simpa using hname : ¬ fn.name = "runtime.NumGoroutine")]
  · refine Go.calls_of_wp_defers hf hb ?_
    have B0 := enter_beg hI b0 hargs r hG fn.ntmps
    refine seq_norm hc hD hI B0 x1 fun a1 w1 φ1 B1 e1 gr1 de1 => seq_norm hc hD hI B1 x2 fun a2 w2 φ2 B2 e2 gr2 de2 => seq_norm hc hD hI B2 x3 fun a3 w3 φ3 B3 e3 gr3 de3 => ?_
    refine Go.wp_seq (Go.wp_region_list ?_)
    have w1' : ∀ y, Go.Region.wanted o1 y = true := fun y => by simp [Go.Region.wanted, g1]
    have w2' : ∀ y, Go.Region.wanted o2 y = true := fun y => by simp [Go.Region.wanted, g2]
    have q1 : (Go.execOp a3.eval o1).run P w3 = .ok (.value (.func (.func g) #[] (caps.map a3.eval))) w3 := by
      simp [Go.execOp, h1, Go.Instr.makeFunc]
    have hev : (a3.put o1.dst (.func (.func g) #[] (caps.map a3.eval))).eval (.tmp d) = .func (.func g) #[] (caps.map a3.eval) := by
      rw [d1]; exact put_same (Nat.lt_of_lt_of_le hd B3.sz)
    have q2 : (Go.execOp (a3.put o1.dst (.func (.func g) #[] (caps.map a3.eval))).eval o2).run P w3 = .ok (.defer { target := .fn (.func g) (caps.map a3.eval), args := #[] }) w3 := by
      simp [Go.execOp, h2, Go.resolve, Go.Deferred.ofValue, hev]
    show wpList P #[o1, o2] _ [o1, o2] a3 w3
    simp only [wpList, w1', w2', if_true]
    refine .inl ?_
    unfold Go.Oper.wp
    rw [q1, Go.Oper.upon_value]
    refine .inl ?_
    rw [q2, Go.Oper.upon_defer]
    show X4.wp P (Go.bodyPostD P fn _) _ w3
    have hde : a3.defers = [] := by rw [de3, de2, de1]
    generalize ha4 : Go.Act.put { (a3.put o1.dst (.func (.func g) #[] (caps.map a3.eval))) with defers := ({ target := .fn (.func g) (caps.map a3.eval), args := #[] } : Go.Deferred) :: (a3.put o1.dst (.func (.func g) #[] (caps.map a3.eval))).defers } o2.dst Go.undef = a4
    have ht4 : ∀ t, t ≠ d → a4.tmps.getD t Go.undef = a3.tmps.getD t Go.undef := by
      intro t ht
      rw [← ha4, d1, d2]
      exact put_ne ht
    have hz4 : a4.tmps.size = a3.tmps.size := by
      rw [← ha4, put_size]
      show (a3.put o1.dst _).tmps.size = _
      rw [put_size]
    have hd4 : a4.defers = [{ target := .fn (.func g) (caps.map a3.eval), args := #[] }] := by
      rw [← ha4, put_defers]
      show _ :: (a3.put o1.dst _).defers = _
      rw [put_defers, hde]
    have B4 : Beg P ρ m fn.ntmps φ3 t3 h3' nx3 a4 w3 := by
      refine ⟨fun t p u h3 h4 => ?_, B3.rel, B3.gok, by rw [hz4]; exact B3.sz⟩
      have : t ≠ d := fun e => by rw [e, hs] at h3; cases h3
      rw [ht4 t this]; exact B3.sr t p u h3 h4
    refine (exec_sound hc hI hD n).1 X4 B4 ?_
    have fin : ∀ (a5 : Go.Act) (w5 : World), Left P ρ m fn.ntmps φ3 h3' nx3 a4 w3 t4 h4' nx4 a5 w5 → Go.Leaves P fn a5.tmps (fun
        | .returned v', w' => After P ρ φ h nx w v h' nx' v' w'
        | _, _ => False) a5.defers .returning w5 := by
      intro a5 w5 L
      obtain ⟨φ5, B5, e5, gr5⟩ := L.beg B3.gok
      rw [L.defers, hd4]
      obtain ⟨k1, k2⟩ := hg (caps.map a3.eval) w5 (B5.gok.size B5.rel)
      refine Go.leaves_cons (f := g) (args := caps.map a3.eval) (by simp) ?_ (k2.mono ?_)
      · simpa [Go.invoke] using k1
      · rintro e u w6 ⟨rfl, ⟨v6, rfl⟩, W⟩
        have B6 : Beg P ρ m fn.ntmps φ5 t4 h4' nx4 a5 w6 := ⟨B5.sr, B5.rel.wider W.size W.keep, B5.gok, B5.sz⟩
        obtain ⟨c, l1, l2, rfl, rfl⟩ := leave_sound (fn := fn) B6 hres hv
        exact ⟨c, l1, φ5, l2, B6.rel, ((e1.trans e2).trans e3).trans (e5.trans (.wider _ _ W.size W.keep W.tape W.os W.output)), ((gr1.trans gr2).trans gr3).trans gr5⟩
    rcases x4 with x4 | x4
    · rw [x4]; exact fun a5 w5 L => fin a5 w5 L
    · rw [x4]; exact fun a5 w5 L => fin a5 w5 L

theorem WLe.xn {nx : Pos} {x : XR} {k : T V → T O → Pos → WR} (hx : XLe nx x) (hk : ∀ t h nx1, nx.num ≤ nx1.num → WLe nx (k t h nx1)) : WLe nx (xn x k) := by
  cases x with
  | norm t h nx1 => exact hk t h nx1 hx
  | no => exact WLe.no
  | exit id t h nx1 => exact WLe.no
  | ret t h nx1 => exact WLe.no
theorem WLe.xr {nx : Pos} {x : XR} {k : T V → T O → Pos → WR} (hx : XLe nx x) (hk : ∀ t h nx1, nx.num ≤ nx1.num → WLe nx (k t h nx1)) : WLe nx (xr x k) := by
  cases x with
  | norm t h nx1 => exact hk t h nx1 hx
  | ret t h nx1 => exact hk t h nx1 hx
  | no => exact WLe.no
  | exit id t h nx1 => exact WLe.no

theorem XLe.of {nx nx1 : Pos} {x : XR} (h : nx.num ≤ nx1.num) (g : XLe nx1 x) : XLe nx x := by
  cases x with
  | no => trivial
  | norm t h' nx2 => exact Nat.le_trans h g
  | exit id t h' nx2 => exact Nat.le_trans h g
  | ret t h' nx2 => exact Nat.le_trans h g

theorem defer_mono (hm : CallMono call) {n : Nat} {ps : List (Option Pos)} {x1 x2 x3 x4 : VC} {res : List RV} {vs : List V} : WLe nx (deferGo call n ps x1 x2 x3 x4 res vs h nx) := by
  refine WLe.wo fun t => WLe.xn (exec_mono hm n x1) fun t1 h1 nx1 l1 => WLe.xn (XLe.of l1 (exec_mono hm n x2)) fun t2 h2 nx2 l2 => WLe.xn (XLe.of l2 (exec_mono hm n x3)) fun t3 h3 nx3 l3 =>
    WLe.xr (XLe.of l3 (exec_mono hm n x4)) fun t4 h4 nx4 l4 => WLe.wo fun vs => WLe.ok l4

theorem FnOk.of {P : Program} {f : Nat} {fn : Go.Func} {m : SlotMap} {vf : VFn} (hf : P.funcs[f]? = some fn) (hn : (fn.name == "runtime.NumGoroutine") = false) (hc : compFn P m fn = some vf) : FnOk P f vf :=
  ⟨⟨fn, m, hf, hc⟩, fun fn' h' => by rw [hf] at h'; cases h'; exact hn⟩

/-- All of a tree's functions. -/
def allNT (p : Nat → VFn → Prop) : NT → Prop
  | .e => True
  | .l n f => p n f
  | .n _ a b => allNT p a ∧ allNT p b

theorem find_all {p : Nat → VFn → Prop} : ∀ {t : NT}, allNT p t → ∀ f vf, t.find f = some vf → p f vf
  | .e, _, f, vf, h => by cases h
  | .l i g, ha, f, vf, h => by
    change (Bool.rec none (some g) (Nat.beq f i) : Option VFn) = some vf at h
    cases hb : Nat.beq f i with
    | false => rw [hb] at h; cases h
    | true =>
      rw [hb] at h; cases h
      have : f = i := by simpa using hb
      subst this; exact ha
  | .n k a b, ha, f, vf, h => by
    change (Bool.rec (NT.find b f) (NT.find a f) (Nat.blt f k) : Option VFn) = some vf at h
    cases hb : Nat.blt f k with
    | false => rw [hb] at h; exact find_all ha.2 f vf h
    | true => rw [hb] at h; exact find_all ha.1 f vf h

end GoVm

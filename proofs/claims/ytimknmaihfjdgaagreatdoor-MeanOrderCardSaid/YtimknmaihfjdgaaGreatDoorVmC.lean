/- Each operation of the virtual machine on values does what the model's operation does. -/
import Derived.Test.YtimknmaihfjdgaaGreatDoorVmB
import Derived.WalkKit
import Derived.ProofKit
namespace GoVm
open Go (Value World Addr Obj MapEntry Program Operand Oper Op IntKind BinOp Sem Result)

variable {P : Program} {ρ : Nat → Int}

/-! ## Constants -/
theorem toArray_toList_mk (l : List Value) : (Array.mk l).toList = l := rfl

mutual
theorem convV_sound {φ : Phi} : ∀ (c : Value) (v : V), convV c = some v → VR P ρ φ v c
  | .bool b, v, h => by simp only [convV, Option.some.injEq] at h; subst h; simp [VR]
  | .int k n, v, h => by simp only [convV, Option.some.injEq] at h; subst h; simp [VR]
  | .float k b, v, h => by simp [convV] at h
  | .complex k r i, v, h => by simp [convV] at h
  | .string s, v, h => by simp only [convV, Option.some.injEq] at h; subst h; simp only [VR]; exact ⟨s, rfl, rfl, rfl⟩
  | .pointer none, v, h => by simp only [convV, Option.some.injEq] at h; subst h; simp [VR]
  | .pointer (some a), v, h => by simp [convV] at h
  | .slice none 0 0, v, h => by simp only [convV, Option.some.injEq] at h; subst h; simp [VR]
  | .slice none (n+1) m, v, h => by simp [convV] at h
  | .slice none 0 (m+1), v, h => by simp [convV] at h
  | .slice (some a) n m, v, h => by simp [convV] at h
  | .map none, v, h => by simp only [convV, Option.some.injEq] at h; subst h; simp [VR]
  | .map (some r), v, h => by simp [convV] at h
  | .chan r, v, h => by simp [convV] at h
  | .nilFunc, v, h => by simp only [convV, Option.some.injEq] at h; subst h; simp [VR]
  | .nilIface, v, h => by simp only [convV, Option.some.injEq] at h; subst h; simp [VR]
  | .iface t x, v, h => by
    simp only [convV] at h
    split at h
    · rename_i u hu; cases h; simp only [VR]; exact ⟨x, rfl, convV_sound x u hu⟩
    · cases h
  | .agg ⟨cs⟩, v, h => by
    simp only [convV] at h
    split at h
    · rename_i hall
      split at h
      · rename_i l hl; cases h; simp only [VR]
        exact ⟨⟨cs⟩, rfl, convVs_sound cs l hl, fun y hy => List.all_eq_true.1 hall y hy⟩
      · cases h
    · cases h
  | .tuple ⟨cs⟩, v, h => by
    simp only [convV] at h
    split at h
    · rename_i l hl; cases h; simp only [VR]; exact ⟨⟨cs⟩, rfl, convVs_sound cs l hl⟩
    · cases h
  | .func (.func f) ⟨a⟩ ⟨c⟩, v, h => by
    simp only [convV] at h
    split at h
    · rename_i x y hx hy; cases h; simp only [VR]; exact ⟨⟨a⟩, ⟨c⟩, rfl, convVs_sound a x hx, convVs_sound c y hy⟩
    · cases h
  | .func (.method n) a c, v, h => by simp [convV] at h
  | .func (.methodOf t n) a c, v, h => by simp [convV] at h
  | .func (.via t p f q) a c, v, h => by simp [convV] at h
  | .func (.yield l) a c, v, h => by simp [convV] at h
theorem convVs_sound {φ : Phi} : ∀ (cs : List Value) (vs : List V), convVs cs = some vs → VRs P ρ φ vs cs
  | [], vs, h => by simp only [convVs, Option.some.injEq] at h; subst h; exact VRs.nil
  | c :: cs, vs, h => by
    simp only [convVs] at h
    split at h
    · rename_i v l hv hl; cases h; exact VRs.cons (convV_sound c v hv) (convVs_sound cs l hl)
    · cases h
end

/-! ## Operands -/

/-- What is known of the temporaries while a region runs. -/
structure ER (P : Program) (ρ : Nat → Int) (m : SlotMap) (e : Env) (φ : Phi) (stk : List V) (slots : T V) (a : Go.Act) : Prop where
  len : stk.length = e.depth
  val : ∀ t l, elOf m e (.tmp t) = some l → (∀ i, l = .stk i → i < e.depth) ∧ ∀ v, loc (toLoc e l) stk slots = some v → VR P ρ φ v (a.tmps.getD t Go.undef)
  gl : ∀ g, g < e.G → ∃ q, φ (Pos.ofNat g) = some q ∧ q.B = g ∧ q.d = 0

section
variable {m : SlotMap} {e : Env} {φ : Phi} {stk : List V} {slots : T V} {a : Go.Act}

theorem ER.el (h : ER P ρ m e φ stk slots a) {x : Operand} {l : EL} (hx : elOf m e x = some l) {v : V} (hv : loc (toLoc e l) stk slots = some v) :
    VR P ρ φ v (a.eval x) := by
  cases x with
  | tmp t => exact (h.val t l hx).2 v hv
  | const c =>
    simp only [elOf, Option.map_eq_some_iff] at hx
    obtain ⟨u, hu, rfl⟩ := hx
    have : v = u := by simpa [toLoc, loc, locK] using hv.symm
    subst this
    exact convV_sound c v hu
  | global g =>
    simp only [elOf] at hx
    split at hx
    · rename_i hg
      cases hx
      have : v = .ptr (Pos.ofNat g) 0 := by simpa [toLoc, loc, locK] using hv.symm
      subst this
      obtain ⟨q, hq, hB, hd⟩ := h.gl g hg
      simp only [VR, Go.Act.eval]
      exact ⟨q, hq, by rw [hB, hd]⟩
    · cases hx
  | func f =>
    simp only [elOf, Option.some.injEq] at hx
    subst hx
    have : v = .fn f [] [] := by simpa [toLoc, loc, locK] using hv.symm
    subst this
    simp only [VR, Go.Act.eval]
    exact ⟨#[], #[], rfl, VRs.nil, VRs.nil⟩

theorem ER.lo (h : ER P ρ m e φ stk slots a) {x : Operand} {l : GoVm.Loc} (hx : locOf m e x = some l) {v : V} (hv : loc l stk slots = some v) :
    VR P ρ φ v (a.eval x) := by
  simp only [locOf, Option.map_eq_some_iff] at hx
  obtain ⟨el, h1, rfl⟩ := hx
  exact h.el h1 hv

theorem mapM_cons_some {α β : Type} {f : α → Option β} {x : α} {xs : List α} {r : List β} (h : (x :: xs).mapM f = some r) : ∃ y ys, f x = some y ∧ xs.mapM f = some ys ∧ r = y :: ys := by
  simp only [List.mapM_cons, Option.bind_eq_bind, Option.bind_eq_some_iff, Option.pure_def, Option.some.injEq] at h
  obtain ⟨y, hy, ys, hys, rfl⟩ := h
  exact ⟨y, ys, hy, hys, rfl⟩

theorem locs_cons {x : GoVm.Loc} {l : List GoVm.Loc} {vs : List V} (h : locs (x :: l) stk slots = some vs) : ∃ v r, loc x stk slots = some v ∧ locs l stk slots = some r ∧ vs = v :: r := by
  change ob (loc x stk slots) (fun v => ob (locs l stk slots) fun vs => some (v :: vs)) = some vs at h
  obtain ⟨v, hv, h⟩ := ob_eq h
  obtain ⟨r, hr, h⟩ := ob_eq h
  cases h
  exact ⟨v, r, hv, hr, rfl⟩

theorem ER.los (h : ER P ρ m e φ stk slots a) : ∀ (xs : List Operand) {ls : List GoVm.Loc}, xs.mapM (locOf m e) = some ls → ∀ {vs : List V}, locs ls stk slots = some vs →
    VRs P ρ φ vs (xs.map a.eval)
  | [], ls, hx, vs, hv => by
    have : ls = [] := by simpa using hx.symm
    subst this
    have : vs = [] := by simpa [locs] using hv.symm
    subst this
    exact VRs.nil
  | x :: xs, ls, hx, vs, hv => by
    obtain ⟨y, ys, h1, h2, rfl⟩ := mapM_cons_some hx
    obtain ⟨v, r, h3, h4, rfl⟩ := locs_cons hv
    exact VRs.cons (h.lo h1 h3) (h.los xs h2 h4)
end

end GoVm

/- Each operation of the virtual machine on values does what the model's operation does: arithmetic and texts. -/
namespace GoVm
open Go (Value World Addr Obj MapEntry Program Operand Oper Op IntKind BinOp Sem Result)

variable {P : Program} {ρ : Nat → Int} {φ : Phi}

/-! ## Wrapping -/
theorem wrap_emod (k : IntKind) (n : Int) : (k.wrap n) % (2 ^ k.bits : Int) = n % (2 ^ k.bits : Int) := by
  simp only [IntKind.wrap]
  split
  · rw [Int.sub_emod, Int.emod_self, Int.sub_zero, Int.emod_emod_of_dvd _ (Int.dvd_refl _), Int.emod_emod_of_dvd _ (Int.dvd_refl _)]
  · exact Int.emod_emod_of_dvd _ (Int.dvd_refl _)

theorem wrap_congr (k : IntKind) {x y : Int} (h : x % (2 ^ k.bits : Int) = y % (2 ^ k.bits : Int)) : k.wrap x = k.wrap y := by
  simp only [IntKind.wrap, h]

theorem wrap_add_l (k : IntKind) (x y : Int) : k.wrap (k.wrap x + y) = k.wrap (x + y) :=
  wrap_congr k (by rw [Int.add_emod, wrap_emod, ← Int.add_emod])
theorem wrap_add_r (k : IntKind) (x y : Int) : k.wrap (x + k.wrap y) = k.wrap (x + y) :=
  wrap_congr k (by rw [Int.add_emod, wrap_emod, ← Int.add_emod])
theorem wrap_sub_l (k : IntKind) (x y : Int) : k.wrap (k.wrap x - y) = k.wrap (x - y) :=
  wrap_congr k (by rw [Int.sub_emod, wrap_emod, ← Int.sub_emod])
theorem wrap_sub_r (k : IntKind) (x y : Int) : k.wrap (x - k.wrap y) = k.wrap (x - y) :=
  wrap_congr k (by rw [Int.sub_emod, wrap_emod, ← Int.sub_emod])
theorem wrap_mul_l (k : IntKind) (x y : Int) : k.wrap (k.wrap x * y) = k.wrap (x * y) :=
  wrap_congr k (by rw [Int.mul_emod, wrap_emod, ← Int.mul_emod])
theorem wrap_mul_r (k : IntKind) (x y : Int) : k.wrap (x * k.wrap y) = k.wrap (x * y) :=
  wrap_congr k (by rw [Int.mul_emod, wrap_emod, ← Int.mul_emod])
theorem wrap_wrap (k : IntKind) (x : Int) : k.wrap (k.wrap x) = k.wrap x := wrap_congr k (wrap_emod k x)

/-! ## Looks at values -/
section
variable {β : Type}
theorem vInt_eq {v : V} {f : IntKind → Int → Option β} {g : IntKind → Nat → Int → Int → Option β} {b : β} (h : vInt v f g = some b) :
    (∃ k n, v = .int k n ∧ f k n = some b) ∨ (∃ k x m c, v = .sym k x m c ∧ g k x m c = some b) := by
  cases v <;> first | (cases h; done) | exact .inl ⟨_, _, rfl, h⟩ | exact .inr ⟨_, _, _, _, rfl, h⟩
theorem vStr_eq {v : V} {f : Nat → Nat → Option β} {b : β} (h : vStr v f = some b) : ∃ n a, v = .str n a ∧ f n a = some b := by
  cases v <;> first | (cases h; done) | exact ⟨_, _, rfl, h⟩
theorem vBool_eq {v : V} {f : Bool → Option β} {b : β} (h : vBool v f = some b) : ∃ q, v = .bool q ∧ f q = some b := by
  cases v <;> first | (cases h; done) | exact ⟨_, rfl, h⟩
theorem vPtr_eq {v : V} {z : Option β} {f : Pos → Nat → Option β} {b : β} (h : vPtr v z f = some b) : (v = .nilp ∧ z = some b) ∨ ∃ p o, v = .ptr p o ∧ f p o = some b := by
  cases v <;> first | (cases h; done) | exact .inl ⟨rfl, h⟩ | exact .inr ⟨_, _, rfl, h⟩
theorem vSl_eq {v : V} {z : Option β} {f : Pos → Nat → Nat → Nat → Option β} {b : β} (h : vSl v z f = some b) : (v = .nils ∧ z = some b) ∨ ∃ p o n k, v = .sl p o n k ∧ f p o n k = some b := by
  cases v <;> first | (cases h; done) | exact .inl ⟨rfl, h⟩ | exact .inr ⟨_, _, _, _, rfl, h⟩
theorem vMap_eq {v : V} {z : Option β} {f : Pos → Option β} {b : β} (h : vMap v z f = some b) : (v = .nilm ∧ z = some b) ∨ ∃ p, v = .map p ∧ f p = some b := by
  cases v <;> first | (cases h; done) | exact .inl ⟨rfl, h⟩ | exact .inr ⟨_, rfl, h⟩
theorem vFn_eq {v : V} {f : Nat → List V → List V → Option β} {b : β} (h : vFn v f = some b) : ∃ n x y, v = .fn n x y ∧ f n x y = some b := by
  cases v <;> first | (cases h; done) | exact ⟨_, _, _, rfl, h⟩
theorem vIfc_eq {v : V} {z : Option β} {f : Nat → V → Option β} {b : β} (h : vIfc v z f = some b) : (v = .nili ∧ z = some b) ∨ ∃ t x, v = .ifc t x ∧ f t x = some b := by
  cases v <;> first | (cases h; done) | exact .inl ⟨rfl, h⟩ | exact .inr ⟨_, _, rfl, h⟩
theorem vAgg_eq {v : V} {f : List V → Option β} {b : β} (h : vAgg v f = some b) : ∃ l, v = .agg l ∧ f l = some b := by
  cases v <;> first | (cases h; done) | exact ⟨_, rfl, h⟩
theorem vTup_eq {v : V} {f : List V → Option β} {b : β} (h : vTup v f = some b) : ∃ l, v = .tup l ∧ f l = some b := by
  cases v <;> first | (cases h; done) | exact ⟨_, rfl, h⟩
theorem asNatV_eq {v : V} {n : Nat} (h : asNatV v = some n) : ∃ k, v = .int k (n : Int) := by
  obtain ⟨k, m, rfl, h⟩ | ⟨_, _, _, _, _, h⟩ := vInt_eq h
  · cases m with
    | ofNat m => cases h; exact ⟨k, rfl⟩
    | negSucc m => cases h
  · cases h
end

/-! ## Arithmetic -/

theorem arI_sound {op : BinOp} {op' : AOp} (ho : aop op = some op') {k l : IntKind} {x y r : Int} (hk : beqK k l = true ∨ isShift op' = true) (h : arI op' k x y = some r) (t : Nat) (w : World) :
    (Go.binOp op t (.int k x) (.int l y)).run P w = .ok (.int k r) w := by
  cases op <;> simp only [aop, Option.some.injEq, reduceCtorEq] at ho <;> subst ho
  case add =>
    have : k = l := hk.elim beqK_eq.1 (fun h => by cases h)
    subst this
    cases h
    simp [Go.binOp, Go.Op.intArith, wrapK_eq]
  case sub =>
    have : k = l := hk.elim beqK_eq.1 (fun h => by cases h)
    subst this
    cases h
    simp [Go.binOp, Go.Op.intArith, wrapK_eq]; rfl
  case mul =>
    have : k = l := hk.elim beqK_eq.1 (fun h => by cases h)
    subst this
    cases h
    simp [Go.binOp, Go.Op.intArith, wrapK_eq]
  case quo =>
    have : k = l := hk.elim beqK_eq.1 (fun h => by cases h)
    subst this
    change cnd (eqI y 0) none (some (wrapK k (Int.tdiv x y))) = some r at h
    rw [eqI_decide] at h
    by_cases hy : y = 0
    · simp [hy] at h
    · simp [hy] at h
      simp [Go.binOp, Go.Op.intDiv, hy, ← h, wrapK_eq]
  case rem =>
    have : k = l := hk.elim beqK_eq.1 (fun h => by cases h)
    subst this
    change cnd (eqI y 0) none (some (Int.tmod x y)) = some r at h
    rw [eqI_decide] at h
    by_cases hy : y = 0
    · simp [hy] at h
    · simp [hy] at h
      simp [Go.binOp, Go.Op.intDiv, hy, ← h]
  case shl =>
    cases y with
    | negSucc y => cases h
    | ofNat y =>
      change cnd (Nat.ble y 64) (some (wrapK k (Int.mul x (.ofNat (Nat.pow 2 y))))) none = some r at h
      have hy := (cnd_some h).1
      replace h := (cnd_some h).2
      cases h
      have hy' : y ≤ 64 := Nat.le_of_ble_eq_true hy
      have e1 : ¬ (Int.ofNat y < 0) := by simp
      simp only [Go.binOp, Go.Op.shift, e1, if_false, Sem.run_pure]
      congr 2
      rw [wrapK_eq]
      apply wrap_congr
      have e2 : (Int.ofNat y).toNat = y := rfl
      rw [e2]
      by_cases hb : y ≤ k.bits
      · rw [Nat.min_eq_left hb]; 
        have e4 : Int.mul x (Int.ofNat (Nat.pow 2 y)) = x * 2 ^ y := by
          show x * ((2 ^ y : Nat) : Int) = _
          simp
        rw [e4]
      · rw [Nat.min_eq_right (by omega)]
        obtain ⟨d, hd⟩ : ∃ d, y = k.bits + d := ⟨y - k.bits, by omega⟩
        have e3 : Int.mul x (Int.ofNat (Nat.pow 2 y)) = x * ((2 : Int) ^ k.bits * 2 ^ d) := by
          show x * ((2 ^ y : Nat) : Int) = _
          rw [hd, Nat.pow_add]; simp
        rw [e3, ← Int.mul_assoc, Int.mul_emod_left, Int.mul_assoc, Int.mul_comm (2 ^ k.bits : Int), ← Int.mul_assoc, Int.mul_emod_left]
  case shr =>
    cases x with
    | negSucc x => cases h
    | ofNat x =>
      cases y with
      | negSucc y => cases h
      | ofNat y =>
        change cnd (Nat.ble y 8) (some (Int.ofNat (Nat.div x (Nat.pow 2 y)))) none = some r at h
        have hy := (cnd_some h).1
        replace h := (cnd_some h).2
        cases h
        have hy' : y ≤ 8 := Nat.le_of_ble_eq_true hy
        have e1 : ¬ (Int.ofNat y < 0) := by simp
        simp only [Go.binOp, Go.Op.shift, e1, if_false, Sem.run_pure]
        have e2 : (Int.ofNat y).toNat = y := rfl
        have hb : y ≤ k.bits := by cases k <;> simp [IntKind.bits] <;> omega
        rw [e2, Nat.min_eq_left hb]
        have e3 : (Int.ofNat x).fdiv (2 ^ y) = Int.ofNat (Nat.div x (Nat.pow 2 y)) := by
          have : (2 : Int) ^ y = ((2 ^ y : Nat) : Int) := by simp
          rw [this, Int.fdiv_eq_ediv_of_nonneg _ (Int.natCast_nonneg _)]; rfl
        rw [e3]
  all_goals cases h

theorem arV_sound {op : BinOp} {op' : AOp} (ho : aop op = some op') {x y v : V} (h : arV op' x y = some v) {a b : Value} (hx : VR P ρ φ x a) (hy : VR P ρ φ y b) (t : Nat) (w : World) :
    ∃ c, (Go.binOp op t a b).run P w = .ok c w ∧ VR P ρ φ v c := by
  obtain ⟨k, n, rfl, h2⟩ | ⟨k, i, m, c0, rfl, h2⟩ := vInt_eq h
  · simp only [VR] at hx; subst hx
    clear h
    obtain ⟨l, r, rfl, h⟩ | ⟨l, i, m, c0, rfl, h⟩ := vInt_eq h2
    all_goals clear h2
    · simp only [VR] at hy; subst hy
      have hc := (cnd_some h).1
      replace h := (cnd_some h).2
      obtain ⟨q, hq, h3⟩ := ob_eq h
      clear h
      rw [mkI_eq] at h3; cases h3
      refine ⟨_, arI_sound ho ?_ hq t w, by simp [VR]⟩
      cases hs : isShift op' with
      | true => exact .inr rfl
      | false => rw [hs] at hc; exact .inl hc
    · simp only [VR] at hy; subst hy
      have hc := (cnd_some h).1
      replace h := (cnd_some h).2
      have := beqK_eq.1 hc; subst this
      cases op <;> simp only [aop, Option.some.injEq, reduceCtorEq] at ho <;> subst ho
      case add =>
        change symV k i m (Int.add n c0) = some v at h
        simp only [symV, forceI_eq, Option.some.injEq] at h; subst h
        refine ⟨_, by simp [Go.binOp, Go.Op.intArith]; rfl, ?_⟩
        simp only [VR]; rw [wrap_add_r]; congr 1; apply congrArg; show n + (m * ρ i + c0) = m * ρ i + (n + c0); omega
      case sub =>
        change symV k i (Int.neg m) (Int.sub n c0) = some v at h
        simp only [symV, forceI_eq, Option.some.injEq] at h; subst h
        refine ⟨_, by simp [Go.binOp, Go.Op.intArith]; rfl, ?_⟩
        simp only [VR]; rw [wrap_sub_r]; congr 1; apply congrArg; show n - (m * ρ i + c0) = (-m) * ρ i + (n - c0); rw [Int.neg_mul]; omega
      case mul =>
        change symV k i (Int.mul n m) (Int.mul n c0) = some v at h
        simp only [symV, forceI_eq, Option.some.injEq] at h; subst h
        refine ⟨_, by simp [Go.binOp, Go.Op.intArith]; rfl, ?_⟩
        simp only [VR]; rw [wrap_mul_r]; congr 1; apply congrArg; show n * (m * ρ i + c0) = (n * m) * ρ i + n * c0; rw [Int.mul_add, Int.mul_assoc]
      all_goals (cases h)
  · simp only [VR] at hx; subst hx
    clear h
    obtain ⟨l, r, rfl, h⟩ | ⟨l, _, _, _, rfl, h⟩ := vInt_eq h2
    all_goals clear h2
    · simp only [VR] at hy; subst hy
      have hc := (cnd_some h).1
      replace h := (cnd_some h).2
      have := beqK_eq.1 hc; subst this
      cases op <;> simp only [aop, Option.some.injEq, reduceCtorEq] at ho <;> subst ho
      case add =>
        change symV k i m (Int.add c0 r) = some v at h
        simp only [symV, forceI_eq, Option.some.injEq] at h; subst h
        refine ⟨_, by simp [Go.binOp, Go.Op.intArith]; rfl, ?_⟩
        simp only [VR]; rw [wrap_add_l]; congr 1; apply congrArg; show m * ρ i + c0 + r = m * ρ i + (c0 + r); omega
      case sub =>
        change symV k i m (Int.sub c0 r) = some v at h
        simp only [symV, forceI_eq, Option.some.injEq] at h; subst h
        refine ⟨_, by simp [Go.binOp, Go.Op.intArith]; rfl, ?_⟩
        simp only [VR]; rw [wrap_sub_l]; congr 1; apply congrArg; show m * ρ i + c0 - r = m * ρ i + (c0 - r); omega
      case mul =>
        change symV k i (Int.mul m r) (Int.mul c0 r) = some v at h
        simp only [symV, forceI_eq, Option.some.injEq] at h; subst h
        refine ⟨_, by simp [Go.binOp, Go.Op.intArith]; rfl, ?_⟩
        simp only [VR]; rw [wrap_mul_l]; congr 1; apply congrArg; show (m * ρ i + c0) * r = (m * r) * ρ i + c0 * r; rw [Int.add_mul, Int.mul_assoc, Int.mul_assoc, Int.mul_comm (ρ i) r]
      all_goals (cases h)
    · cases h

theorem cmiV_sound {op : BinOp} {op' : COp} (ho : cop op = some op') {x y v : V} (h : cmiV op' x y = some v) {a b : Value} (hx : VR P ρ φ x a) (hy : VR P ρ φ y b) (t : Nat) (w : World) :
    ∃ c, (Go.binOp op t a b).run P w = .ok c w ∧ VR P ρ φ v c := by
  obtain ⟨k, n, rfl, h2⟩ | ⟨k, i, m, c0, rfl, h2⟩ := vInt_eq h
  · simp only [VR] at hx; subst hx
    clear h
    obtain ⟨l, r, rfl, h⟩ | ⟨l, i, m, c0, rfl, h⟩ := vInt_eq h2
    all_goals clear h2
    · simp only [VR] at hy; subst hy
      have hc := (cnd_some h).1
      replace h := (cnd_some h).2
      have := beqK_eq.1 hc; subst this
      rw [mkB_eq] at h; cases h
      cases op <;> simp only [cop, Option.some.injEq, reduceCtorEq] at ho <;> subst ho
      all_goals
        refine ⟨_, by simp [Go.binOp, Go.Op.intCmp]; rfl, ?_⟩
        simp only [VR]; congr 1
      · show (n == r) = eqI n r; rw [eqI_decide]; rfl
      · show (n != r) = notB (eqI n r); rw [eqI_decide, notB_eq]; rfl
      · show decide (n < r) = ltI n r; rw [ltI_decide]
      · show decide (n ≤ r) = notB (ltI r n); rw [ltI_decide, notB_eq, Bool.eq_iff_iff]; simp
      · show decide (n > r) = ltI r n; rw [ltI_decide]
      · show decide (n ≥ r) = notB (ltI n r); rw [ltI_decide, notB_eq, Bool.eq_iff_iff]; simp
    · cases h
  · simp only [VR] at hx; subst hx
    clear h
    obtain ⟨l, r, rfl, h⟩ | ⟨l, i', m', c', rfl, h⟩ := vInt_eq h2
    all_goals clear h2
    · cases h
    · simp only [VR] at hy; subst hy
      have hc := (cnd_some h).1
      replace h := (cnd_some h).2
      simp only [andB_eq, Bool.and_eq_true, beqK_eq, eqI_eq, Nat.beq_eq] at hc
      obtain ⟨rfl, rfl, rfl, rfl⟩ := hc
      rw [mkB_eq] at h; cases h
      cases op <;> simp only [cop, Option.some.injEq, reduceCtorEq] at ho <;> subst ho
      all_goals
        refine ⟨_, by simp [Go.binOp, Go.Op.intCmp]; rfl, ?_⟩
        simp only [VR]; rfl

/-! ## Texts -/

theorem beq_toList (a b : ByteArray) : (a.toList == b.toList) = decide (a = b) := by
  rw [Go.ByteArray.toList_eq, Go.ByteArray.toList_eq, Bool.eq_iff_iff]
  simp only [beq_iff_eq, decide_eq_true_eq]
  constructor
  · intro h; cases a; cases b; simp at h; rw [h]
  · intro h; rw [h]

theorem eqStr_sound {n a m b : Nat} {s t : ByteArray} (hs : StrOk n a s) (ht : StrOk m b t) : eqStr n a m b = decide (s = t) := by
  unfold eqStr
  rw [andB_eq, Bool.eq_iff_iff]
  simp only [Bool.and_eq_true, Nat.beq_eq, decide_eq_true_eq]
  constructor
  · intro h; exact hs.inj ht h.2 h.1
  · intro h; subst h; exact ⟨hs.2.symm.trans ht.2, hs.1.symm.trans ht.1⟩

theorem cmsV_sound {op : BinOp} {op' : COp} (ho : cop op = some op') {x y v : V} (h : cmsV op' x y = some v) {a b : Value} (hx : VR P ρ φ x a) (hy : VR P ρ φ y b) (t : Nat) (w : World) :
    ∃ c, (Go.binOp op t a b).run P w = .ok c w ∧ VR P ρ φ v c := by
  obtain ⟨n, i, rfl, h2⟩ := vStr_eq h
  clear h
  obtain ⟨m, j, rfl, h⟩ := vStr_eq h2
  clear h2
  simp only [VR] at hx hy
  obtain ⟨s, rfl, hs⟩ := hx
  obtain ⟨u, rfl, hu⟩ := hy
  cases op <;> simp only [cop, Option.some.injEq, reduceCtorEq] at ho <;> subst ho
  case eql =>
    change mkB (eqStr n i m j) = some v at h
    rw [mkB_eq] at h; cases h
    exact ⟨_, by rw [Go.binOp_string_eql]; rfl, by simp only [VR]; rw [beq_toList, eqStr_sound hs hu]⟩
  case neq =>
    change mkB (notB (eqStr n i m j)) = some v at h
    rw [mkB_eq] at h; cases h
    exact ⟨_, by rw [Go.binOp_string_neq]; rfl, by simp only [VR]; rw [beq_toList, eqStr_sound hs hu, notB_eq]⟩
  all_goals cases h

theorem size_eq (s : ByteArray) : s.size = s.data.toList.length := by cases s; simp [ByteArray.size]

theorem catV_sound {x y v : V} (h : catV x y = some v) {a b : Value} (hx : VR P ρ φ x a) (hy : VR P ρ φ y b) (t : Nat) (w : World) :
    ∃ c, (Go.binOp .add t a b).run P w = .ok c w ∧ VR P ρ φ v c := by
  obtain ⟨n, i, rfl, h2⟩ := vStr_eq h
  clear h
  obtain ⟨m, j, rfl, h⟩ := vStr_eq h2
  clear h2
  simp only [VR] at hx hy
  obtain ⟨s, rfl, hs⟩ := hx
  obtain ⟨u, rfl, hu⟩ := hy
  have hc := (cnd_some h).1
  replace h := (cnd_some h).2
  rw [mkS_eq] at h; cases h
  have hle : n + m ≤ 9223372036854775807 := Nat.le_of_ble_eq_true hc
  have h1 : s.size = n := (size_eq s).trans hs.1
  have h2 : u.size = m := (size_eq u).trans hu.1
  refine ⟨.string (s ++ u), ?_, ?_⟩
  · have hmax : ¬ (((s.size + u.size : Nat) : Int) > IntKind.i64.max) := by
      rw [h1, h2]; simp [IntKind.max, IntKind.signed, IntKind.bits]; omega
    simp only [Go.binOp, Go.Op.stringOp]
    rw [if_neg hmax]; rfl
  · simp only [VR]
    refine ⟨_, rfl, ?_, ?_⟩
    · show (s ++ u).data.toList.length = n + m
      rw [ByteArray.data_append, Array.toList_append, List.length_append, hs.1, hu.1]
    · show numL (s ++ u).data.toList = _
      rw [ByteArray.data_append, Array.toList_append, numL_append, hs.2, hu.2, hu.1]
      show i * 256 ^ m + j = (i <<< (8 * m)) + j
      rw [Nat.shiftLeft_eq, pow8]

end GoVm

/- Each operation of the virtual machine on values does what the model's operation does: the rest of them. -/
namespace GoVm
open Go (Value World Addr Obj MapEntry Program Operand Oper Op IntKind BinOp Sem Result run_underlying)

variable {P : Program} {ρ : Nat → Int} {φ : Phi}

theorem addr_add (B o n : Nat) : (⟨B, o, none⟩ : Addr).add n = ⟨B, o + n, none⟩ := by
  unfold Go.Addr.add
  split
  · rename_i h; subst h; rfl
  · rfl

/-! ## Cells -/

theorem putCells_eq : ∀ (vs cs r : List V), putCells vs cs = some r → r = vs ++ cs.drop vs.length ∧ vs.length ≤ cs.length
  | [], cs, r, h => by cases h; simp
  | v :: vs, cs, r, h => by
    cases cs with
    | nil => cases h
    | cons c cs =>
      change ob (putCells vs cs) (fun r => some (v :: r)) = some r at h
      obtain ⟨r', h1, h2⟩ := ob_eq h
      cases h2
      obtain ⟨e, hl⟩ := putCells_eq vs cs r' h1
      subst e
      simpa using hl

theorem putAt_eq : ∀ (n : Nat) (vs cs r : List V), putAt n vs cs = some r → r = cs.take n ++ vs ++ cs.drop (n + vs.length) ∧ n + vs.length ≤ cs.length
  | 0, vs, cs, r, h => by
    obtain ⟨e, hl⟩ := putCells_eq vs cs r h
    subst e; simpa using hl
  | n + 1, vs, cs, r, h => by
    cases cs with
    | nil => cases h
    | cons c cs =>
      change ob (putAt n vs cs) (fun r => some (c :: r)) = some r at h
      obtain ⟨r', h1, h2⟩ := ob_eq h
      cases h2
      obtain ⟨e, hl⟩ := putAt_eq n vs cs r' h1
      subst e
      refine ⟨?_, by simp; omega⟩
      have : n + 1 + vs.length = (n + vs.length) + 1 := by omega
      rw [this]; simp

theorem takeN_eq : ∀ (n : Nat) (cs r : List V), takeN n cs = some r → r = cs.take n ∧ n ≤ cs.length
  | 0, cs, r, h => by cases h; simp
  | n + 1, cs, r, h => by
    cases cs with
    | nil => cases h
    | cons c cs =>
      change ob (takeN n cs) (fun r => some (c :: r)) = some r at h
      obtain ⟨r', h1, h2⟩ := ob_eq h
      cases h2
      obtain ⟨e, hl⟩ := takeN_eq n cs r' h1
      subst e; exact ⟨by simp, by simpa using hl⟩

theorem getAt_eq : ∀ (off n : Nat) (cs r : List V), getAt off n cs = some r → r = (cs.drop off).take n ∧ off + n ≤ cs.length ∨ (n = 0 ∧ r = [] ∧ off ≤ cs.length)
  | 0, n, cs, r, h => by
    obtain ⟨e, hl⟩ := takeN_eq n cs r h
    exact .inl ⟨by simpa using e, by omega⟩
  | off + 1, n, cs, r, h => by
    cases cs with
    | nil => cases h
    | cons c cs =>
      change getAt off n cs = some r at h
      rcases getAt_eq off n cs r h with ⟨e, hl⟩ | ⟨e1, e2, hl⟩
      · exact .inl ⟨by simpa using e, by simp; omega⟩
      · exact .inr ⟨e1, e2, by simpa using hl⟩

theorem getAt_eq' {off n : Nat} {cs r : List V} (h : getAt off n cs = some r) : r = (cs.drop off).take n ∧ off + n ≤ cs.length := by
  rcases getAt_eq off n cs r h with ⟨e, hl⟩ | ⟨e1, e2, hl⟩
  · exact ⟨e, hl⟩
  · subst e1; exact ⟨by simp [e2], by simpa using hl⟩

theorem lenEq_eq : ∀ (l : List V) (n : Nat), lenEq l n = true → l.length = n
  | [], n, h => by cases n with | zero => rfl | succ n => cases h
  | v :: l, n, h => by
    cases n with
    | zero => cases h
    | succ n => have := lenEq_eq l n h; simp [this]

theorem getSt_eq : ∀ (k : Nat) (s : List V), getSt k s = s[k]?
  | 0, s => by cases s <;> rfl
  | k + 1, s => by
    cases s with
    | nil => rfl
    | cons v s => exact (getSt_eq k s).trans (by simp)

theorem single_eq {l : List V} {v : V} (h : single l = some v) : l = [v] := by
  cases l with
  | nil => cases h
  | cons x l => cases l with
    | nil => cases h; rfl
    | cons y l => cases h

/-- A part of some cells, as the model reads it. -/
def partR (agg : Bool) (l : List Value) (c : Value) : Prop := if agg then c = .agg l.toArray else l = [c]

theorem partOf_sound {off n : Nat} {agg : Bool} {cs : List V} {v : V} (h : partOf off n agg cs = some v) {ds : List Value} (hd : VRc P ρ φ cs ds) :
    off + n ≤ ds.length ∧ ∃ c, partR agg ((ds.drop off).take n) c ∧ VR P ρ φ v c := by
  obtain ⟨l, hl, h1⟩ := ob_eq h
  obtain ⟨e, hle⟩ := getAt_eq' hl
  have hr := (hd.drop off).take n
  rw [← e] at hr
  refine ⟨by rw [hd.len]; exact hle, ?_⟩
  cases agg with
  | true =>
    cases h1
    exact ⟨.agg ((ds.drop off).take n).toArray, by simp [partR], by simp only [VR]; exact ⟨_, rfl, hr.1, hr.2⟩⟩
  | false =>
    have := single_eq h1
    subst this
    have h2 := hr.1
    simp only [VRs] at h2
    obtain ⟨c, cs', e1, h3, e2⟩ := h2
    subst e2
    exact ⟨c, by simp [partR, e1], h3⟩

theorem run_isAgg {t : Nat} {b : Bool} (h : aggV P t = some b) (w : World) : (Go.isAgg t).run P w = .ok b w := by
  simp only [aggV, Option.map_eq_some_iff] at h
  obtain ⟨d, hd, rfl⟩ := h
  simp only [Go.isAgg, Sem.run_bind, run_underlying hd, Result.andThen_ok]
  cases d <;> rfl

theorem run_typeInfo {t : Nat} {i : Go.TypeInfo} (h : P.info? t = some i) (w : World) : (Go.typeInfo t).run P w = .ok i w := by
  simp [Go.typeInfo, h]

theorem run_sizeOf {t n : Nat} (h : sizeV P t = some n) (w : World) : (Go.sizeOf t).run P w = .ok n w := by
  simp only [sizeV, Option.map_eq_some_iff] at h
  obtain ⟨i, hi, rfl⟩ := h
  simp [Go.sizeOf, run_typeInfo hi]

theorem cellsOf_eq {t n : Nat} (h : sizeV P t = some n) : P.cellsOf t = n := by
  simp only [sizeV, Option.map_eq_some_iff] at h
  obtain ⟨i, hi, rfl⟩ := h
  simp only [Go.Program.cellsOf]
  rw [show P.info? t = some i from hi]; rfl

theorem run_zeroValue {t : Nat} {v : V} (h : zeroV P t = some v) (w : World) : ∃ c, (Go.zeroValue t).run P w = .ok c w ∧ VR P ρ φ v c := by
  simp only [zeroV, Option.bind_eq_some_iff] at h
  obtain ⟨z, ⟨i, hi, hz⟩, hc⟩ := h
  exact ⟨z, by simp [Go.zeroValue, run_typeInfo hi, hz], convV_sound z v hc⟩

theorem zeroC_sound {t : Nat} {l : List V} (h : zeroC P t = some l) (w : World) : ∃ c, (Go.zeroValue t).run P w = .ok c w ∧ VRc P ρ φ l c.cells.toList ∧ sizeV P t = some l.length := by
  simp only [zeroC] at h
  split at h
  · rename_i z n hz hn
    split at h
    · rename_i l' hl
      split at h
      · rename_i hlen
        cases h
        obtain ⟨c, h1, h2⟩ := run_zeroValue (ρ := ρ) (φ := φ) hz w
        exact ⟨c, h1, h2.cells hl, by rw [hn, hlen]⟩
      · cases h
    · cases h
  · cases h

theorem run_part {t off n : Nat} {agg : Bool} (ha : aggV P t = some agg) (hn : partN P agg t = some n) {x : Array Value} {c : Value}
    (hc : partR agg ((x.toList.drop off).take n) c) (hle : off + n ≤ x.toList.length) (w : World) : (Go.part t x off).run P w = .ok c w := by
  unfold partN at hn
  simp only [Go.part, Sem.run_bind, run_isAgg ha, Result.andThen_ok]
  cases agg with
  | true =>
    simp only [if_true] at hn ⊢
    simp only [partR, if_true] at hc
    simp only [Sem.run_bind, run_sizeOf hn, Result.andThen_ok, Sem.run_pure]
    congr 2
    rw [hc]
    congr 1
    apply Array.ext'
    rw [Array.toList_extract]
    simp [List.extract_eq_take_drop]
  | false =>
    simp only [Bool.false_eq_true, if_false, Option.some.injEq] at hn ⊢
    subst hn
    simp only [partR, Bool.false_eq_true, if_false] at hc
    have : x[off]? = some c := by
      have h1 : (x.toList.drop off)[0]? = some c := by
        have := congrArg (fun l => l[0]?) hc
        simpa [List.getElem?_take] using this
      simpa using h1
    rw [this]; rfl

/-! ## Slices' bounds -/

def BndR (x : Option Value) (d n : Nat) : Prop := (x = none ∧ n = d) ∨ ∃ k, x = some (.int k (n : Int))

theorem bound_sound {m : SlotMap} {e : Env} {stk : List V} {slots : T V} {a : Go.Act} (hE : ER P ρ m e φ stk slots a) {x : Option Operand} {lx : Option GoVm.Loc}
    (hx : optL m e x = some lx) {d n : Nat} (h : bound lx d stk slots = some n) : BndR (x.map a.eval) d n := by
  cases x with
  | none =>
    cases hx; cases h; exact .inl ⟨rfl, rfl⟩
  | some x =>
    simp only [optL, Option.map_eq_some_iff] at hx
    obtain ⟨l, hl, rfl⟩ := hx
    change ob (loc l stk slots) asNatV = some n at h
    obtain ⟨v, hv, h1⟩ := ob_eq h
    obtain ⟨k, rfl⟩ := asNatV_eq h1
    have := hE.lo hl hv
    simp only [VR] at this
    exact .inr ⟨k, by simp [this]⟩

theorem run_sliceBounds {isS : Bool} {len cap l h : Nat} {lo hi : Option Value} (h1 : BndR lo 0 l) (h2 : BndR hi len h) (h3 : l ≤ h) (h4 : h ≤ cap) (w : World) :
    (Go.Instr.sliceBounds isS len cap lo hi none).run P w = .ok (l, h, cap) w := by
  have hs : ∀ (k : IntKind) (i y : Nat) (code : Go.BoundsCode), i ≤ y → (Go.Instr.sliceBound (.int k (i : Int)) y code).run P w = .ok i w := by
    intro k i y code hle
    have : (0 : Int) ≤ i ∧ (i : Int) ≤ y := by omega
    simp [Go.Instr.sliceBound, Go.asIntOf, this]
  rcases h1 with ⟨rfl, rfl⟩ | ⟨k1, rfl⟩ <;> rcases h2 with ⟨rfl, rfl⟩ | ⟨k2, rfl⟩ <;> simp [Go.Instr.sliceBounds, hs, h3, h4]

end GoVm

/- Each pure operation of the virtual machine does what the model's operation does. -/
namespace GoVm
open Go (Value World Addr Obj MapEntry Program Operand Oper Op IntKind BinOp Sem Result run_underlying)

variable {P : Program} {ρ : Nat → Int} {φ : Phi} {m : SlotMap} {e : Env} {stk : List V} {slots : T V} {a : Go.Act}

theorem run_val {s : Sem Value} {c : Value} {w w' : World} (h : s.run P w = .ok c w') : (do pure (Go.Next.value (← s)) : Sem Go.Next).run P w = .ok (.value c) w' := by
  simp [h]

/-- The operation gives a value, and leaves the world. -/
def Gives (P : Program) (ρ : Nat → Int) (φ : Phi) (a : Go.Act) (o : Oper) (v : V) (w : World) : Prop :=
  ∃ c, (Go.execOp a.eval o).run P w = .ok (.value c) w ∧ VR P ρ φ v c

theorem p2_eq {f : V → V → Option V} {x y : GoVm.Loc} {v : V} (h : p2 f x y stk slots = some v) : ∃ u r, loc x stk slots = some u ∧ loc y stk slots = some r ∧ f u r = some v := by
  obtain ⟨u, h1, h2⟩ := ob_eq h
  obtain ⟨r, h3, h4⟩ := ob_eq h2
  exact ⟨u, r, h1, h3, h4⟩

theorem eqGuard_int (op : BinOp) (t : Nat) (x y : Operand) {b c : Value} (hb : ∀ q, b ≠ .agg q) (hn : b ≠ .nilIface) (w : World) : (Go.eqGuard op t x y b c).run P w = .ok () w := by
  unfold Go.eqGuard
  cases op <;> simp <;> split <;> simp_all

theorem g_bin {o : Oper} {op : BinOp} {t : Nat} {x y : Operand} {yt : Nat} (ho : o.op = .binOp op t x y yt) {v : V} {w : World} {c : Value}
    (hg : (Go.eqGuard op t x y (a.eval x) (a.eval y)).run P w = .ok () w) (h : (Go.binOp op t (a.eval x) (a.eval y)).run P w = .ok c w) (hv : VR P ρ φ v c) : Gives P ρ φ a o v w := by
  refine ⟨c, ?_, hv⟩
  simp only [Go.execOp, ho]
  exact run_val (by simp [hg, h])

theorem VR.int_ne {k : IntKind} {n : Int} {c : Value} (h : VR P ρ φ (.int k n) c) : (∀ q, c ≠ .agg q) ∧ c ≠ .nilIface := by
  simp only [VR] at h; subst h; exact ⟨(fun _ h => by cases h), (fun h => by cases h)⟩
theorem VR.sym_ne {k : IntKind} {i : Nat} {x y : Int} {c : Value} (h : VR P ρ φ (.sym k i x y) c) : (∀ q, c ≠ .agg q) ∧ c ≠ .nilIface := by
  simp only [VR] at h; subst h; exact ⟨(fun _ h => by cases h), (fun h => by cases h)⟩

theorem s_ar (hE : ER P ρ m e φ stk slots a) {o : Oper} {op : BinOp} {t yt : Nat} {x y : Operand} (ho : o.op = .binOp op t x y yt) {op' : AOp} (hop : aop op = some op')
    {lx ly : GoVm.Loc} (hx : locOf m e x = some lx) (hy : locOf m e y = some ly) {v : V} (h : pAr op' lx ly stk slots = some v) (w : World) : Gives P ρ φ a o v w := by
  obtain ⟨u, r, h1, h2, h3⟩ := p2_eq h
  have hu := hE.lo hx h1
  have hr := hE.lo hy h2
  obtain ⟨c, hc, hv⟩ := arV_sound hop h3 hu hr t w
  refine g_bin ho ?_ hc hv
  have hne : (∀ q, a.eval x ≠ .agg q) ∧ a.eval x ≠ .nilIface := by
    obtain ⟨k, n, rfl, _⟩ | ⟨k, i, p, q, rfl, _⟩ := vInt_eq h3
    · exact hu.int_ne
    · exact hu.sym_ne
  exact eqGuard_int op t x y hne.1 hne.2 w

theorem s_cmi (hE : ER P ρ m e φ stk slots a) {o : Oper} {op : BinOp} {t yt : Nat} {x y : Operand} (ho : o.op = .binOp op t x y yt) {op' : COp} (hop : cop op = some op')
    {lx ly : GoVm.Loc} (hx : locOf m e x = some lx) (hy : locOf m e y = some ly) {v : V} (h : pCmi op' lx ly stk slots = some v) (w : World) : Gives P ρ φ a o v w := by
  obtain ⟨u, r, h1, h2, h3⟩ := p2_eq h
  have hu := hE.lo hx h1
  have hr := hE.lo hy h2
  obtain ⟨c, hc, hv⟩ := cmiV_sound hop h3 hu hr t w
  refine g_bin ho ?_ hc hv
  have hne : (∀ q, a.eval x ≠ .agg q) ∧ a.eval x ≠ .nilIface := by
    obtain ⟨k, n, rfl, _⟩ | ⟨k, i, p, q, rfl, _⟩ := vInt_eq h3
    · exact hu.int_ne
    · exact hu.sym_ne
  exact eqGuard_int op t x y hne.1 hne.2 w

theorem s_cms (hE : ER P ρ m e φ stk slots a) {o : Oper} {op : BinOp} {t yt : Nat} {x y : Operand} (ho : o.op = .binOp op t x y yt) {op' : COp} (hop : cop op = some op')
    {lx ly : GoVm.Loc} (hx : locOf m e x = some lx) (hy : locOf m e y = some ly) {v : V} (h : pCms op' lx ly stk slots = some v) (w : World) : Gives P ρ φ a o v w := by
  obtain ⟨u, r, h1, h2, h3⟩ := p2_eq h
  have hu := hE.lo hx h1
  have hr := hE.lo hy h2
  obtain ⟨c, hc, hv⟩ := cmsV_sound hop h3 hu hr t w
  refine g_bin ho ?_ hc hv
  obtain ⟨n, i, rfl, _⟩ := vStr_eq h3
  simp only [VR] at hu
  obtain ⟨s, hs, _⟩ := hu
  rw [hs]
  exact eqGuard_int op t x y (by simp) (by simp) w

theorem s_cat (hE : ER P ρ m e φ stk slots a) {o : Oper} {t yt : Nat} {x y : Operand} (ho : o.op = .binOp .add t x y yt)
    {lx ly : GoVm.Loc} (hx : locOf m e x = some lx) (hy : locOf m e y = some ly) {v : V} (h : pCat lx ly stk slots = some v) (w : World) : Gives P ρ φ a o v w := by
  obtain ⟨u, r, h1, h2, h3⟩ := p2_eq h
  have hu := hE.lo hx h1
  have hr := hE.lo hy h2
  obtain ⟨c, hc, hv⟩ := catV_sound h3 hu hr t w
  refine g_bin ho ?_ hc hv
  simp [Go.eqGuard]

theorem s_cmb (hE : ER P ρ m e φ stk slots a) {o : Oper} {op : BinOp} {neg : Bool} (hn : op = (if neg then .neq else .eql)) {t yt : Nat} {x y : Operand} (ho : o.op = .binOp op t x y yt) (ht : P.underlying t = some .bool)
    {lx ly : GoVm.Loc} (hx : locOf m e x = some lx) (hy : locOf m e y = some ly) {v : V} (h : pCmb neg lx ly stk slots = some v) (w : World) : Gives P ρ φ a o v w := by
  obtain ⟨u, r, h1, h2, h3⟩ := p2_eq h
  have hu := hE.lo hx h1
  have hr := hE.lo hy h2
  obtain ⟨p, rfl, h4⟩ := vBool_eq h3
  obtain ⟨q, rfl, h5⟩ := vBool_eq h4
  rw [mkB_eq] at h5; cases h5
  simp only [VR] at hu hr
  refine g_bin (c := .bool (xorB neg (notB (xorB p q)))) ho ?_ ?_ (by simp [VR])
  · rw [hu]; exact eqGuard_int op t x y (by simp) (by simp) w
  · rw [hu, hr, hn]
    have hq : (Go.Op.equal t (.bool p) (.bool q)).run P w = .ok (p == q) w := by
      have h : ∀ d : Nat, (Go.Op.equalIn (d + 1) t (.bool p) (.bool q)).run P w = .ok (p == q) w := fun d => by simp [Go.Op.equalIn, run_underlying ht]
      exact h 9999
    cases neg
    · show (Go.binOp .eql t (.bool p) (.bool q)).run P w = _
      have : Go.binOp .eql t (.bool p) (.bool q) = (do pure (.bool (← Go.Op.equal t (.bool p) (.bool q)))) := rfl
      rw [this, Sem.run_bind, hq]; cases p <;> cases q <;> rfl
    · show (Go.binOp .neq t (.bool p) (.bool q)).run P w = _
      have : Go.binOp .neq t (.bool p) (.bool q) = (do pure (.bool (!(← Go.Op.equal t (.bool p) (.bool q))))) := rfl
      rw [this, Sem.run_bind, hq]; cases p <;> cases q <;> rfl

/-- What a nil test of a kind speaks of. -/
def kindIs (kd : Nat) (d : Go.TypeDesc) : Prop :=
  match kd, d with
  | 0, .interface _ | 1, .slice _ | 2, .map _ _ | 3, .func _ _ _ => True
  | _, _ => False

/-- The model's nil of a kind. -/
def nilOf : Nat → Value
  | 0 => .nilIface
  | 1 => .slice none 0 0
  | 2 => .map none
  | _ => .nilFunc

theorem isNilConst_eq {kd : Nat} {z : Operand} (h : isNilConst kd z = true) : z = .const (nilOf kd) ∧ kd < 4 := by
  unfold isNilConst at h
  split at h <;> first | exact ⟨rfl, by omega⟩ | cases h

theorem nil_eq {kd : Nat} {t : Nat} {d : Go.TypeDesc} (ht : P.underlying t = some d) (hk : kindIs kd d) {v : V} {b : Bool} (h : isNilV kd v = some b) {c : Value} (hv : VR P ρ φ v c) (w : World) :
    (Go.Op.equal t c (nilOf kd)).run P w = .ok b w ∧ (Go.Op.equal t (nilOf kd) c).run P w = .ok b w ∧ (∀ q, c ≠ .agg q) ∧
      (∀ op : BinOp, Go.binOp op t c (nilOf kd) = (match op with | .eql => (do pure (.bool (← Go.Op.equal t c (nilOf kd)))) | .neq => (do pure (.bool (!(← Go.Op.equal t c (nilOf kd))))) | _ => Go.binOp op t c (nilOf kd))) ∧
      (∀ op : BinOp, Go.binOp op t (nilOf kd) c = (match op with | .eql => (do pure (.bool (← Go.Op.equal t (nilOf kd) c))) | .neq => (do pure (.bool (!(← Go.Op.equal t (nilOf kd) c)))) | _ => Go.binOp op t (nilOf kd) c)) := by
  have key : ∀ n : Nat, (Go.Op.equalIn (n + 1) t c (nilOf kd)).run P w = .ok b w ∧ (Go.Op.equalIn (n + 1) t (nilOf kd) c).run P w = .ok b w ∧ (∀ q, c ≠ .agg q) ∧
      (∀ op : BinOp, Go.binOp op t c (nilOf kd) = (match op with | .eql => (do pure (.bool (← Go.Op.equal t c (nilOf kd)))) | .neq => (do pure (.bool (!(← Go.Op.equal t c (nilOf kd))))) | _ => Go.binOp op t c (nilOf kd))) ∧
      (∀ op : BinOp, Go.binOp op t (nilOf kd) c = (match op with | .eql => (do pure (.bool (← Go.Op.equal t (nilOf kd) c))) | .neq => (do pure (.bool (!(← Go.Op.equal t (nilOf kd) c)))) | _ => Go.binOp op t (nilOf kd) c)) := by
    intro n
    unfold kindIs at hk
    split at hk
    case h_5 => exact hk.elim
    case h_1 =>
      cases v <;> first
        | (exfalso; cases h; done)
        | (simp only [VR] at hv; cases h; subst hv; exact ⟨by simp [Go.Op.equalIn, run_underlying ht, nilOf], by simp [Go.Op.equalIn, run_underlying ht, nilOf], by simp, fun op => by cases op <;> rfl, fun op => by cases op <;> rfl⟩)
        | (simp only [VR] at hv; cases h; obtain ⟨x, hv, _⟩ := hv; subst hv; exact ⟨by simp [Go.Op.equalIn, run_underlying ht, nilOf], by simp [Go.Op.equalIn, run_underlying ht, nilOf], by simp, fun op => by cases op <;> rfl, fun op => by cases op <;> rfl⟩)
    case h_2 =>
      cases v <;> first
        | (exfalso; cases h; done)
        | (simp only [VR] at hv; cases h; subst hv; exact ⟨by simp [Go.Op.equalIn, run_underlying ht, nilOf], by simp [Go.Op.equalIn, run_underlying ht, nilOf], by simp, fun op => by cases op <;> rfl, fun op => by cases op <;> rfl⟩)
        | (simp only [VR] at hv; cases h; obtain ⟨_, _, _, _, hv, _⟩ := hv; subst hv; exact ⟨by simp [Go.Op.equalIn, run_underlying ht, nilOf], by simp [Go.Op.equalIn, run_underlying ht, nilOf], by simp, fun op => by cases op <;> rfl, fun op => by cases op <;> rfl⟩)
    case h_3 =>
      cases v <;> first
        | (exfalso; cases h; done)
        | (simp only [VR] at hv; cases h; subst hv; exact ⟨by simp [Go.Op.equalIn, run_underlying ht, nilOf], by simp [Go.Op.equalIn, run_underlying ht, nilOf], by simp, fun op => by cases op <;> rfl, fun op => by cases op <;> rfl⟩)
        | (simp only [VR] at hv; cases h; obtain ⟨_, _, hv⟩ := hv; subst hv; exact ⟨by simp [Go.Op.equalIn, run_underlying ht, nilOf], by simp [Go.Op.equalIn, run_underlying ht, nilOf], by simp, fun op => by cases op <;> rfl, fun op => by cases op <;> rfl⟩)
    case h_4 =>
      cases v <;> first
        | (exfalso; cases h; done)
        | (simp only [VR] at hv; cases h; subst hv; exact ⟨by simp [Go.Op.equalIn, run_underlying ht, nilOf], by simp [Go.Op.equalIn, run_underlying ht, nilOf], by simp, fun op => by cases op <;> rfl, fun op => by cases op <;> rfl⟩)
        | (simp only [VR] at hv; cases h; obtain ⟨_, _, hv, _⟩ := hv; subst hv; exact ⟨by simp [Go.Op.equalIn, run_underlying ht, nilOf], by simp [Go.Op.equalIn, run_underlying ht, nilOf], by simp, fun op => by cases op <;> rfl, fun op => by cases op <;> rfl⟩)
  exact key 9999

end GoVm

/- Each pure operation of the virtual machine does what the model's operation does: the last of them. -/
namespace GoVm
open Go (Value World Addr Obj MapEntry Program Operand Oper Op IntKind BinOp Sem Result run_underlying)

variable {P : Program} {ρ : Nat → Int} {φ : Phi} {m : SlotMap} {e : Env} {stk : List V} {slots : T V} {a : Go.Act}

theorem eqGuard_const_r (op : BinOp) (t : Nat) (x : Operand) {b : Value} (hb : ∀ q, b ≠ .agg q) (kd : Nat) (w : World) :
    (Go.eqGuard op t x (.const (nilOf kd)) b (nilOf kd)).run P w = .ok () w := by
  unfold Go.eqGuard
  cases op <;> simp <;> split <;> simp_all
theorem eqGuard_const_l (op : BinOp) (t : Nat) (x : Operand) {b : Value} (kd : Nat) (w : World) :
    (Go.eqGuard op t (.const (nilOf kd)) x (nilOf kd) b).run P w = .ok () w := by
  unfold Go.eqGuard
  have hb : ∀ q, nilOf kd ≠ .agg q := by
    intro q h; unfold nilOf at h; split at h <;> cases h
  cases op <;> simp <;> split <;> simp_all

theorem s_cmn (hE : ER P ρ m e φ stk slots a) {o : Oper} {op : BinOp} {neg : Bool} (hn : op = (if neg then .neq else .eql)) {t yt : Nat} {x y : Operand} (ho : o.op = .binOp op t x y yt)
    {kd : Nat} {d : Go.TypeDesc} (ht : P.underlying t = some d) (hk : kindIs kd d) {z u : Operand} (hz : isNilConst kd z = true) (hxy : (x = u ∧ y = z) ∨ (x = z ∧ y = u))
    {lu : GoVm.Loc} (hu : locOf m e u = some lu) {v : V} (h : pCmn kd neg lu stk slots = some v) (w : World) : Gives P ρ φ a o v w := by
  obtain ⟨r, h1, h2⟩ := ob_eq h
  obtain ⟨b, h3, h4⟩ := ob_eq h2
  rw [mkB_eq] at h4; cases h4
  have hr := hE.lo hu h1
  obtain ⟨rfl, hkd⟩ := isNilConst_eq hz
  obtain ⟨n1, n2, n3, n4, n5⟩ := nil_eq ht hk h3 hr w
  have hv : VR P ρ φ (.bool (xorB neg b)) (.bool (xorB neg b)) := by simp [VR]
  rcases hxy with ⟨rfl, rfl⟩ | ⟨rfl, rfl⟩
  · refine g_bin ho (eqGuard_const_r op t x n3 kd w) ?_ hv
    show (Go.binOp op t (a.eval x) (nilOf kd)).run P w = _
    rw [n4 op, hn]
    cases neg <;> simp [n1]
  · refine g_bin ho (eqGuard_const_l op t y kd w) ?_ hv
    show (Go.binOp op t (nilOf kd) (a.eval y)).run P w = _
    rw [n5 op, hn]
    cases neg <;> simp [n2]

theorem s_cmf (hE : ER P ρ m e φ stk slots a) {o : Oper} {op : BinOp} {neg : Bool} (hn : op = (if neg then .neq else .eql)) {t yt : Nat} {x y : Operand} (ho : o.op = .binOp op t x y yt)
    {ms : Array (String × Nat)} (ht : P.underlying t = some (.interface ms))
    {lx ly : GoVm.Loc} (hx : locOf m e x = some lx) (hy : locOf m e y = some ly) {v : V} (h : pCmf neg lx ly stk slots = some v) (w : World) : Gives P ρ φ a o v w := by
  obtain ⟨u, r, h1, h2, h3⟩ := p2_eq h
  have hu := hE.lo hx h1
  have hr := hE.lo hy h2
  have fin : ∀ (cx cy : Value), a.eval x = cx → a.eval y = cy → (cx ≠ .nilIface ∨ cy ≠ .nilIface) → (∀ q, cx ≠ .agg q) → (∀ n, (Go.Op.equalIn (n + 1) t cx cy).run P w = .ok false w) →
      Go.binOp .eql t cx cy = (do pure (.bool (← Go.Op.equal t cx cy))) → Go.binOp .neq t cx cy = (do pure (.bool (!(← Go.Op.equal t cx cy)))) → v = .bool neg → Gives P ρ φ a o v w := by
    intro cx cy e1 e2 hne hag hq b1 b2 hv
    have hq' : (Go.Op.equal t cx cy).run P w = .ok false w := hq 9999
    subst hv
    refine g_bin (c := .bool neg) ho ?_ ?_ (by simp [VR])
    · rw [e1, e2]; unfold Go.eqGuard; rw [hn]
      cases neg <;> simp <;> split <;> simp_all
    · rw [e1, e2, hn]
      cases neg
      · show (Go.binOp .eql t cx cy).run P w = _; rw [b1]; simp [hq']
      · show (Go.binOp .neq t cx cy).run P w = _; rw [b2]; simp [hq']
  obtain ⟨rfl, h4⟩ | ⟨t1, x1, rfl, h4⟩ := vIfc_eq h3
  · obtain ⟨rfl, h5⟩ | ⟨t2, x2, rfl, h5⟩ := vIfc_eq h4
    · cases h5
    · cases h5
      simp only [VR] at hu hr
      obtain ⟨c2, hr, _⟩ := hr
      exact fin _ _ hu hr (.inr (by simp)) (by simp) (fun n => by simp [Go.Op.equalIn, run_underlying ht]) rfl rfl rfl
  · simp only [VR] at hu
    obtain ⟨c1, hu, _⟩ := hu
    obtain ⟨rfl, h5⟩ | ⟨t2, x2, rfl, h5⟩ := vIfc_eq h4
    · cases h5
      simp only [VR] at hr
      exact fin _ _ hu hr (.inl (by simp)) (by simp) (fun n => by simp [Go.Op.equalIn, run_underlying ht]) rfl rfl rfl
    · simp only [VR] at hr
      obtain ⟨c2, hr, _⟩ := hr
      cases hb : Nat.beq t1 t2 with
      | true => rw [hb] at h5; cases h5
      | false =>
        rw [hb] at h5; cases h5
        have hne : t1 ≠ t2 := fun e => by rw [e] at hb; simp at hb
        exact fin _ _ hu hr (.inl (by simp)) (by simp) (fun n => by simp [Go.Op.equalIn, run_underlying ht, hne]) rfl rfl rfl

theorem s_mv (hE : ER P ρ m e φ stk slots a) {o : Oper} {x : Operand} (ho : o.op = .move x ∨ o.op = .assign x) {lx : GoVm.Loc} (hx : locOf m e x = some lx) {v : V} (h : pMv lx stk slots = some v) (w : World) : Gives P ρ φ a o v w :=
  ⟨a.eval x, by rcases ho with ho | ho <;> simp [Go.execOp, ho], hE.lo hx h⟩

theorem s_nn (hE : ER P ρ m e φ stk slots a) {o : Oper} {x : Operand} (ho : o.op = .nilCheck x) {lx : GoVm.Loc} (hx : locOf m e x = some lx) {v : V} (h : pNn lx stk slots = some v) (w : World) :
    Gives P ρ φ a o v w ∧ loc lx stk slots = some v ∧ (Go.execOp a.eval o).run P w = .ok (.value (a.eval x)) w := by
  obtain ⟨u, h1, h2⟩ := ob_eq h
  have hu := hE.lo hx h1
  have huv : u = v := by cases u <;> first | (cases h2; done) | (cases h2; rfl)
  subst huv
  have run : (Go.execOp a.eval o).run P w = .ok (.value (a.eval x)) w := by
    simp only [Go.execOp, ho]
    cases u <;> first
      | (cases h2; done)
      | (simp only [VR] at hu; obtain ⟨q, _, hu⟩ := hu; rw [hu]; rfl)
      | (simp only [VR] at hu; obtain ⟨q, r, hu, _⟩ := hu; rw [hu]; rfl)
      | (simp only [VR] at hu; obtain ⟨q, hu, _⟩ := hu; rw [hu]; rfl)
  exact ⟨⟨_, run, hu⟩, h1, run⟩

theorem s_pick (hE : ER P ρ m e φ stk slots a) {o : Oper} {c x y : Operand} (ho : o.op = .pick c x y) {lc lx ly : GoVm.Loc} (hc : locOf m e c = some lc) (hx : locOf m e x = some lx) (hy : locOf m e y = some ly)
    {v : V} (h : pPick lc lx ly stk slots = some v) (w : World) : Gives P ρ φ a o v w := by
  obtain ⟨u, h1, h2⟩ := ob_eq h
  obtain ⟨b, rfl, h3⟩ := vBool_eq h2
  have hu := hE.lo hc h1
  simp only [VR] at hu
  cases b with
  | true => exact ⟨a.eval x, by simp [Go.execOp, ho, hu, Go.asBool], hE.lo hx h3⟩
  | false => exact ⟨a.eval y, by simp [Go.execOp, ho, hu, Go.asBool], hE.lo hy h3⟩

theorem s_no (hE : ER P ρ m e φ stk slots a) {o : Oper} {t : Nat} {x : Operand} (ho : o.op = .unOp .not t x) {lx : GoVm.Loc} (hx : locOf m e x = some lx) {v : V} (h : pNo lx stk slots = some v) (w : World) : Gives P ρ φ a o v w := by
  obtain ⟨u, h1, h2⟩ := ob_eq h
  obtain ⟨b, rfl, h3⟩ := vBool_eq h2
  rw [mkB_eq] at h3; cases h3
  have hu := hE.lo hx h1
  simp only [VR] at hu
  exact ⟨.bool (!b), by simp [Go.execOp, ho, hu, Go.Op.unary], by simp [VR]⟩

theorem s_ng (hE : ER P ρ m e φ stk slots a) {o : Oper} {t : Nat} {x : Operand} (ho : o.op = .unOp .neg t x) {lx : GoVm.Loc} (hx : locOf m e x = some lx) {v : V} (h : pNg lx stk slots = some v) (w : World) : Gives P ρ φ a o v w := by
  obtain ⟨u, h1, h2⟩ := ob_eq h
  obtain ⟨k, n, rfl, h3⟩ | ⟨_, _, _, _, _, h3⟩ := vInt_eq h2
  · rw [mkI_eq] at h3; cases h3
    have hu := hE.lo hx h1
    simp only [VR] at hu
    exact ⟨.int k (k.wrap (0 - n)), by simp [Go.execOp, ho, hu, Go.Op.unary, Go.Op.intArith], by simp only [VR]; rw [wrapK_eq]; congr 2; show 0 - n = -n; omega⟩
  · cases h3

theorem s_cvi (hE : ER P ρ m e φ stk slots a) {o : Oper} {s d : Nat} {x : Operand} (ho : o.op = .convert s d x) {k k' : IntKind} (hs : P.underlying s = some (.int k')) (hd : P.underlying d = some (.int k))
    {lx : GoVm.Loc} (hx : locOf m e x = some lx) {v : V} (h : pCvi k lx stk slots = some v) (w : World) : Gives P ρ φ a o v w := by
  obtain ⟨u, h1, h2⟩ := ob_eq h
  have hu := hE.lo hx h1
  obtain ⟨l, n, rfl, h3⟩ | ⟨l, i, p, q, rfl, h3⟩ := vInt_eq h2
  · rw [mkI_eq] at h3; cases h3
    simp only [VR] at hu
    exact ⟨.int k (k.wrap n), by simp [Go.execOp, ho, hu, Go.convert, run_underlying hs, run_underlying hd, Go.Conv.intToInt], by simp only [VR]; rw [wrapK_eq]⟩
  · have hc := (cnd_some h3).1
    have h4 := (cnd_some h3).2
    cases h4
    have := beqK_eq.1 hc
    subst this
    simp only [VR] at hu
    exact ⟨.int k (k.wrap (k.wrap (p * ρ i + q))), by simp [Go.execOp, ho, hu, Go.convert, run_underlying hs, run_underlying hd, Go.Conv.intToInt], by simp only [VR]; rw [wrap_wrap]⟩

theorem s_ifc (hE : ER P ρ m e φ stk slots a) {o : Oper} {t : Nat} {x : Operand} (ho : o.op = .makeInterface t x) {d : Go.TypeDesc} (hd : P.underlying t = some d) (hni : ∀ ms, d ≠ .interface ms)
    {lx : GoVm.Loc} (hx : locOf m e x = some lx) {v : V} (h : pIfc t lx stk slots = some v) (w : World) : Gives P ρ φ a o v w := by
  obtain ⟨u, h1, h2⟩ := ob_eq h
  cases h2
  refine ⟨.iface t (a.eval x), ?_, by simp only [VR]; exact ⟨_, rfl, hE.lo hx h1⟩⟩
  simp only [Go.execOp, ho]
  refine run_val ?_
  simp only [Go.Instr.makeInterface, Sem.run_bind, run_underlying hd, Result.andThen_ok]
  cases d <;> first | rfl | exact absurd rfl (hni _)

theorem s_tas (hE : ER P ρ m e φ stk slots a) {o : Oper} {xt t : Nat} {ok : Bool} {x : Operand} (ho : o.op = .typeAssert x xt t ok) {d : Go.TypeDesc} (hd : P.underlying t = some d) (hni : ∀ ms, d ≠ .interface ms)
    {z : V} (hz : zeroV P t = some z) {lx : GoVm.Loc} (hx : locOf m e x = some lx) {v : V} (h : pTas t ok z lx stk slots = some v) (w : World) : Gives P ρ φ a o v w := by
  obtain ⟨u, h1, h2⟩ := ob_eq h
  have hu := hE.lo hx h1
  obtain ⟨zc, hz1, hz2⟩ := run_zeroValue (ρ := ρ) (φ := φ) hz w
  obtain ⟨rfl, h3⟩ | ⟨t', x', rfl, h3⟩ := vIfc_eq h2
  · simp only [VR] at hu
    cases ok with
    | false => cases h3
    | true =>
      cases h3
      refine ⟨.tuple #[zc, .bool false], ?_, by simp only [VR]; exact ⟨_, rfl, VRs.cons hz2 (VRs.cons (by simp [VR]) VRs.nil)⟩⟩
      simp only [Go.execOp, ho]
      refine run_val ?_
      rw [hu]
      simp only [Go.Instr.typeAssert, Sem.run_bind, run_underlying hd, Result.andThen_ok]
      cases d <;> first | exact absurd rfl (hni _) | simp [hz1]
  · simp only [VR] at hu
    obtain ⟨c, hu, hc⟩ := hu
    cases hb : Nat.beq t t' with
    | true =>
      rw [hb] at h3
      have htt : t = t' := by simpa using hb
      subst htt
      cases ok with
      | true =>
        cases h3
        refine ⟨.tuple #[c, .bool true], ?_, (show VR P ρ φ (.tup [x', .bool true]) _ from by simp only [VR]; exact ⟨_, rfl, VRs.cons hc (VRs.cons (by simp [VR]) VRs.nil)⟩)⟩
        simp only [Go.execOp, ho]
        refine run_val ?_
        rw [hu]
        simp only [Go.Instr.typeAssert, Sem.run_bind, run_underlying hd, Result.andThen_ok]
        cases d <;> first | exact absurd rfl (hni _) | (simp; done) | rfl
      | false =>
        cases h3
        refine ⟨c, ?_, hc⟩
        simp only [Go.execOp, ho]
        refine run_val ?_
        rw [hu]
        simp only [Go.Instr.typeAssert, Sem.run_bind, run_underlying hd, Result.andThen_ok]
        cases d <;> first | exact absurd rfl (hni _) | (simp; done) | rfl
    | false =>
      rw [hb] at h3
      have htt : ¬ t' = t := fun e => by rw [e] at hb; simp at hb
      cases ok with
      | false => cases h3
      | true =>
        cases h3
        refine ⟨.tuple #[zc, .bool false], ?_, by simp only [VR]; exact ⟨_, rfl, VRs.cons hz2 (VRs.cons (by simp [VR]) VRs.nil)⟩⟩
        simp only [Go.execOp, ho]
        refine run_val ?_
        rw [hu]
        simp only [Go.Instr.typeAssert, Sem.run_bind, run_underlying hd, Result.andThen_ok]
        cases d <;> first | exact absurd rfl (hni _) | simp [hz1, htt]

theorem s_mkf (hE : ER P ρ m e φ stk slots a) {o : Oper} {f : Nat} {x y : Array Operand} (ho : o.op = .makeFunc (.func f) x y) {lx ly : List GoVm.Loc} (hx : locsOf m e x = some lx) (hy : locsOf m e y = some ly)
    {v : V} (h : pMkf f lx ly stk slots = some v) (w : World) : Gives P ρ φ a o v w := by
  obtain ⟨u, h1, h2⟩ := ob_eq h
  obtain ⟨r, h3, h4⟩ := ob_eq h2
  cases h4
  refine ⟨.func (.func f) (x.map a.eval) (y.map a.eval), by simp [Go.execOp, ho, Go.Instr.makeFunc], ?_⟩
  simp only [VR]
  exact ⟨_, _, rfl, by rw [Array.toList_map]; exact hE.los _ hx h1, by rw [Array.toList_map]; exact hE.los _ hy h3⟩

theorem s_fld (hE : ER P ρ m e φ stk slots a) {o : Oper} {t f : Nat} {x : Operand} (ho : o.op = .field t x f) {fs : Array Go.Field} {fd : Go.Field} (ht : P.underlying t = some (.struct fs)) (hf : fs[f]? = some fd)
    {agg : Bool} (ha : aggV P fd.type = some agg) {n : Nat} (hn : partN P agg fd.type = some n) {lx : GoVm.Loc} (hx : locOf m e x = some lx) {v : V} (h : pFld fd.offset n agg lx stk slots = some v) (w : World) :
    Gives P ρ φ a o v w := by
  obtain ⟨u, h1, h2⟩ := ob_eq h
  obtain ⟨cs, rfl, h3⟩ := vAgg_eq h2
  have hu := hE.lo hx h1
  simp only [VR] at hu
  obtain ⟨y, hu, h4, h5⟩ := hu
  obtain ⟨hle, c, hc, hv⟩ := partOf_sound h3 ⟨h4, h5⟩
  refine ⟨c, ?_, hv⟩
  simp only [Go.execOp, ho]
  refine run_val ?_
  simp only [Go.Instr.field, Sem.run_bind, run_underlying ht, Result.andThen_ok, hf, hu, Go.asAgg, Sem.run_pure]
  exact run_part ha hn hc hle w

theorem s_idxs (hE : ER P ρ m e φ stk slots a) {o : Oper} {t : Nat} {x y : Operand} (ho : o.op = .index t x y) (ht : P.underlying t = some .string)
    {lx ly : GoVm.Loc} (hx : locOf m e x = some lx) (hy : locOf m e y = some ly) {v : V} (h : pIdxs lx ly stk slots = some v) (w : World) : Gives P ρ φ a o v w := by
  obtain ⟨u, r, h1, h2, h3⟩ := p2_eq h
  have hu := hE.lo hx h1
  have hr := hE.lo hy h2
  obtain ⟨n, b, rfl, h4⟩ := vStr_eq h3
  obtain ⟨j, h5, h6⟩ := ob_eq h4
  obtain ⟨k, rfl⟩ := asNatV_eq h5
  have hc := (cnd_some h6).1
  have h7 := (cnd_some h6).2
  rw [mkI_eq] at h7; cases h7
  simp only [VR] at hu hr
  obtain ⟨s, hu, hs⟩ := hu
  have hj : j < n := Nat.le_of_ble_eq_true hc
  have hlen : j < s.data.toList.length := by rw [hs.1]; exact hj
  have hsz : j < s.size := by rw [size_eq]; exact hlen
  refine ⟨.int .u8 ((s.data.toList[j]).toNat : Int), ?_, ?_⟩
  · simp only [Go.execOp, ho]
    refine run_val ?_
    have h0 : (0 : Int) ≤ (j : Int) := by omega
    have hb : s[(j : Int).toNat]? = some (s.data.toList[j]) := by
      rw [Int.toNat_natCast, Go.ByteArray.getElem?_lt' s j hsz]; rfl
    simp [Go.Instr.index, hu, hr, Go.asIntOf, run_underlying ht, h0]
    rw [Go.ByteArray.getElem?_lt' s j hsz]; rfl
  · simp only [VR]
    rw [← hs.1, ← hs.2, byteAt_eq _ _ hlen]; rfl

theorem s_idxa (hE : ER P ρ m e φ stk slots a) {o : Oper} {t n el sz : Nat} {agg : Bool} {x y : Operand} (ho : o.op = .index t x y) (ht : P.underlying t = some (.array n el)) (ha : aggV P el = some agg)
    (hs : sizeV P el = some sz) (h1s : agg = false → sz = 1) {lx ly : GoVm.Loc} (hx : locOf m e x = some lx) (hy : locOf m e y = some ly) {v : V} (h : pIdxa n sz agg lx ly stk slots = some v) (w : World) : Gives P ρ φ a o v w := by
  obtain ⟨u, r, h1, h2, h3⟩ := p2_eq h
  have hu := hE.lo hx h1
  have hr := hE.lo hy h2
  obtain ⟨cs, rfl, h4⟩ := vAgg_eq h3
  obtain ⟨j, h5, h6⟩ := ob_eq h4
  obtain ⟨k, rfl⟩ := asNatV_eq h5
  have hc := (cnd_some h6).1
  have h7 := (cnd_some h6).2
  simp only [VR] at hu hr
  obtain ⟨q, hu, h8, h9⟩ := hu
  have hj : j < n := Nat.le_of_ble_eq_true hc
  obtain ⟨hle, c, hcc, hv⟩ := partOf_sound h7 ⟨h8, h9⟩
  refine ⟨c, ?_, hv⟩
  simp only [Go.execOp, ho]
  refine run_val ?_
  have h0 : (0 : Int) ≤ (j : Int) ∧ (j : Int) < (n : Int) := by omega
  simp only [Go.Instr.index, hu, hr, Go.asIntOf, Sem.run_bind, Sem.run_pure, Result.andThen_ok, run_underlying ht, if_pos h0, run_sizeOf hs, Int.toNat_natCast]
  refine run_part ha ?_ hcc hle w
  cases agg with
  | true => simpa [partN] using hs
  | false => simp [partN, h1s rfl]

theorem s_ext (hE : ER P ρ m e φ stk slots a) {o : Oper} {i : Nat} {x : Operand} (ho : o.op = .extract x i) {lx : GoVm.Loc} (hx : locOf m e x = some lx) {v : V} (h : pExt i lx stk slots = some v) (w : World) : Gives P ρ φ a o v w := by
  obtain ⟨u, h1, h2⟩ := ob_eq h
  obtain ⟨l, rfl, h3⟩ := vTup_eq h2
  have hu := hE.lo hx h1
  simp only [VR] at hu
  obtain ⟨q, hu, h4⟩ := hu
  have h5 : l[i]? = some v := by rw [← getSt_eq]; exact h3
  obtain ⟨c, h6, h7⟩ := h4.get i v h5
  refine ⟨c, ?_, h7⟩
  have h8 : q[i]? = some c := by simpa using h6
  simp [Go.execOp, ho, hu, Go.Instr.extract, h8]

theorem s_sls (hE : ER P ρ m e φ stk slots a) {o : Oper} {t : Nat} {x : Operand} {lo hi : Option Operand} (ho : o.op = .slice t x lo hi none) (ht : P.underlying t = some .string)
    {lx : GoVm.Loc} {llo lhi : Option GoVm.Loc} (hx : locOf m e x = some lx) (hlo : optL m e lo = some llo) (hhi : optL m e hi = some lhi)
    {v : V} (h : pSls lx llo lhi stk slots = some v) (w : World) : Gives P ρ φ a o v w := by
  obtain ⟨u, h1, h2⟩ := ob_eq h
  obtain ⟨n, b, rfl, h3⟩ := vStr_eq h2
  obtain ⟨l, h4, h5⟩ := ob_eq h3
  obtain ⟨r, h6, h7⟩ := ob_eq h5
  have hc := (cnd_some h7).1
  have h8 := (cnd_some h7).2
  rw [mkS_eq] at h8; cases h8
  have hu := hE.lo hx h1
  simp only [VR] at hu
  obtain ⟨s, hu, hs⟩ := hu
  simp only [andB_eq, Bool.and_eq_true, Nat.ble_eq] at hc
  have hsz : s.size = n := (size_eq s).trans hs.1
  have b1 := bound_sound hE hlo h4
  have b2 := bound_sound hE hhi h6
  rw [← hsz] at b2
  refine ⟨.string (s.extract l r), ?_, ?_⟩
  · simp only [Go.execOp, ho]
    refine run_val ?_
    simp only [Go.Instr.sliceAt, Sem.run_bind, run_underlying ht, Result.andThen_ok, Go.Instr.slice, hu]
    have h9 : r ≤ s.size := by omega
    simp [run_sliceBounds (P := P) (isS := false) (cap := s.size) b1 b2 hc.1 h9 w]
  · simp only [VR]
    refine ⟨_, rfl, ?_, ?_⟩
    · show (s.extract l r).data.toList.length = r - l
      rw [ByteArray.data_extract, Array.toList_extract]
      simp [List.extract_eq_take_drop, hs.1]
      have := hs.1; simp at this; omega
    · show numL (s.extract l r).data.toList = subStr n b l r
      rw [← hs.1, ← hs.2, subStr_eq _ _ _ hc.1 (by rw [hs.1]; exact hc.2), ByteArray.data_extract, Array.toList_extract, List.extract_eq_take_drop]
      congr 1
      rw [List.drop_take]

theorem s_cvs (hE : ER P ρ m e φ stk slots a) {o : Oper} {s d : Nat} {x : Operand} (ho : o.op = .convert s d x) (hs : P.underlying s = some .string) (hd : P.underlying d = some .string)
    {lx : GoVm.Loc} (hx : locOf m e x = some lx) {v : V} (h : pSls lx none none stk slots = some v) (w : World) : Gives P ρ φ a o v w := by
  obtain ⟨u, h1, h2⟩ := ob_eq h
  obtain ⟨n, b, rfl, h3⟩ := vStr_eq h2
  obtain ⟨l, h4, h5⟩ := ob_eq h3
  obtain ⟨r, h6, h7⟩ := ob_eq h5
  cases h4; cases h6
  have hc := (cnd_some h7).1
  have h8 := (cnd_some h7).2
  rw [mkS_eq] at h8; cases h8
  have hu := hE.lo hx h1
  simp only [VR] at hu
  obtain ⟨q, hu, hq⟩ := hu
  refine ⟨.string q, by simp [Go.execOp, ho, hu, Go.convert, run_underlying hs, run_underlying hd], ?_⟩
  simp only [VR]
  refine ⟨q, rfl, hq.1, ?_⟩
  rw [← hq.1, ← hq.2, subStr_eq _ _ _ (by omega) (by omega), List.take_length, List.drop_zero]

theorem s_fa (hE : ER P ρ m e φ stk slots a) {o : Oper} {t f : Nat} {x : Operand} (ho : o.op = .fieldAddr t x f) {fs : Array Go.Field} {fd : Go.Field} (ht : P.underlying t = some (.struct fs)) (hf : fs[f]? = some fd)
    {n : Nat} (hn : sizeV P fd.type = some n) (h0 : n ≠ 0) {lx : GoVm.Loc} (hx : locOf m e x = some lx) {v : V} (h : pFa fd.offset lx stk slots = some v) (w : World) : Gives P ρ φ a o v w := by
  obtain ⟨u, h1, h2⟩ := ob_eq h
  obtain ⟨_, h3⟩ | ⟨b, d, rfl, h3⟩ := vPtr_eq h2
  · cases h3
  · rw [mkP_eq] at h3; cases h3
    have hu := hE.lo hx h1
    simp only [VR] at hu
    obtain ⟨q, hq, hu⟩ := hu
    refine ⟨.pointer (some ⟨q.B, q.d + (d + fd.offset), none⟩), ?_, by simp only [VR]; exact ⟨q, hq, rfl⟩⟩
    simp only [Go.execOp, ho]
    refine run_val ?_
    simp only [Go.Instr.fieldAt, Sem.run_bind, run_underlying ht, Result.andThen_ok, hf, hu, Go.Instr.sureAddr, Sem.run_pure, Go.fieldPlace, run_sizeOf hn, if_neg h0, addr_add, Nat.add_assoc]

theorem s_ia (hE : ER P ρ m e φ stk slots a) {o : Oper} {t el sz : Nat} {x y : Operand} (ho : o.op = .indexAddr t x y) (ht : P.underlying t = some (.slice el)) (hs : sizeV P el = some sz)
    {lx ly : GoVm.Loc} (hx : locOf m e x = some lx) (hy : locOf m e y = some ly) {v : V} (h : pIa sz lx ly stk slots = some v) (w : World) : Gives P ρ φ a o v w := by
  obtain ⟨u, r, h1, h2, h3⟩ := p2_eq h
  have hu := hE.lo hx h1
  have hr := hE.lo hy h2
  obtain ⟨_, h4⟩ | ⟨b, d, n, k, rfl, h4⟩ := vSl_eq h3
  · cases h4
  · obtain ⟨j, h5, h6⟩ := ob_eq h4
    obtain ⟨kk, rfl⟩ := asNatV_eq h5
    have hc := (cnd_some h6).1
    have h7 := (cnd_some h6).2
    rw [mkP_eq] at h7; cases h7
    simp only [VR] at hu hr
    obtain ⟨q, o', k', hq, hu, hnk, hkk, ho', _⟩ := hu
    have hj : j < n := Nat.le_of_ble_eq_true hc
    have ho'' := ho' (by omega)
    refine ⟨.pointer (some ⟨q.B, q.d + (d + j * sz), none⟩), ?_, by simp only [VR]; exact ⟨q, hq, rfl⟩⟩
    simp only [Go.execOp, ho]
    refine run_val ?_
    have h0 : (0 : Int) ≤ (j : Int) ∧ (j : Int) < (n : Int) := by omega
    simp only [Go.Instr.indexAt, hu, hr, Go.asIntOf, Sem.run_bind, Sem.run_pure, Result.andThen_ok, run_underlying ht, if_pos h0, run_sizeOf hs, Int.toNat_natCast, addr_add, ho'', Nat.add_assoc]

theorem s_iaa (hE : ER P ρ m e φ stk slots a) {o : Oper} {t n el sz : Nat} {x y : Operand} (ho : o.op = .indexAddr t x y) (ht : P.underlying t = some (.array n el)) (hs : sizeV P el = some sz)
    {lx ly : GoVm.Loc} (hx : locOf m e x = some lx) (hy : locOf m e y = some ly) {v : V} (h : pIaa n sz lx ly stk slots = some v) (w : World) : Gives P ρ φ a o v w := by
  obtain ⟨u, r, h1, h2, h3⟩ := p2_eq h
  have hu := hE.lo hx h1
  have hr := hE.lo hy h2
  obtain ⟨_, h4⟩ | ⟨b, d, rfl, h4⟩ := vPtr_eq h3
  · cases h4
  · obtain ⟨j, h5, h6⟩ := ob_eq h4
    obtain ⟨kk, rfl⟩ := asNatV_eq h5
    have hc := (cnd_some h6).1
    have h7 := (cnd_some h6).2
    rw [mkP_eq] at h7; cases h7
    simp only [VR] at hu hr
    obtain ⟨q, hq, hu⟩ := hu
    have hj : j < n := Nat.le_of_ble_eq_true hc
    refine ⟨.pointer (some ⟨q.B, q.d + (d + j * sz), none⟩), ?_, by simp only [VR]; exact ⟨q, hq, rfl⟩⟩
    simp only [Go.execOp, ho]
    refine run_val ?_
    have h0 : (0 : Int) ≤ (j : Int) ∧ (j : Int) < (n : Int) := by omega
    simp only [Go.Instr.indexAt, hu, hr, Go.asIntOf, Sem.run_bind, Sem.run_pure, Result.andThen_ok, run_underlying ht, Go.Instr.sureAddr, if_pos h0, run_sizeOf hs, Int.toNat_natCast, addr_add, Nat.add_assoc]

end GoVm

/- Each pure operation of the virtual machine does what the model's operation does: built values, lengths, the greatest of several; and all of them in one theorem. -/
namespace GoVm
open Go (Value World Addr Obj MapEntry Program Operand Oper Op IntKind BinOp Sem Result run_underlying)

variable {P : Program} {ρ : Nat → Int} {φ : Phi} {m : SlotMap} {e : Env} {stk : List V} {slots : T V} {a : Go.Act}

/-! ## Cells put in their places -/

theorem foldl_set_list (vs : List Value) : ∀ (off : Nat) (k : Nat) (cs : Array Value), off + k + vs.length ≤ cs.size →
    (((vs.zipIdx k).foldl (fun (cs : Array Value) (p : Value × Nat) => cs.setIfInBounds (off + p.2) p.1) cs)).toList = cs.toList.take (off + k) ++ vs ++ cs.toList.drop (off + k + vs.length) := by
  induction vs with
  | nil => intro off k cs h; simp
  | cons v vs ih =>
    intro off k cs h
    simp only [List.zipIdx_cons, List.foldl_cons]
    rw [ih off (k + 1) _ (by simp at h ⊢; omega)]
    have hk : off + k < cs.toList.length := by simp at h ⊢; omega
    have e1 : (cs.setIfInBounds (off + k) v).toList = cs.toList.set (off + k) v := by simp
    rw [e1]
    have e2 : off + (k + 1) = (off + k) + 1 := by omega
    rw [e2]
    have e3 : (cs.toList.set (off + k) v).take (off + k + 1) = cs.toList.take (off + k) ++ [v] := by
      rw [List.take_succ_eq_append_getElem (by simpa using hk)]
      simp [List.take_set_of_le]
    have e4 : (cs.toList.set (off + k) v).drop (off + k + 1 + vs.length) = cs.toList.drop (off + k + (v :: vs).length) := by
      rw [List.drop_set_of_lt (by omega)]
      congr 1; simp; omega
    rw [e3, e4]
    simp

theorem foldl_set (vs : Array Value) (off : Nat) (cs : Array Value) (h : off + vs.size ≤ cs.size) :
    ((vs.zipIdx.foldl (fun (cs : Array Value) (p : Value × Nat) => cs.setIfInBounds (off + p.2) p.1) cs)).toList = cs.toList.take off ++ vs.toList ++ cs.toList.drop (off + vs.size) := by
  have := foldl_set_list vs.toList off 0 cs (by simpa using h)
  have e : vs.zipIdx.foldl (fun (cs : Array Value) (p : Value × Nat) => cs.setIfInBounds (off + p.2) p.1) cs = (vs.toList.zipIdx 0).foldl (fun (cs : Array Value) (p : Value × Nat) => cs.setIfInBounds (off + p.2) p.1) cs := by
    rw [← Array.foldl_toList]; congr 1; simp
  rw [e, this]; simp

theorem VRc.put {cs vs r : List V} {off : Nat} {ds us : List Value} (h : VRc P ρ φ cs ds) (g : VRc P ρ φ vs us) (hr : putAt off vs cs = some r) :
    VRc P ρ φ r (ds.take off ++ us ++ ds.drop (off + us.length)) ∧ off + us.length ≤ ds.length := by
  obtain ⟨e1, e2⟩ := putAt_eq off vs cs r hr
  subst e1
  refine ⟨?_, by rw [g.len, h.len]; exact e2⟩
  rw [g.len]
  exact ((h.take off).append g).append (h.drop _)

theorem fill_sound (hE : ER P ρ m e φ stk slots a) {place : Nat → Option (Nat × Nat)} : ∀ (ps : List (Nat × Operand)) {ls : List (Nat × Nat × GoVm.Loc)},
    ps.mapM (fun (p : Nat × Operand) => do let q ← place p.1; pure (q.1, q.2, ← locOf m e p.2)) = some ls →
    ∀ {z cs : List V} {zc : Array Value}, fillV ls stk slots z = some cs → VRc P ρ φ z zc.toList →
    ∃ out, Go.Instr.fill place zc (ps.map fun p => (p.1, a.eval p.2)) = some out ∧ VRc P ρ φ cs out.toList
  | [], ls, hp, z, cs, zc, hf, hz => by
    have : ls = [] := by simpa using hp.symm
    subst this
    cases hf
    exact ⟨zc, rfl, hz⟩
  | (i, x) :: ps, ls, hp, z, cs, zc, hf, hz => by
    obtain ⟨y, ys, h1, h2, rfl⟩ := mapM_cons_some hp
    simp only [Option.bind_eq_bind, Option.bind_eq_some_iff, Option.pure_def, Option.some.injEq] at h1
    obtain ⟨q, hq, lx, hlx, rfl⟩ := h1
    change fill1 stk slots (q.1, q.2, lx) (fillV ys stk slots) z = some cs at hf
    obtain ⟨v, hv, hf⟩ := ob_eq hf
    obtain ⟨l, hl, hf⟩ := ob_eq hf
    have hc := (cnd_some hf).1
    have hf2 := (cnd_some hf).2
    obtain ⟨z', hz', hf3⟩ := ob_eq hf2
    have hvr := hE.lo hlx hv
    have hcl := hvr.cells hl
    have hlen : l.length = q.2 := lenEq_eq l _ hc
    obtain ⟨hput, hle⟩ := hz.put hcl hz'
    have hsz : (a.eval x).cells.size = q.2 := by have := hcl.len; simp at this; omega
    have hle' : q.1 + (a.eval x).cells.size ≤ zc.size := by simpa using hle
    obtain ⟨out, h3, h4⟩ := fill_sound hE ps h2 (zc := (a.eval x).cells.zipIdx.foldl (fun (cs : Array Value) (p : Value × Nat) => cs.setIfInBounds (q.1 + p.2) p.1) zc) hf3 (by rw [foldl_set _ _ _ hle']; simpa using hput)
    refine ⟨out, ?_, h4⟩
    simp only [List.map_cons, Go.Instr.fill, hq]
    rw [if_neg (by simp [hsz]; omega)]
    exact h3

theorem run_places {fs : List Go.Field} (h : fs.all (fun f => (sizeV P f.type).isSome) = true) (w : World) :
    (fs.mapM fun f => (do pure (f.offset, ← Go.sizeOf f.type) : Sem (Nat × Nat))).run P w = .ok (fs.map fun f => (f.offset, P.cellsOf f.type)) w := by
  induction fs with
  | nil => rfl
  | cons f fs ih =>
    simp only [List.all_cons, Bool.and_eq_true] at h
    obtain ⟨n, hn⟩ := Option.isSome_iff_exists.1 h.1
    simp only [List.mapM_cons, Sem.run_bind, run_sizeOf hn, Result.andThen_ok, Sem.run_pure, ih h.2, List.map_cons, cellsOf_eq hn]

theorem s_bld_struct (hE : ER P ρ m e φ stk slots a) {o : Oper} {t : Nat} {ps : Array (Nat × Operand)} (ho : o.op = .build t ps) {fs : Array Go.Field} (ht : P.underlying t = some (.struct fs))
    (hall : fs.toList.all (fun f => (sizeV P f.type).isSome) = true) {z : List V} (hz : zeroC P t = some z) {ls : List (Nat × Nat × GoVm.Loc)}
    (hp : partsOf m e (placeS P fs) ps = some ls) {v : V} (h : pBld z ls stk slots = some v) (w : World) : Gives P ρ φ a o v w := by
  obtain ⟨cs, h1, h2⟩ := ob_eq h
  cases h2
  obtain ⟨zc, hz1, hz2, _⟩ := zeroC_sound (ρ := ρ) (φ := φ) hz w
  obtain ⟨out, h3, h4⟩ := fill_sound hE (place := placeS P fs) ps.toList hp h1 hz2
  refine ⟨.agg out, ?_, by simp only [VR]; exact ⟨out, rfl, h4.1, h4.2⟩⟩
  simp only [Go.execOp, ho]
  refine run_val ?_
  have hpl := run_places hall w
  have hpl' : (fs.mapM fun f => (do pure (f.offset, ← Go.sizeOf f.type) : Sem (Nat × Nat))).run P w = .ok (fs.map fun f => (f.offset, P.cellsOf f.type)) w := by
    rw [Array.mapM_eq_mapM_toList]
    simp only [Sem.run_map, hpl, Result.andThen_ok]
    congr 1
    apply Array.ext'; simp
  have hfun : (fun i => (fs.map fun f : Go.Field => (f.offset, P.cellsOf f.type))[i]?) = placeS P fs := by
    funext i
    simp only [Array.getElem?_map, placeS]
    cases hf : fs[i]? with
    | none => rfl
    | some f =>
      have hm : f ∈ fs.toList := by rw [Array.getElem?_eq_some_iff] at hf; obtain ⟨hi, rfl⟩ := hf; simp
      obtain ⟨n, hn⟩ := Option.isSome_iff_exists.1 (List.all_eq_true.1 hall f hm)
      simp [hn, cellsOf_eq hn]
  simp only [Go.Instr.build, Sem.run_bind, hz1, Result.andThen_ok, run_underlying ht, hpl']
  rw [hfun]
  have : ((ps.map fun (p : Nat × Operand) => (p.1, a.eval p.2)).toList) = ps.toList.map fun p => (p.1, a.eval p.2) := by simp
  simp only [this, h3]
  rfl

theorem s_bld_array (hE : ER P ρ m e φ stk slots a) {o : Oper} {t n el s : Nat} {ps : Array (Nat × Operand)} (ho : o.op = .build t ps) (ht : P.underlying t = some (.array n el))
    (hs : sizeV P el = some s) {z : List V} (hz : zeroC P t = some z) {ls : List (Nat × Nat × GoVm.Loc)}
    (hp : partsOf m e (placeA s) ps = some ls) {v : V} (h : pBld z ls stk slots = some v) (w : World) : Gives P ρ φ a o v w := by
  obtain ⟨cs, h1, h2⟩ := ob_eq h
  cases h2
  obtain ⟨zc, hz1, hz2, _⟩ := zeroC_sound (ρ := ρ) (φ := φ) hz w
  obtain ⟨out, h3, h4⟩ := fill_sound hE (place := placeA s) ps.toList hp h1 hz2
  replace h3 : Go.Instr.fill (fun i => some (i * s, s)) zc.cells (ps.toList.map fun p => (p.1, a.eval p.2)) = some out := h3
  refine ⟨.agg out, ?_, by simp only [VR]; exact ⟨out, rfl, h4.1, h4.2⟩⟩
  simp only [Go.execOp, ho]
  refine run_val ?_
  simp only [Go.Instr.build, Sem.run_bind, hz1, Result.andThen_ok, run_underlying ht, run_sizeOf hs]
  have : ((ps.map fun (p : Nat × Operand) => (p.1, a.eval p.2)).toList) = ps.toList.map fun p => (p.1, a.eval p.2) := by simp
  simp only [this, h3]
  rfl

/-! ## Lengths; the greatest of several -/

theorem run_builtin {o : Oper} {b : Go.Builtin} {args : Array Operand} {ts : Array Nat} (ho : o.op = .call ⟨.builtin b, args, ts⟩) (w : World) :
    (Go.execOp a.eval o).run P w = (Go.builtin b ts o.type (args.map fun | .const _ => true | _ => false) (args.map a.eval)).run P w := by
  simp only [Go.execOp, ho, Go.resolve, Go.invoke]
  rfl

theorem s_ln (hE : ER P ρ m e φ stk slots a) {o : Oper} {x : Operand} {ts : Array Nat} {t : Nat} (ho : o.op = .call ⟨.builtin .len, #[x], ts⟩) (hts : ts[0]? = some t) {d : Go.TypeDesc} (hd : P.underlying t = some d)
    {kd : Nat} (hk : (kd = 0 ∧ d = .string) ∨ (kd = 1 ∧ ∃ el, d = .slice el)) {lx : GoVm.Loc} (hx : locOf m e x = some lx) {v : V} (h : pLn kd lx stk slots = some v) (w : World) : Gives P ρ φ a o v w := by
  obtain ⟨u, h1, h2⟩ := ob_eq h
  have hu := hE.lo hx h1
  have fin : ∀ n : Nat, (Go.Builtin.len_ ts o.type #[a.eval x]).run P w = .ok (Go.goInt n) w → v = .int .i64 (.ofNat n) → Gives P ρ φ a o v w := by
    intro n hn hv
    refine ⟨Go.goInt n, ?_, by subst hv; simp only [VR]; rfl⟩
    rw [run_builtin ho]
    exact run_val (by simpa using hn)
  rcases hk with ⟨rfl, rfl⟩ | ⟨rfl, el, rfl⟩
  · cases u <;> first
      | (cases h2; done)
      | (cases h2
         simp only [VR] at hu
         obtain ⟨s, hu, hs⟩ := hu
         refine fin _ ?_ rfl
         have := hs.1
         rw [← size_eq] at this
         simp [Go.Builtin.len_, hts, run_underlying hd, hu, this])
  · cases u <;> first
      | (cases h2; done)
      | (cases h2
         simp only [VR] at hu
         refine fin 0 ?_ rfl
         simp [Go.Builtin.len_, hts, run_underlying hd, hu])
      | (cases h2
         simp only [VR] at hu
         obtain ⟨_, _, _, _, hu, _⟩ := hu
         refine fin _ ?_ rfl
         simp [Go.Builtin.len_, hts, run_underlying hd, hu])

theorem mx_sound {neg : Bool} : ∀ (l : List V) (v r : V), mxV neg l v = some r → ∀ (ds : List Value) (c : Value), VR P ρ φ v c → VRs P ρ φ l ds → ∀ w : World,
    ∃ c', (ds.foldlM (if neg then Go.Builtin.min2 else Go.Builtin.max2) c).run P w = .ok c' w ∧ VR P ρ φ r c'
  | [], v, r, h, ds, c, hv, hl, w => by
    cases h
    have : ds = [] := by simpa [VRs] using hl
    subst this
    exact ⟨c, rfl, hv⟩
  | y :: l, v, r, h, ds, c, hv, hl, w => by
    simp only [VRs] at hl
    obtain ⟨d, ds', rfl, hd, hl⟩ := hl
    change vInt v (fun k a => vInt y (mx1 neg k a (mxV neg l)) (fun _ _ _ _ => none)) (fun _ _ _ _ => none) = some r at h
    obtain ⟨k, n, rfl, h2⟩ | ⟨_, _, _, _, _, h2⟩ := vInt_eq h
    · clear h
      obtain ⟨k', n', rfl, h3⟩ | ⟨_, _, _, _, _, h3⟩ := vInt_eq h2
      · have hk := beqK_eq.1 (cnd_some h3).1
        have h4 := (cnd_some h3).2
        clear h2 h3
        subst hk
        simp only [VR] at hv hd
        subst hv; subst hd
        simp only [List.foldlM_cons, Sem.run_bind]
        have step : ∀ z : Int, (if neg then Go.Builtin.min2 else Go.Builtin.max2) (.int k n) (.int k n') = (pure (.int k z) : Sem Value) → mxV neg l (.int k z) = some r →
            ∃ c', ((((if neg then Go.Builtin.min2 else Go.Builtin.max2) (.int k n) (.int k n')).run P w).andThen fun s w' => (ds'.foldlM (if neg then Go.Builtin.min2 else Go.Builtin.max2) s).run P w') = .ok c' w ∧ VR P ρ φ r c' := by
          intro z hz hm
          rw [hz]
          exact mx_sound l (.int k z) r hm ds' (.int k z) (by simp [VR]) hl w
        rw [xorB_eq, ltI_decide] at h4
        cases neg with
        | false =>
          by_cases hlt : n < n'
          · simp [hlt] at h4; exact step n' (by simp [Go.Builtin.max2, hlt]) h4
          · simp [hlt] at h4; exact step n (by simp [Go.Builtin.max2, hlt]) h4
        | true =>
          by_cases hlt : n < n'
          · simp [hlt] at h4; exact step n (by simp [Go.Builtin.min2, show ¬ n' < n by omega]) h4
          · simp [hlt] at h4
            by_cases he : n' < n
            · exact step n' (by simp [Go.Builtin.min2, he]) h4
            · have : n' = n := by omega
              subst this
              exact step n' (by simp [Go.Builtin.min2]) h4
      · cases h3
    · cases h2

theorem s_mx (hE : ER P ρ m e φ stk slots a) {o : Oper} {b : Go.Builtin} {neg : Bool} (hb : b = (if neg then .min else .max)) {args : Array Operand} {ts : Array Nat} (ho : o.op = .call ⟨.builtin b, args, ts⟩)
    {ls : List GoVm.Loc} (hx : locsOf m e args = some ls) {v : V} (h : pMx neg ls stk slots = some v) (w : World) : Gives P ρ φ a o v w := by
  obtain ⟨vs, h1, h2⟩ := ob_eq h
  have hl := hE.los _ hx h1
  cases vs with
  | nil => cases h2
  | cons u r =>
    change mxV neg r u = some v at h2
    simp only [VRs] at hl
    obtain ⟨c, cs, hc, hu, hr⟩ := hl
    obtain ⟨c', h3, h4⟩ := mx_sound r u v h2 cs c hu hr w
    refine ⟨c', ?_, h4⟩
    rw [run_builtin ho, hb]
    have hargs : (args.map a.eval).toList = c :: cs := by simpa using hc
    cases neg with
    | false =>
      refine run_val ?_
      simp only [Go.Builtin.max_, hargs]; exact h3
    | true =>
      refine run_val ?_
      simp only [Go.Builtin.min_, hargs]; exact h3

end GoVm

/- All pure operations of the virtual machine in one theorem. -/
namespace GoVm
open Go (Value World Addr Obj MapEntry Program Operand Oper Op IntKind BinOp Sem Result run_underlying)

variable {P : Program} {ρ : Nat → Int} {φ : Phi} {m : SlotMap} {e : Env} {stk : List V} {slots : T V} {a : Go.Act}

theorem nilI_sound (hE : ER P ρ m e φ stk slots a) {o : Oper} {op : BinOp} {t yt : Nat} {x y : Operand} (ho : o.op = .binOp op t x y yt) {kd : Nat} {d : Go.TypeDesc} (hd : P.underlying t = some d) (hk : kindIs kd d)
    {lx ly : GoVm.Loc} (hx : locOf m e x = some lx) (hy : locOf m e y = some ly) {pi : PI} (h : nilI kd op x y lx ly = some (.P pi)) {v : V} (hv : evP pi stk slots = some v) (w : World) : Gives P ρ φ a o v w := by
  have go : ∀ neg : Bool, op = (if neg then .neq else .eql) →
      (if isNilConst kd y then some (I.P (.cmn kd neg lx)) else if isNilConst kd x then some (.P (.cmn kd neg ly)) else if kd = 0 then some (.P (.cmf neg lx ly)) else none) = some (.P pi) → Gives P ρ φ a o v w := by
    intro neg hn h
    split at h
    · rename_i hz; cases h; exact s_cmn hE hn ho hd hk hz (.inl ⟨rfl, rfl⟩) hx hv w
    · split at h
      · rename_i hz; cases h; exact s_cmn hE hn ho hd hk hz (.inr ⟨rfl, rfl⟩) hy hv w
      · split at h
        · rename_i h0; cases h; subst h0
          have : ∃ ms, d = .interface ms := by cases d <;> first | exact ⟨_, rfl⟩ | exact hk.elim
          obtain ⟨ms, rfl⟩ := this
          exact s_cmf hE hn ho hd hx hy hv w
        · cases h
  cases op <;> simp only [nilI, reduceCtorEq] at h
  · exact go false rfl h
  · exact go true rfl h

theorem binI_sound (hE : ER P ρ m e φ stk slots a) {o : Oper} {op : BinOp} {t yt : Nat} {x y : Operand} (ho : o.op = .binOp op t x y yt) {pi : PI} (h : binI P m e op t x y = some (.P pi)) {v : V} (hv : evP pi stk slots = some v) (w : World) :
    Gives P ρ φ a o v w := by
  simp only [binI, Option.bind_eq_bind, Option.bind_eq_some_iff] at h
  obtain ⟨lx, hx, ly, hy, d, hd, h⟩ := h
  cases d with
  | int k =>
    simp only at h
    split at h
    · rename_i c hc; cases h; exact s_ar hE ho hc hx hy hv w
    · rename_i c hc _; cases h; exact s_cmi hE ho hc hx hy hv w
    · cases h
  | string =>
    simp only at h
    split at h
    · cases h; exact s_cat hE ho hx hy hv w
    · rename_i c hne hc; cases h; exact s_cms hE ho hc hx hy hv w
    · cases h
  | bool =>
    simp only at h
    split at h
    · cases h; exact s_cmb (neg := false) hE rfl ho hd hx hy hv w
    · cases h; exact s_cmb (neg := true) hE rfl ho hd hx hy hv w
    · cases h
  | pointer el =>
    simp only [Option.bind_eq_some_iff] at h
    obtain ⟨n, hn, h⟩ := h
    split at h
    · cases h
    · split at h <;> cases h
  | interface ms => exact nilI_sound (kd := 0) hE ho hd (show kindIs 0 _ from trivial) hx hy h hv w
  | slice el => exact nilI_sound (kd := 1) hE ho hd (show kindIs 1 _ from trivial) hx hy h hv w
  | map k el => exact nilI_sound (kd := 2) hE ho hd (show kindIs 2 _ from trivial) hx hy h hv w
  | func ps rs vr => exact nilI_sound (kd := 3) hE ho hd (show kindIs 3 _ from trivial) hx hy h hv w
  | _ => cases h

theorem mapM_len {α β : Type} {f : α → Option β} : ∀ (l : List α) (r : List β), l.mapM f = some r → l.length = r.length
  | [], r, h => by have : r = [] := by simpa using h.symm
                   simp [this]
  | y :: l, r, h => by obtain ⟨z, zs, _, h2, rfl⟩ := mapM_cons_some h; simp [mapM_len l zs h2]

theorem locsOf_one {args : Array Operand} {x : GoVm.Loc} (has : locsOf m e args = some [x]) : ∃ xo, args = #[xo] ∧ locOf m e xo = some x := by
  unfold locsOf at has
  have hl := mapM_len _ _ has
  obtain ⟨l⟩ := args
  cases l with
  | nil => simp at hl
  | cons y l =>
    cases l with
    | cons z l => simp at hl
    | nil =>
      obtain ⟨z, zs, h1, _, h3⟩ := mapM_cons_some (x := y) (xs := []) has
      cases h3; exact ⟨y, rfl, h1⟩

theorem locsOf_two {args : Array Operand} {x y : GoVm.Loc} (has : locsOf m e args = some [x, y]) : ∃ xo yo, args = #[xo, yo] ∧ locOf m e xo = some x ∧ locOf m e yo = some y := by
  unfold locsOf at has
  have hl := mapM_len _ _ has
  obtain ⟨l⟩ := args
  cases l with
  | nil => simp at hl
  | cons y l =>
    cases l with
    | nil => simp at hl
    | cons z l =>
      cases l with
      | cons u l => simp at hl
      | nil =>
        obtain ⟨z', zs, h1, h2, h3⟩ := mapM_cons_some (x := y) (xs := [z]) has
        obtain ⟨z2, zs2, h4, _, h5⟩ := mapM_cons_some (x := z) (xs := []) h2
        cases h3; cases h5; exact ⟨y, z, rfl, h1, h4⟩

theorem callI_P (hE : ER P ρ m e φ stk slots a) {o : Oper} {c : Go.Call} (ho : o.op = .call c) {pi : PI} (h : callI P m e c = some (.P pi)) {v : V} (hv : evP pi stk slots = some v) (w : World) :
    Gives P ρ φ a o v w := by
  obtain ⟨callee, args, ts⟩ := c
  cases callee with
  | value f =>
    cases f <;> simp only [callI, Option.bind_eq_bind, Option.bind_eq_some_iff, Option.pure_def, Option.some.injEq, reduceCtorEq, and_false, exists_false] at h
  | invoke r n => simp only [callI, Option.bind_eq_bind, Option.bind_eq_some_iff, Option.pure_def, Option.some.injEq, reduceCtorEq, and_false, exists_false] at h
  | builtin b =>
    simp only [callI, Option.bind_eq_bind, Option.bind_eq_some_iff] at h
    obtain ⟨as, has, h⟩ := h
    split at h
    · rename_i x
      obtain ⟨xs, rfl⟩ : ∃ xo, args = #[xo] := by
        have h1 := has
        unfold locsOf at h1
        have : args.toList.length = 1 := by
          have hl : ∀ (l : List Operand) (r : List GoVm.Loc), l.mapM (locOf m e) = some r → l.length = r.length := by
            intro l
            induction l with
            | nil => intro r h; have : r = [] := by simpa using h.symm
                     simp [this]
            | cons y l ih => intro r h; obtain ⟨z, zs, _, h2, rfl⟩ := mapM_cons_some h; simp [ih zs h2]
          rw [hl _ _ h1]; rfl
        obtain ⟨l⟩ := args
        cases l with
        | nil => simp at this
        | cons y l => cases l with | nil => exact ⟨y, rfl⟩ | cons z l => simp at this
      have hx : locOf m e xs = some x := by
        unfold locsOf at has
        obtain ⟨y, ys, h1, _, h3⟩ := mapM_cons_some (x := xs) (xs := []) has
        cases h3; exact h1
      simp only [Option.bind_eq_some_iff] at h
      obtain ⟨d, ⟨t, ht, hd⟩, h⟩ := h
      cases d <;> simp only [Option.pure_def, Option.some.injEq, reduceCtorEq] at h
      case string => cases h; exact s_ln hE ho ht hd (.inl ⟨rfl, rfl⟩) hx hv w
      case slice el => cases h; exact s_ln hE ho ht hd (.inr ⟨rfl, el, rfl⟩) hx hv w
      case array n el =>
        cases h
        cases hv
        refine ⟨Go.goInt n, ?_, by simp only [VR]; rfl⟩
        rw [run_builtin ho]
        refine run_val ?_
        have ht' : ts[0]? = some t := ht
        simp [Go.Builtin.len_, ht', run_underlying hd]
    · simp only [Option.bind_eq_some_iff] at h
      obtain ⟨d, ⟨t, ht, hd⟩, h⟩ := h
      cases d <;> try (cases h; done)
      simp only [Option.bind_eq_some_iff] at h
      obtain ⟨n, _, bb, _, z, _, d2, ⟨t2, ht2, hd2⟩, h⟩ := h
      cases d2 <;> (try (cases h; done)) <;> (simp only at h; split at h <;> cases h)
    · simp only [Option.bind_eq_some_iff] at h
      obtain ⟨d, ⟨t, ht, hd⟩, h⟩ := h
      cases d <;> try (cases h; done)
      cases h
      exact s_mx (neg := false) hE rfl ho has hv w
    · simp only [Option.bind_eq_some_iff] at h
      obtain ⟨d, ⟨t, ht, hd⟩, h⟩ := h
      cases d <;> try (cases h; done)
      cases h
      exact s_mx (neg := true) hE rfl ho has hv w
    · cases h

theorem ob_bind {α β : Type} {x : Option α} {f : α → Option β} {b : β} (h : (x >>= f) = some b) : ∃ a, x = some a ∧ f a = some b := by
  cases x with
  | none => cases h
  | some a => exact ⟨a, rfl, h⟩

theorem opP_sound (hE : ER P ρ m e φ stk slots a) {o : Oper} {pi : PI} (h : opI P m e o.op = some (.P pi)) {v : V} (hv : evP pi stk slots = some v) (w : World) : Gives P ρ φ a o v w := by
  cases ho : o.op with
  | move x => rw [ho] at h; obtain ⟨l, hl, h⟩ := ob_bind h; cases h; exact s_mv hE (.inl ho) hl hv w
  | assign x => rw [ho] at h; obtain ⟨l, hl, h⟩ := ob_bind h; cases h; exact s_mv hE (.inr ho) hl hv w
  | pick c x y =>
    rw [ho] at h
    obtain ⟨lc, hc, h⟩ := ob_bind h
    obtain ⟨lx, hx, h⟩ := ob_bind h
    obtain ⟨ly, hy, h⟩ := ob_bind h
    cases h; exact s_pick hE ho hc hx hy hv w
  | build t ps =>
    rw [ho] at h
    obtain ⟨z, hz, h⟩ := ob_bind h
    obtain ⟨d, hd, h⟩ := ob_bind h
    cases d <;> try (cases h; done)
    case struct fs =>
      simp only at h
      split at h
      · cases h
      · rename_i hall
        obtain ⟨ls, hls, h⟩ := ob_bind h
        cases h
        exact s_bld_struct hE ho hd (by revert hall; cases fs.toList.all (fun f => (sizeV P f.type).isSome) <;> simp) hz hls hv w
    case array n el =>
      obtain ⟨s, hs, h⟩ := ob_bind h
      obtain ⟨ls, hls, h⟩ := ob_bind h
      cases h
      exact s_bld_array hE ho hd hs hz hls hv w
  | nilCheck x => rw [ho] at h; obtain ⟨l, hl, h⟩ := ob_bind h; cases h; exact (s_nn hE ho hl hv w).1
  | binOp op t x y yt => rw [ho] at h; exact binI_sound hE ho h hv w
  | unOp op t x =>
    rw [ho] at h
    cases op with
    | not => obtain ⟨l, hl, h⟩ := ob_bind h; cases h; exact s_no hE ho hl hv w
    | neg =>
      obtain ⟨d, hd, h⟩ := ob_bind h
      cases d <;> try (cases h; done)
      obtain ⟨l, hl, h⟩ := ob_bind h; cases h; exact s_ng hE ho hl hv w
    | _ => cases h
  | convert s d x =>
    rw [ho] at h
    obtain ⟨ds, hds, h⟩ := ob_bind h
    obtain ⟨dd, hdd, h⟩ := ob_bind h
    cases ds <;> cases dd <;> try (cases h; done)
    case int.int => obtain ⟨l, hl, h⟩ := ob_bind h; cases h; exact s_cvi hE ho hds hdd hl hv w
    case string.string =>
      obtain ⟨l, hl, h⟩ := ob_bind h
      cases h
      exact s_cvs hE ho hds hdd hl hv w
    case string.slice el =>
      obtain ⟨de, hde, h⟩ := ob_bind h
      cases de <;> try (cases h; done)
      rename_i k; cases k <;> try (cases h; done)
      obtain ⟨l, hl, h⟩ := ob_bind h; obtain ⟨_, _, h⟩ := ob_bind h; cases h
    case slice.string el =>
      obtain ⟨de, hde, h⟩ := ob_bind h
      cases de <;> try (cases h; done)
      rename_i k; cases k <;> try (cases h; done)
      obtain ⟨l, hl, h⟩ := ob_bind h; cases h
  | makeInterface t x =>
    rw [ho] at h
    obtain ⟨d, hd, h⟩ := ob_bind h
    cases d <;> first
      | (cases h; done)
      | (obtain ⟨l, hl, h⟩ := ob_bind h; cases h; exact s_ifc hE ho hd (by simp) hl hv w)
  | typeAssert x xt t ok =>
    rw [ho] at h
    obtain ⟨d, hd, h⟩ := ob_bind h
    cases d <;> first
      | (cases h; done)
      | (obtain ⟨z, hz, h⟩ := ob_bind h; obtain ⟨l, hl, h⟩ := ob_bind h; cases h; exact s_tas hE ho hd (by simp) hz hl hv w)
  | makeFunc f x y =>
    rw [ho] at h
    cases f <;> try (cases h; done)
    obtain ⟨lx, hx, h⟩ := ob_bind h
    obtain ⟨ly, hy, h⟩ := ob_bind h
    cases h; exact s_mkf hE ho hx hy hv w
  | slice t x lo hi mx =>
    rw [ho] at h
    cases mx <;> try (cases h; done)
    obtain ⟨llo, hlo, h⟩ := ob_bind h
    obtain ⟨lhi, hhi, h⟩ := ob_bind h
    obtain ⟨d, hd, h⟩ := ob_bind h
    cases d <;> try (cases h; done)
    case string => obtain ⟨l, hl, h⟩ := ob_bind h; cases h; exact s_sls hE ho hd hl hlo hhi hv w
    case slice el =>
      obtain ⟨n, hn, h⟩ := ob_bind h
      obtain ⟨l, hl, h⟩ := ob_bind h; cases h
  | fieldAddr t x f =>
    rw [ho] at h
    obtain ⟨fd, hfd, h⟩ := ob_bind h
    obtain ⟨n, hn, h⟩ := ob_bind h
    obtain ⟨d, hd, hf⟩ := ob_bind hfd
    cases d <;> try (cases hf; done)
    split at h
    · cases h
    · rename_i hne
      obtain ⟨l, hl, h⟩ := ob_bind h
      cases h
      exact s_fa hE ho hd hf hn (by simpa using hne) hl hv w
  | field t x f =>
    rw [ho] at h
    obtain ⟨fd, hfd, h⟩ := ob_bind h
    obtain ⟨ag, hag, h⟩ := ob_bind h
    obtain ⟨n, hn, h⟩ := ob_bind h
    obtain ⟨l, hl, h⟩ := ob_bind h
    obtain ⟨d, hd, hf⟩ := ob_bind hfd
    cases d <;> try (cases hf; done)
    cases h
    exact s_fld hE ho hd hf hag hn hl hv w
  | indexAddr t x i =>
    rw [ho] at h
    obtain ⟨d, hd, h⟩ := ob_bind h
    cases d <;> try (cases h; done)
    all_goals
      obtain ⟨n, hn, h⟩ := ob_bind h
      obtain ⟨lx, hx, h⟩ := ob_bind h
      obtain ⟨li, hi, h⟩ := ob_bind h
      cases h
    · exact s_ia hE ho hd hn hx hi hv w
    · exact s_iaa hE ho hd hn hx hi hv w
  | index t x i =>
    rw [ho] at h
    obtain ⟨d, hd, h⟩ := ob_bind h
    cases d <;> try (cases h; done)
    case string =>
      obtain ⟨lx, hx, h⟩ := ob_bind h
      obtain ⟨li, hi, h⟩ := ob_bind h
      cases h
      exact s_idxs hE ho hd hx hi hv w
    case array n el =>
      obtain ⟨ag, hag, h⟩ := ob_bind h
      obtain ⟨s, hs, h⟩ := ob_bind h
      split at h
      · cases h
      · rename_i hne
        obtain ⟨lx, hx, h⟩ := ob_bind h
        obtain ⟨li, hi, h⟩ := ob_bind h
        cases h
        exact s_idxa hE ho hd hag hs (by intro e; subst e; simpa using hne) hx hi hv w
  | extract x i => rw [ho] at h; obtain ⟨l, hl, h⟩ := ob_bind h; cases h; exact s_ext hE ho hl hv w
  | call c => rw [ho] at h; exact callI_P hE ho h hv w
  | alloc t => rw [ho] at h; obtain ⟨z, _, h⟩ := ob_bind h; cases h
  | box t x => rw [ho] at h; obtain ⟨z, _, h⟩ := ob_bind h; cases h
  | buildSlice t n ps =>
    rw [ho] at h
    obtain ⟨d, hd, h⟩ := ob_bind h
    cases d <;> try (cases h; done)
    obtain ⟨s, hs, h⟩ := ob_bind h
    split at h
    · cases h
    · obtain ⟨z, _, h⟩ := ob_bind h
      obtain ⟨ls, _, h⟩ := ob_bind h
      cases h
  | load t x =>
    rw [ho] at h
    obtain ⟨ag, _, h⟩ := ob_bind h
    obtain ⟨n, _, h⟩ := ob_bind h
    obtain ⟨l, _, h⟩ := ob_bind h
    cases h
  | store t x y =>
    rw [ho] at h
    obtain ⟨ag, _, h⟩ := ob_bind h
    obtain ⟨n, _, h⟩ := ob_bind h
    obtain ⟨l, _, h⟩ := ob_bind h
    cases h
  | makeMap t r => rw [ho] at h; cases r <;> cases h
  | makeSlice t x y =>
    rw [ho] at h
    obtain ⟨d, hd, h⟩ := ob_bind h
    cases d <;> try (cases h; done)
    obtain ⟨b, _, h⟩ := ob_bind h
    split at h
    · cases h
    · obtain ⟨z, _, h⟩ := ob_bind h
      split at h
      · cases h
      · obtain ⟨s, _, h⟩ := ob_bind h
        obtain ⟨l, _, h⟩ := ob_bind h
        obtain ⟨c, _, h⟩ := ob_bind h
        cases h
  | lookup t x i ok =>
    rw [ho] at h
    obtain ⟨d, hd, h⟩ := ob_bind h
    cases d <;> try (cases h; done)
    obtain ⟨b, _, h⟩ := ob_bind h
    obtain ⟨z, _, h⟩ := ob_bind h
    obtain ⟨l, _, h⟩ := ob_bind h
    obtain ⟨c, _, h⟩ := ob_bind h
    cases h
  | mapUpdate t x i y =>
    rw [ho] at h
    obtain ⟨d, hd, h⟩ := ob_bind h
    cases d <;> try (cases h; done)
    obtain ⟨b, _, h⟩ := ob_bind h
    obtain ⟨z, _, h⟩ := ob_bind h
    obtain ⟨l, _, h⟩ := ob_bind h
    obtain ⟨c, _, h⟩ := ob_bind h
    cases h
  | range t x =>
    rw [ho] at h
    obtain ⟨d, hd, h⟩ := ob_bind h
    cases d <;> first
      | (cases h; done)
      | (obtain ⟨b, _, h⟩ := ob_bind h; cases h)
  | next x b => rw [ho] at h; cases b <;> (obtain ⟨l, _, h⟩ := ob_bind h; cases h)
  | entry x => rw [ho] at h; obtain ⟨l, _, h⟩ := ob_bind h; cases h
  | _ => rw [ho] at h; cases h

end GoVm

/- Operations of the virtual machine that read memory do what the model's operations do. -/
import Derived.Test.YtimknmaihfjdgaaGreatDoorVmC
import Derived.Laws.StructEq
import Derived.LaidEql
import Derived.Laws.BytesString
import Derived.Laws.MakeOwn
import Derived.Laws.CopyRow
import Derived.Laws.AppendOwn
import Derived.Laws.RangeString
namespace GoVm
open Go (Value World Addr Obj MapEntry Program Operand Oper Op IntKind BinOp Sem Result run_underlying)

variable {P : Program} {ρ : Nat → Int} {φ : Phi} {m : SlotMap} {e : Env} {stk : List V} {slots : T V} {a : Go.Act} {h : T O} {nx : Pos} {w : World}

theorem oCells_eq {β : Type} {o : Option O} {f : List V → Nat → Bool → Bool → Option β} {b : β} (hh : oCells o f = some b) : ∃ cs t wr p, o = some (.cells cs t wr p) ∧ f cs t wr p = some b := by
  obtain ⟨ob, rfl, h2⟩ := ob_eq hh
  cases ob <;> first | (cases h2; done) | exact ⟨_, _, _, _, rfl, h2⟩
theorem oMap_eq {β : Type} {o : Option O} {f : List (V × V) → Option β} {b : β} (hh : oMap o f = some b) : ∃ es, o = some (.map es) ∧ f es = some b := by
  obtain ⟨ob, rfl, h2⟩ := ob_eq hh
  cases ob <;> first | (cases h2; done) | exact ⟨_, rfl, h2⟩
theorem oSiter_eq {β : Type} {o : Option O} {f : Nat → Nat → Nat → Option β} {b : β} (hh : oSiter o f = some b) : ∃ n x p, o = some (.siter n x p) ∧ f n x p = some b := by
  obtain ⟨ob, rfl, h2⟩ := ob_eq hh
  cases ob <;> first | (cases h2; done) | exact ⟨_, _, _, rfl, h2⟩
theorem oMiter_eq {β : Type} {o : Option O} {f : Option Pos → Nat → Nat → Option β} {b : β} (hh : oMiter o f = some b) : ∃ mm n s, o = some (.miter mm n s) ∧ f mm n s = some b := by
  obtain ⟨ob, rfl, h2⟩ := ob_eq hh
  cases ob <;> first | (cases h2; done) | exact ⟨_, _, _, rfl, h2⟩

theorem Rel.at (r : Rel P ρ φ h nx w) {b : Pos} {q : Blk} (hq : φ b = some q) {o : O} (hb : h.get b = some o) : ObjR P ρ φ w q o := by
  obtain ⟨o', h1, h2⟩ := r.obj b q hq
  rw [hb] at h1; cases h1; exact h2

/-- The cells of a block, as the model has them. -/
theorem cells_at {q : Blk} {cs : List V} {t : Nat} {wr p : Bool} (ho : ObjR P ρ φ w q (.cells cs t wr p)) :
    ∃ ds, VRc P ρ φ cs ds ∧ ∀ j y, ds[j]? = some y → w.cell? ⟨q.B, q.d + j, none⟩ = some y := by
  obtain ⟨_, c, fz, h2, h3, h4, h5, _, _⟩ := ho
  refine ⟨_, h4, fun j y hj => ?_⟩
  rw [List.getElem?_take] at hj
  split at hj
  · rw [List.getElem?_drop] at hj
    simp only [World.cell?, h2]
    simpa using hj
  · cases hj

theorem run_load_part {t n o : Nat} {ag : Bool} (ha : aggV P t = some ag) (hn : partN P ag t = some n) {B d : Nat} {ds : List Value} (hc : ∀ j y, ds[j]? = some y → w.cell? ⟨B, d + j, none⟩ = some y)
    (hle : o + n ≤ ds.length) {c : Value} (hp : partR ag ((ds.drop o).take n) c) : (Go.loadVar t ⟨B, d + o, none⟩).run P w = .ok c w := by
  have hcell : ∀ j v, ((ds.drop o).take n)[j]? = some v → w.cell? ((⟨B, d + o, none⟩ : Addr).add j) = some v := by
    intro j v hj
    rw [List.getElem?_take] at hj
    split at hj
    · rw [List.getElem?_drop] at hj
      rw [addr_add, Nat.add_assoc]; exact hc _ _ hj
    · cases hj
  have hlen : ((ds.drop o).take n).length = n := by simp; omega
  unfold partN at hn
  simp only [Go.loadVar, Sem.run_bind, run_isAgg ha, Result.andThen_ok]
  cases ag with
  | true =>
    simp only [if_true] at hn ⊢
    simp only [partR, if_true] at hp
    have := Go.run_loadCells_list (P := P) w ⟨B, d + o, none⟩ ((ds.drop o).take n) hcell
    rw [hlen] at this
    simp only [Sem.run_bind, run_sizeOf hn, Result.andThen_ok, this, Sem.run_pure, hp]
  | false =>
    simp only [Bool.false_eq_true, if_false, Option.some.injEq] at hn ⊢
    simp only [partR, Bool.false_eq_true, if_false] at hp
    have h0 := hcell 0 c (by rw [hp]; rfl)
    rw [addr_add] at h0
    simp only [Nat.add_zero] at h0
    simp [Go.run_load, h0]

theorem q_ld (hE : ER P ρ m e φ stk slots a) (r : Rel P ρ φ h nx w) {o : Oper} {t : Nat} {x : Operand} (ho : o.op = .load t x) {ag : Bool} (ha : aggV P t = some ag) {n : Nat} (hn : partN P ag t = some n)
    {lx : GoVm.Loc} (hx : locOf m e x = some lx) {v : V} (hv : qLd n ag lx stk slots h = some v) : Gives P ρ φ a o v w := by
  obtain ⟨u, h1, h2⟩ := ob_eq hv
  have hu := hE.lo hx h1
  obtain ⟨_, h3⟩ | ⟨b, k, rfl, h3⟩ := vPtr_eq h2
  · cases h3
  · obtain ⟨cs, u, wr, p, h4, h5⟩ := oCells_eq h3
    simp only [VR] at hu
    obtain ⟨q, hq, hu⟩ := hu
    obtain ⟨ds, h6, h7⟩ := cells_at (r.at hq h4)
    obtain ⟨hle, c, hc, hvr⟩ := partOf_sound h5 h6
    refine ⟨c, ?_, hvr⟩
    simp only [Go.execOp, ho]
    refine run_val ?_
    simp only [Go.Instr.loadAt, Sem.run_bind, hu, Go.Instr.sureAddr, Sem.run_pure, Result.andThen_ok]
    exact run_load_part ha hn h7 hle hc

theorem q_lnm (hE : ER P ρ m e φ stk slots a) (r : Rel P ρ φ h nx w) {o : Oper} {x : Operand} {ts : Array Nat} {t : Nat} (ho : o.op = .call ⟨.builtin .len, #[x], ts⟩) (hts : ts[0]? = some t) {k el : Nat} (hd : P.underlying t = some (.map k el))
    {lx : GoVm.Loc} (hx : locOf m e x = some lx) {v : V} (hv : qLnm lx stk slots h = some v) : Gives P ρ φ a o v w := by
  obtain ⟨u, h1, h2⟩ := ob_eq hv
  have hu := hE.lo hx h1
  obtain ⟨rfl, h3⟩ | ⟨b, rfl, h3⟩ := vMap_eq h2
  · cases h3
    simp only [VR] at hu
    refine ⟨Go.goInt 0, ?_, by simp only [VR]; rfl⟩
    rw [run_builtin ho]
    refine run_val ?_
    simp [Go.Builtin.len_, hts, run_underlying hd, hu]
  · obtain ⟨es, h4, h5⟩ := oMap_eq h3
    rw [mkI_eq] at h5; cases h5
    simp only [VR] at hu
    obtain ⟨q, hq, hu⟩ := hu
    obtain ⟨xs, h6, h7, _⟩ := r.at hq h4
    have hl := h7.len
    refine ⟨Go.goInt xs.size, ?_, ?_⟩
    · rw [run_builtin ho]
      refine run_val ?_
      simp [Go.Builtin.len_, hts, run_underlying hd, hu, Go.getObj, Sem.run, h6]
    · simp only [VR, Go.goInt]
      have : xs.size = es.length := by simpa using hl
      rw [this]; rfl

theorem keyKind_eq {k kd : Nat} (hk : keyKind P k = some kd) : ∃ d, P.underlying k = some d ∧
    ((kd = 0 ∧ ∃ i, d = .int i) ∨ (kd = 1 ∧ d = .string) ∨ (kd = 2 ∧ d = .bool) ∨ (kd = 3 ∧ ∃ el, d = .pointer el)) := by
  unfold keyKind at hk
  split at hk
  · rename_i i hd; cases hk; exact ⟨_, hd, .inl ⟨rfl, i, rfl⟩⟩
  · rename_i hd; cases hk; exact ⟨_, hd, .inr (.inl ⟨rfl, rfl⟩)⟩
  · rename_i hd; cases hk; exact ⟨_, hd, .inr (.inr (.inl ⟨rfl, rfl⟩))⟩
  · rename_i el hd; cases hk; exact ⟨_, hd, .inr (.inr (.inr ⟨rfl, el, rfl⟩))⟩
  · cases hk

theorem run_checkKey {k : Nat} {d : Go.TypeDesc} {kd : Nat} (hd : P.underlying k = some d) (hk : (kd = 0 ∧ ∃ i, d = .int i) ∨ (kd = 1 ∧ d = .string) ∨ (kd = 2 ∧ d = .bool) ∨ (kd = 3 ∧ ∃ el, d = .pointer el)) (em : Bool) (c : Value) (w : World) :
    (Go.Instr.checkKey em 10000 k c).run P w = .ok () w := by
  have key : ∀ n : Nat, (Go.Instr.checkKey em (n + 1) k c).run P w = .ok () w := by
    intro n
    rcases hk with ⟨_, i, rfl⟩ | ⟨_, rfl⟩ | ⟨_, rfl⟩ | ⟨_, el, rfl⟩ <;> simp [Go.Instr.checkKey, run_underlying hd]
  exact key 9999

theorem keyEq_sound {kd : Nat} {d : Go.TypeDesc} (hk : (kd = 0 ∧ ∃ i, d = .int i) ∨ (kd = 1 ∧ d = .string) ∨ (kd = 2 ∧ d = .bool) ∨ (kd = 3 ∧ ∃ el, d = .pointer el)) {x y : V} {b : Bool} (hh : keyEq kd x y = some b)
    {cx cy : Value} (hx : VR P ρ φ x cx) (hy : VR P ρ φ y cy) : Go.Instr.sameNow d cx cy = some b := by
  cases x <;> try (cases hh; done)
  case bool p =>
    have h1 := (cnd_some hh).1
    have h2 := (cnd_some hh).2
    obtain ⟨q, rfl, h3⟩ := vBool_eq h2
    cases h3
    have hkd : kd = 2 := by simpa using h1
    subst hkd
    rcases hk with ⟨h, _⟩ | ⟨h, _⟩ | ⟨_, rfl⟩ | ⟨h, _⟩ <;> try (exfalso; omega)
    simp only [VR] at hx hy; subst hx; subst hy
    cases p <;> cases q <;> rfl
  case int k n =>
    have h1 := (cnd_some hh).1
    have h2 := (cnd_some hh).2
    have hkd : kd = 0 := by simpa using h1
    subst hkd
    rcases hk with ⟨_, i, rfl⟩ | ⟨h, _⟩ | ⟨h, _⟩ | ⟨h, _⟩ <;> try (exfalso; omega)
    obtain ⟨l, n', rfl, h3⟩ | ⟨_, _, _, _, _, h3⟩ := vInt_eq h2
    · have h4 := beqK_eq.1 (cnd_some h3).1
      have h5 := (cnd_some h3).2
      subst h4
      cases h5
      simp only [VR] at hx hy; subst hx; subst hy
      simp only [Go.Instr.sameNow, if_true]
      rw [eqI_decide]; rfl
    · cases h3
  case str n i =>
    have h1 := (cnd_some hh).1
    have h2 := (cnd_some hh).2
    have hkd : kd = 1 := by simpa using h1
    subst hkd
    rcases hk with ⟨h, _⟩ | ⟨_, rfl⟩ | ⟨h, _⟩ | ⟨h, _⟩ <;> try (exfalso; omega)
    obtain ⟨l, j, rfl, h3⟩ := vStr_eq h2
    cases h3
    simp only [VR] at hx hy
    obtain ⟨s, rfl, hs⟩ := hx
    obtain ⟨u, rfl, hu⟩ := hy
    simp only [Go.Instr.sameNow]
    rw [eqStr_sound hs hu]
    congr 1
    rw [Go.beq_toListBytes, beq_toList]

theorem findV_sound {kd : Nat} {d : Go.TypeDesc} (hk : (kd = 0 ∧ ∃ i, d = .int i) ∨ (kd = 1 ∧ d = .string) ∨ (kd = 2 ∧ d = .bool) ∨ (kd = 3 ∧ ∃ el, d = .pointer el)) {k : V} {ck : Value} (hck : VR P ρ φ k ck) :
    ∀ {es : List (V × V)} {xs : List MapEntry} {res : Option V}, findV kd k es = some res → EntR P ρ φ es xs → ∀ i : Nat,
      (match res with
       | none => Go.Instr.findNow d ck xs i = some none
       | some v => ∃ j c, Go.Instr.findNow d ck xs i = some (some (j, c)) ∧ VR P ρ φ v c)
  | [], xs, res, hf, hx, i => by
    cases hf
    have : xs = [] := hx
    subst this; rfl
  | en :: es, xs, res, hf, hx, i => by
    obtain ⟨x, xs', rfl, h1, h2, h3⟩ := hx
    change ob (keyEq kd k en.1) (fun q => Bool.rec (findV kd k es) (some (some en.2)) q) = some res at hf
    obtain ⟨b, h4, h5⟩ := ob_eq hf
    have h6 := keyEq_sound hk h4 hck h1
    cases b with
    | true =>
      cases h5
      exact ⟨i, x.val, by simp only [Go.Instr.findNow, h6], h2⟩
    | false =>
      have := findV_sound hk hck h5 h3 (i + 1)
      simp only [Go.Instr.findNow, h6]
      exact this

theorem run_findKey {k : Nat} {d : Go.TypeDesc} (hd : P.underlying k = some d) {ck : Value} {xs : List MapEntry} {r : Option (Nat × Value)} (hf : Go.Instr.findNow d ck xs 0 = some r) (w : World) :
    (Go.Instr.findKey k ck xs).run P w = .ok r w := by
  simp [Go.Instr.findKey, run_underlying hd, hf]

theorem q_lk (hE : ER P ρ m e φ stk slots a) (r : Rel P ρ φ h nx w) {o : Oper} {t k el : Nat} {ok : Bool} {x i : Operand} (ho : o.op = .lookup t x i ok) (ht : P.underlying t = some (.map k el)) {kd : Nat} (hkd : keyKind P k = some kd)
    {z : V} (hz : zeroV P el = some z) {lx li : GoVm.Loc} (hx : locOf m e x = some lx) (hi : locOf m e i = some li) {v : V} (hv : qLk kd ok z lx li stk slots h = some v) : Gives P ρ φ a o v w := by
  obtain ⟨u, h1, h2⟩ := ob_eq hv
  obtain ⟨ky, h3, h4⟩ := ob_eq h2
  have hu := hE.lo hx h1
  have hky := hE.lo hi h3
  obtain ⟨d, hd, hkk⟩ := keyKind_eq hkd
  obtain ⟨zc, hz1, hz2⟩ := run_zeroValue (ρ := ρ) (φ := φ) hz w
  have hno : ∀ v', v' = lkNo ok z → VR P ρ φ v' (if ok then .tuple #[zc, .bool false] else zc) := by
    intro v' e
    subst e
    cases ok with
    | true => show VR P ρ φ (.tup [z, .bool false]) _; simp only [VR]; exact ⟨_, rfl, VRs.cons hz2 (VRs.cons (by simp [VR]) VRs.nil)⟩
    | false => exact hz2
  obtain ⟨rfl, h5⟩ | ⟨b, rfl, h5⟩ := vMap_eq h4
  · cases h5
    simp only [VR] at hu
    refine ⟨_, ?_, hno _ rfl⟩
    simp only [Go.execOp, ho]
    refine run_val ?_
    simp [Go.Instr.lookup, run_underlying ht, hu, run_checkKey hd hkk, run_findKey hd (xs := []) (ck := a.eval i) (r := none) rfl, hz1]
  · obtain ⟨es, h6, h7⟩ := oMap_eq h5
    obtain ⟨res, h8, h9⟩ := ob_eq h7
    simp only [VR] at hu
    obtain ⟨q, hq, hu⟩ := hu
    obtain ⟨xs, h10, h11, _⟩ := r.at hq h6
    have hf := findV_sound hkk hky h8 h11 0
    cases res with
    | none =>
      cases h9
      refine ⟨_, ?_, hno _ rfl⟩
      simp only [Go.execOp, ho]
      refine run_val ?_
      simp [Go.Instr.lookup, run_underlying ht, hu, Go.getObj, Sem.run, h10, run_checkKey hd hkk, run_findKey hd hf, hz1]
    | some v' =>
      cases h9
      obtain ⟨j, c, hf, hvc⟩ := hf
      refine ⟨if ok then .tuple #[c, .bool true] else c, ?_, ?_⟩
      · simp only [Go.execOp, ho]
        refine run_val ?_
        simp [Go.Instr.lookup, run_underlying ht, hu, Go.getObj, Sem.run, h10, run_checkKey hd hkk, run_findKey hd hf]
      · cases ok with
        | true => show VR P ρ φ (.tup [v', .bool true]) _; simp only [VR]; exact ⟨_, rfl, VRs.cons hvc (VRs.cons (by simp [VR]) VRs.nil)⟩
        | false => exact hvc

end GoVm

/- Operations of the virtual machine that read memory do what the model's operations do: the rest, and all of them in one theorem. -/
namespace GoVm
open Go (Value World Addr Obj MapEntry Program Operand Oper Op IntKind BinOp Sem Result run_underlying)

variable {P : Program} {ρ : Nat → Int} {φ : Phi} {m : SlotMap} {e : Env} {stk : List V} {slots : T V} {a : Go.Act} {h : T O} {nx : Pos} {w : World}

theorem bytesV_sound : ∀ (l : List V) (acc r : Nat), bytesV l acc = some r → ∀ (ds : List Value) (s : ByteArray), VRs P ρ φ l ds → numL s.data.toList = acc →
    ∃ ns : List Int, ds = ns.map (Value.int .u8) ∧ numL (ns.foldl (fun r n => r.push (UInt8.ofNat n.toNat)) s).data.toList = r ∧ (ns.foldl (fun r n => r.push (UInt8.ofNat n.toNat)) s).data.toList.length = s.data.toList.length + l.length
  | [], acc, r, hh, ds, s, hd, hs => by
    cases hh
    have : ds = [] := by simpa [VRs] using hd
    subst this
    exact ⟨[], rfl, hs, by simp⟩
  | v :: l, acc, r, hh, ds, s, hd, hs => by
    simp only [VRs] at hd
    obtain ⟨c, ds', rfl, hc, hd'⟩ := hd
    change vInt v (fun k n => cnd (beqK k .u8) (byte1 acc (bytesV l) n) none) (fun _ _ _ _ => none) = some r at hh
    obtain ⟨k, n, rfl, h2⟩ | ⟨_, _, _, _, _, h2⟩ := vInt_eq hh
    · have hk := beqK_eq.1 (cnd_some h2).1
      have h3 := (cnd_some h2).2
      clear h2 hh
      subst hk
      cases n with
      | negSucc n => cases h3
      | ofNat b =>
        change cnd (Nat.blt b 256) (forceN (Nat.add (Nat.mul acc 256) b) (bytesV l)) none = some r at h3
        have hb : b < 256 := Nat.le_of_ble_eq_true (cnd_some h3).1
        have h4 := (cnd_some h3).2
        rw [forceN_eq] at h4
        simp only [VR] at hc
        have hpush : (s.push (UInt8.ofNat b)).data.toList = s.data.toList ++ [UInt8.ofNat b] := by simp [ByteArray.push]
        have hnum : numL (s.push (UInt8.ofNat b)).data.toList = Nat.add (Nat.mul acc 256) b := by
          rw [hpush, numL_append, hs]
          show acc * 256 ^ 1 + numL [UInt8.ofNat b] = acc * 256 + b
          have : (UInt8.ofNat b).toNat = b := by simp; omega
          simp [numL, this]
        obtain ⟨ns, e1, e2, e3⟩ := bytesV_sound l _ r h4 ds' _ hd' hnum
        refine ⟨(b : Int) :: ns, ?_, ?_, ?_⟩
        · rw [hc, e1]; rfl
        · simpa using e2
        · simp only [List.foldl_cons, Int.toNat_natCast]
          rw [e3, hpush]; simp; omega
    · cases h2

theorem q_b2s (hE : ER P ρ m e φ stk slots a) (r : Rel P ρ φ h nx w) {o : Oper} {s d el : Nat} {x : Operand} (ho : o.op = .convert s d x) (hs : P.underlying s = some (.slice el)) (hel : P.underlying el = some (.int .u8)) (hd : P.underlying d = some .string)
    {lx : GoVm.Loc} (hx : locOf m e x = some lx) {v : V} (hv : qB2s lx stk slots h = some v) : Gives P ρ φ a o v w := by
  obtain ⟨u, h1, h2⟩ := ob_eq hv
  have hu := hE.lo hx h1
  obtain ⟨rfl, h3⟩ | ⟨b, k, n, c, rfl, h3⟩ := vSl_eq h2
  · cases h3
    simp only [VR] at hu
    refine ⟨.string .empty, ?_, by simp only [VR]; exact ⟨_, rfl, rfl, rfl⟩⟩
    simp only [Go.execOp, ho]
    refine run_val ?_
    rw [hu, Go.run_convert_bytes_string w s d el none 0 0 hs hel hd]
    rfl
  · obtain ⟨cs, u, wr, p, h4, h5⟩ := oCells_eq h3
    obtain ⟨l, h6, h7⟩ := ob_eq h5
    obtain ⟨acc, h8, h9⟩ := ob_eq h7
    cases h9
    simp only [VR] at hu
    obtain ⟨q, o', k', hq, hu, hnk, hkk, ho', _⟩ := hu
    obtain ⟨ds, h10, h11⟩ := cells_at (r.at hq h4)
    obtain ⟨e1, hle⟩ := getAt_eq' h6
    have hl : VRs P ρ φ l ((ds.drop k).take n) := by rw [e1]; exact ((h10.drop k).take n).1
    obtain ⟨ns, e2, e3, e4⟩ := bytesV_sound l 0 acc h8 _ ByteArray.empty hl rfl
    have hlen : l.length = n := by rw [e1]; simp; omega
    have hload : (Go.loadCells (⟨q.B, o', none⟩ : Addr) n).run P w = .ok (ns.map (Value.int .u8)).toArray w := by
      have hns : (ns.map (Value.int .u8)).length = n := by rw [← e2]; simp; have := h10.len; omega
      have := Go.run_loadCells_list (P := P) w (⟨q.B, o', none⟩ : Addr) (ns.map (Value.int .u8)) (fun j v hj => by
        rw [← e2, List.getElem?_take] at hj
        split at hj
        · rename_i hjn
          rw [List.getElem?_drop] at hj
          rw [addr_add, ho' (by omega), Nat.add_assoc]
          exact h11 _ _ hj
        · cases hj)
      rwa [hns] at this
    refine ⟨.string (ns.foldl (fun r n => r.push (UInt8.ofNat n.toNat)) ByteArray.empty), ?_, ?_⟩
    · simp only [Go.execOp, ho]
      refine run_val ?_
      rw [hu, Go.run_convert_bytes_string w s d el _ _ _ hs hel hd]
      exact Go.run_bytesToString w _ n k' ns hload
    · simp only [VR]
      exact ⟨_, rfl, by rw [e4, hlen]; show 0 + n = n; omega, e3⟩

theorem q_en (hE : ER P ρ m e φ stk slots a) (r : Rel P ρ φ h nx w) {o : Oper} {x : Operand} (ho : o.op = .entry x) {lx : GoVm.Loc} (hx : locOf m e x = some lx) {v : V} (hv : qEn lx stk slots h = some v) : Gives P ρ φ a o v w := by
  obtain ⟨u, h1, h2⟩ := ob_eq hv
  have hu := hE.lo hx h1
  obtain ⟨_, h3⟩ | ⟨b, k, rfl, h3⟩ := vPtr_eq h2
  · cases h3
  · have hk : k = 0 := by simpa using (cnd_some h3).1
    subst hk
    obtain ⟨mm, n, seen, h4, h5⟩ := oMiter_eq (cnd_some h3).2
    have hseen : seen = 1 := by simpa using (cnd_some h5).1
    subst hseen
    obtain ⟨mp, rfl, h6⟩ := ob_eq (cnd_some h5).2
    obtain ⟨es, h7, h8⟩ := oMap_eq h6
    simp only [VR] at hu
    obtain ⟨q, hq, hu⟩ := hu
    obtain ⟨hq0, qm, sn, last, h9, h10, h11⟩ := r.at hq h4
    rcases h11 with ⟨h11, _⟩ | ⟨_, hsn, hlast⟩
    · cases h11
    · subst hsn; subst hlast
      obtain ⟨xs, h12, h13, h14⟩ := r.at h9 h7
      cases es with
      | nil => cases h8
      | cons en es =>
        cases es with
        | cons _ _ => cases h8
        | nil =>
          cases h8
          obtain ⟨x1, xs', hxs, hk1, hv1, hnil⟩ := h13
          have : xs' = [] := hnil
          subst this
          obtain ⟨xl⟩ := xs
          simp only at hxs
          subst hxs
          have hborn : x1.born = 0 := h14 0 x1 rfl
          refine ⟨.tuple #[x1.key, x1.val], ?_, by simp only [VR]; exact ⟨_, rfl, VRs.cons hk1 (VRs.cons hv1 VRs.nil)⟩⟩
          simp only [Go.execOp, ho]
          refine run_val ?_
          rw [hu, hq0]
          simp [Go.Instr.entry, Go.getObj, Sem.run, h10, h12, hborn]

theorem q_cpq (hE : ER P ρ m e φ stk slots a) (r : Rel P ρ φ h nx w) {o : Oper} {op : BinOp} {neg : Bool} (hn : op = (if neg then .neq else .eql)) {t yt : Nat} {x y : Operand} (ho : o.op = .binOp op t x y yt)
    {el n : Nat} (ht : P.underlying t = some (.pointer el)) (hs : sizeV P el = some n) (h0 : n ≠ 0)
    {lx ly : GoVm.Loc} (hx : locOf m e x = some lx) (hy : locOf m e y = some ly) {v : V} (hv : qCpq neg lx ly stk slots h = some v) : Gives P ρ φ a o v w := by
  obtain ⟨u, h1, h2⟩ := ob_eq hv
  obtain ⟨u', h3, h4⟩ := ob_eq h2
  have hu := hE.lo hx h1
  have hu' := hE.lo hy h3
  have fin : ∀ (p q : Option Addr) (b : Bool), a.eval x = .pointer p → a.eval y = .pointer q → (∀ k, (Go.Op.equalIn (k + 1) t (.pointer p) (.pointer q)).run P w = .ok b w) → v = .bool (xorB neg b) → Gives P ρ φ a o v w := by
    intro p q b e1 e2 hk hv
    have hk' : (Go.Op.equal t (.pointer p) (.pointer q)).run P w = .ok b w := hk 9999
    subst hv
    refine g_bin (c := .bool (xorB neg b)) ho ?_ ?_ (by simp [VR])
    · rw [e1]; exact eqGuard_int op t x y (by simp) (by simp) w
    · rw [e1, e2, hn]
      cases neg
      · show (Go.binOp .eql t (.pointer p) (.pointer q)).run P w = _
        have : Go.binOp .eql t (.pointer p) (.pointer q) = (do pure (.bool (← Go.Op.equal t (.pointer p) (.pointer q)))) := rfl
        rw [this, Sem.run_bind, hk']; simp
      · show (Go.binOp .neq t (.pointer p) (.pointer q)).run P w = _
        have : Go.binOp .neq t (.pointer p) (.pointer q) = (do pure (.bool (!(← Go.Op.equal t (.pointer p) (.pointer q))))) := rfl
        rw [this, Sem.run_bind, hk']; simp
  obtain ⟨rfl, h5⟩ | ⟨b1, k1, rfl, h5⟩ := vPtr_eq h4
  · simp only [VR] at hu
    obtain ⟨rfl, h6⟩ | ⟨b2, k2, rfl, h6⟩ := vPtr_eq h5
    · simp only [VR] at hu'
      cases h6
      exact fin none none true hu hu' (fun k => by simp [Go.Op.equalIn, run_underlying ht]) (by cases neg <;> rfl)
    · simp only [VR] at hu'
      obtain ⟨q, _, hu'⟩ := hu'
      cases h6
      exact fin none _ false hu hu' (fun k => by simp [Go.Op.equalIn, run_underlying ht]) (by cases neg <;> rfl)
  · simp only [VR] at hu
    obtain ⟨q, hq, hu⟩ := hu
    obtain ⟨rfl, h6⟩ | ⟨b2, k2, rfl, h6⟩ := vPtr_eq h5
    · simp only [VR] at hu'
      cases h6
      exact fin _ none false hu hu' (fun k => by simp [Go.Op.equalIn, run_underlying ht]) (by cases neg <;> rfl)
    · simp only [VR] at hu'
      obtain ⟨q', hq', hu'⟩ := hu'
      cases hb : Pos.beq b1 b2 with
      | true =>
        have := Pos.beq_eq b1 b2 hb
        subst this
        rw [hq] at hq'; cases hq'
        rw [hb] at h6
        change mkB (xorB neg (Nat.beq k1 k2)) = some v at h6
        rw [mkB_eq] at h6; cases h6
        refine fin _ _ (Nat.beq k1 k2) hu hu' (fun k => ?_) rfl
        simp only [Go.Op.equalIn, Sem.run_bind, run_underlying ht, Result.andThen_ok, run_sizeOf hs, if_pos h0]
        have : (Go.sameAddr (⟨q.B, q.d + k1, none⟩ : Addr) ⟨q.B, q.d + k2, none⟩).run P w = .ok (Nat.beq k1 k2) w := by
          simp only [Go.sameAddr, beq_self_eq_true, if_true, Sem.run_pure]
          congr 1
          rw [Bool.eq_iff_iff]; simp
        simpa using this
      | false =>
        rw [hb] at h6
        change bothPlain h b1 b2 neg = some v at h6
        obtain ⟨cs1, t1, w1, p1, g1, h7⟩ := oCells_eq h6
        obtain ⟨cs2, t2, w2, p2, g2, h8⟩ := oCells_eq h7
        have hc := (cnd_some h8).1
        have h9 := (cnd_some h8).2
        cases h9
        simp only [andB_eq, Bool.and_eq_true] at hc
        obtain ⟨hw12, hp1, hp2⟩ := hc
        have o1 := r.at hq g1
        have o2 := r.at hq' g2
        have hne12 : b1 ≠ b2 := fun e => by subst e; rw [Pos.beq_self] at hb; cases hb
        have hBne : q.B ≠ q'.B := by
          intro he
          cases w1 with
          | true => exact hne12 (r.inj b1 b2 q q' _ _ hq hq' g1 g2 (by simp) (by simp) rfl he)
          | false =>
            have : w2 = true := hw12
            subst this
            exact hne12 (r.inj b2 b1 q' q _ _ hq' hq g2 g1 (by simp) (by simp) rfl he.symm).symm
        obtain ⟨_, c1, f1, e1, _, _, _, _, e2⟩ := o1
        obtain ⟨_, c2, f2, e3, _, _, _, _, e4⟩ := o2
        rw [e2 hp1] at e1
        rw [e4 hp2] at e3
        refine fin _ _ false hu hu' (fun k => ?_) (by cases neg <;> rfl)
        simp only [Go.Op.equalIn, Sem.run_bind, run_underlying ht, Result.andThen_ok, run_sizeOf hs, if_pos h0]
        have := Go.run_sameAddr_other (P := P) w (a := ⟨q.B, q.d + k1, none⟩) (b := ⟨q'.B, q'.d + k2, none⟩) (by intro e; injection e with e _ _; exact hBne e) e1 e3
        simpa using this

theorem q_sll (hE : ER P ρ m e φ stk slots a) (r : Rel P ρ φ h nx w) {o : Oper} {t el sz : Nat} {x : Operand} {lo hi : Option Operand} (ho : o.op = .slice t x lo hi none) (ht : P.underlying t = some (.slice el)) (hsz : sizeV P el = some sz)
    {lx : GoVm.Loc} {llo lhi : Option GoVm.Loc} (hx : locOf m e x = some lx) (hlo : optL m e lo = some llo) (hhi : optL m e hi = some lhi) {v : V} (hv : qSll el sz lx llo lhi stk slots h = some v) : Gives P ρ φ a o v w := by
  obtain ⟨u, h1, h2⟩ := ob_eq hv
  have hu := hE.lo hx h1
  obtain ⟨rfl, h3⟩ | ⟨b, k, n, c, rfl, h3⟩ := vSl_eq h2
  · obtain ⟨l, h4, h5⟩ := ob_eq h3
    obtain ⟨g, h6, h7⟩ := ob_eq h5
    have hc := (cnd_some h7).1
    have h8 := (cnd_some h7).2
    cases h8
    simp only [andB_eq, Bool.and_eq_true, Nat.beq_eq] at hc
    obtain ⟨rfl, rfl⟩ := hc
    simp only [VR] at hu
    refine ⟨.slice none 0 0, ?_, by simp [VR]⟩
    simp only [Go.execOp, ho]
    refine run_val ?_
    have b1 := bound_sound hE hlo h4
    have b2 := bound_sound hE hhi h6
    simp only [Go.Instr.sliceAt, Sem.run_bind, run_underlying ht, Result.andThen_ok, Go.Instr.slice, hu]
    simp [run_sliceBounds (P := P) (isS := true) (cap := 0) b1 b2 (Nat.le_refl 0) (Nat.le_refl 0) w, run_sizeOf hsz]
  · obtain ⟨_, hel, h3b⟩ := ob_eq h3
    obtain ⟨cs, u, wr, p, h9, h10⟩ := oCells_eq hel
    have hut : u = el := by simpa using (cnd_some h10).1
    subst hut
    obtain ⟨l, h4, h5⟩ := ob_eq h3b
    obtain ⟨g, h6, h7⟩ := ob_eq h5
    simp only [VR] at hu
    obtain ⟨q, o', k', hq, hu, hnk, hkk, ho', hcap⟩ := hu
    have hqt : u = q.t := (r.at hq h9).1
    have hcell : P.cellsOf q.t = sz := by rw [← hqt]; exact cellsOf_eq hsz
    have b1 := bound_sound hE hlo h4
    have b2 := bound_sound hE hhi h6
    have run : l ≤ g → g ≤ k' → (Go.execOp a.eval o).run P w = .ok (.value (.slice (if k' = l then some ⟨q.B, o', none⟩ else some ⟨q.B, o' + l * sz, none⟩) (g - l) (k' - l))) w := by
      intro e1 e2
      simp only [Go.execOp, ho]
      refine run_val ?_
      simp only [Go.Instr.sliceAt, Sem.run_bind, run_underlying ht, Result.andThen_ok, Go.Instr.slice, hu]
      simp [run_sliceBounds (P := P) (isS := true) (cap := k') b1 b2 e1 e2 w, run_sizeOf hsz, addr_add]
    change cnd (andB (Nat.ble l g) (andB (Nat.ble g c) (Nat.blt l c))) (mkSl b (Nat.add k (Nat.mul l sz)) (Nat.sub g l) (Nat.sub c l)) (cnd (andB (Nat.beq l c) (Nat.beq g l)) (some (.sl b k 0 0)) none) = some v at h7
    cases hc : andB (Nat.ble l g) (andB (Nat.ble g c) (Nat.blt l c)) with
    | true =>
      rw [hc, cnd_true, mkSl_eq] at h7
      cases h7
      simp only [andB_eq, Bool.and_eq_true, Nat.ble_eq] at hc
      have hlc : l < c := Nat.le_of_ble_eq_true hc.2.2
      refine ⟨_, run hc.1 (by omega), ?_⟩
      rw [if_neg (by omega)]
      simp only [VR]
      refine ⟨q, _, _, hq, rfl, ?_, ?_, ?_, ?_⟩
      · show g - l ≤ c - l; omega
      · show c - l ≤ k' - l; omega
      · intro _; rw [ho' (by omega)]; show q.d + k + l * sz = q.d + (k + l * sz); omega
      · rcases hcap with hcap | hcap
        · left; show k' - l = c - l; omega
        · right
          rw [hcell] at hcap ⊢
          have : l * sz + (k' - l) * sz = k' * sz := by rw [← Nat.add_mul]; congr 1; omega
          omega
    | false =>
      rw [hc, cnd_false] at h7
      have hc2 := (cnd_some h7).1
      have h8 := (cnd_some h7).2
      cases h8
      simp only [andB_eq, Bool.and_eq_true, Nat.beq_eq] at hc2
      obtain ⟨rfl, rfl⟩ := hc2
      refine ⟨_, run (Nat.le_refl _) (by omega), ?_⟩
      simp only [VR]
      by_cases hk : k' = g
      · subst hk
        rw [if_pos rfl]
        exact ⟨q, o', k' - k', hq, by rw [Nat.sub_self], by omega, by omega, fun h => by omega, .inl (by omega)⟩
      · rw [if_neg hk]
        refine ⟨q, o' + g * sz, k' - g, hq, by rw [Nat.sub_self], by omega, by omega, fun h => by omega, ?_⟩
        rcases hcap with hcap | hcap
        · exact absurd hcap hk
        · right
          rw [hcell] at hcap ⊢
          have : g * sz + (k' - g) * sz = k' * sz := by rw [← Nat.add_mul]; congr 1; omega
          omega

theorem opR_sound (hE : ER P ρ m e φ stk slots a) (r : Rel P ρ φ h nx w) {o : Oper} {ri : RI} (hh : opI P m e o.op = some (.R ri)) {v : V} (hv : evR ri stk slots h = some v) : Gives P ρ φ a o v w := by
  cases ho : o.op with
  | load t x =>
    rw [ho] at hh
    obtain ⟨ag, hag, hh⟩ := ob_bind hh
    obtain ⟨n, hn, hh⟩ := ob_bind hh
    obtain ⟨l, hl, hh⟩ := ob_bind hh
    cases hh
    exact q_ld hE r ho hag hn hl hv
  | lookup t x i ok =>
    rw [ho] at hh
    obtain ⟨d, hd, hh⟩ := ob_bind hh
    cases d <;> try (cases hh; done)
    obtain ⟨kd, hkd, hh⟩ := ob_bind hh
    obtain ⟨z, hz, hh⟩ := ob_bind hh
    obtain ⟨l, hl, hh⟩ := ob_bind hh
    obtain ⟨c, hc, hh⟩ := ob_bind hh
    cases hh
    exact q_lk hE r ho hd hkd hz hl hc hv
  | entry x => rw [ho] at hh; obtain ⟨l, hl, hh⟩ := ob_bind hh; cases hh; exact q_en hE r ho hl hv
  | convert s d x =>
    rw [ho] at hh
    obtain ⟨ds, hds, hh⟩ := ob_bind hh
    obtain ⟨dd, hdd, hh⟩ := ob_bind hh
    cases ds <;> cases dd <;> try (cases hh; done)
    case int.int => obtain ⟨l, hl, hh⟩ := ob_bind hh; cases hh
    case string.string => obtain ⟨l, hl, hh⟩ := ob_bind hh; cases hh
    case string.slice el =>
      obtain ⟨de, hde, hh⟩ := ob_bind hh
      cases de <;> try (cases hh; done)
      rename_i k; cases k <;> try (cases hh; done)
      obtain ⟨l, hl, hh⟩ := ob_bind hh; obtain ⟨_, _, hh⟩ := ob_bind hh; cases hh
    case slice.string el =>
      obtain ⟨de, hde, hh⟩ := ob_bind hh
      cases de <;> try (cases hh; done)
      rename_i k; cases k <;> try (cases hh; done)
      obtain ⟨l, hl, hh⟩ := ob_bind hh; cases hh
      exact q_b2s hE r ho hds hde hdd hl hv
  | slice t x lo hi mx =>
    rw [ho] at hh
    cases mx <;> try (cases hh; done)
    obtain ⟨llo, hlo, hh⟩ := ob_bind hh
    obtain ⟨lhi, hhi, hh⟩ := ob_bind hh
    obtain ⟨d, hd, hh⟩ := ob_bind hh
    cases d <;> try (cases hh; done)
    case string => obtain ⟨l, hl, hh⟩ := ob_bind hh; cases hh
    case slice el =>
      obtain ⟨n, hn, hh⟩ := ob_bind hh
      obtain ⟨l, hl, hh⟩ := ob_bind hh
      cases hh
      exact q_sll hE r ho hd hn hl hlo hhi hv
  | binOp op t x y yt =>
    rw [ho] at hh
    simp only [opI, binI, Option.bind_eq_bind, Option.bind_eq_some_iff] at hh
    obtain ⟨lx, hx, ly, hy, d, hd, hh⟩ := hh
    have nilNo : ∀ kd, nilI kd op x y lx ly = some (.R ri) → False := by
      intro kd hk
      unfold nilI at hk
      split at hk <;> (try (cases hk; done)) <;> (repeat' split at hk) <;> cases hk
    cases d with
    | pointer el =>
      simp only [Option.bind_eq_some_iff] at hh
      obtain ⟨n, hn, hh⟩ := hh
      split at hh
      · cases hh
      · rename_i hne
        split at hh
        · cases hh; exact q_cpq (neg := false) hE r rfl ho hd hn (by simpa using hne) hx hy hv
        · cases hh; exact q_cpq (neg := true) hE r rfl ho hd hn (by simpa using hne) hx hy hv
        · cases hh
    | int k => simp only at hh; split at hh <;> cases hh
    | string => simp only at hh; split at hh <;> cases hh
    | bool => simp only at hh; split at hh <;> cases hh
    | interface ms => exact (nilNo _ hh).elim
    | slice el => exact (nilNo _ hh).elim
    | map k el => exact (nilNo _ hh).elim
    | func ps rs vr => exact (nilNo _ hh).elim
    | _ => cases hh
  | call c =>
    rw [ho] at hh
    obtain ⟨callee, args, ts⟩ := c
    cases callee with
    | value f => cases f <;> simp only [opI, callI, Option.bind_eq_bind, Option.bind_eq_some_iff, Option.pure_def, Option.some.injEq, reduceCtorEq, and_false, exists_false] at hh
    | invoke rr n => simp only [opI, callI, Option.bind_eq_bind, Option.bind_eq_some_iff, Option.pure_def, Option.some.injEq, reduceCtorEq, and_false, exists_false] at hh
    | builtin b =>
      simp only [opI, callI, Option.bind_eq_bind, Option.bind_eq_some_iff] at hh
      obtain ⟨as, has, hh⟩ := hh
      split at hh
      · rename_i x
        obtain ⟨xs, rfl, hx⟩ := locsOf_one has
        simp only [Option.bind_eq_some_iff] at hh
        obtain ⟨d, ⟨t, ht, hd⟩, hh⟩ := hh
        cases d <;> simp only [Option.pure_def, Option.some.injEq, reduceCtorEq] at hh
        case map k el =>
          cases hh
          exact q_lnm hE r ho ht hd hx hv
      · simp only [Option.bind_eq_some_iff] at hh
        obtain ⟨d, ⟨t, ht, hd⟩, hh⟩ := hh
        cases d <;> try (cases hh; done)
        simp only [Option.bind_eq_some_iff] at hh
        obtain ⟨n, _, bb, _, z, _, d2, ⟨t2, ht2, hd2⟩, hh⟩ := hh
        cases d2 <;> (try (cases hh; done)) <;> (simp only at hh; split at hh <;> cases hh)
      · simp only [Option.bind_eq_some_iff] at hh
        obtain ⟨d, ⟨t, ht, hd⟩, hh⟩ := hh
        cases d <;> cases hh
      · simp only [Option.bind_eq_some_iff] at hh
        obtain ⟨d, ⟨t, ht, hd⟩, hh⟩ := hh
        cases d <;> cases hh
      · cases hh
  | move x => rw [ho] at hh; obtain ⟨l, hl, hh⟩ := ob_bind hh; cases hh
  | assign x => rw [ho] at hh; obtain ⟨l, hl, hh⟩ := ob_bind hh; cases hh
  | pick c x y =>
    rw [ho] at hh
    obtain ⟨lc, hc, hh⟩ := ob_bind hh
    obtain ⟨lx, hx, hh⟩ := ob_bind hh
    obtain ⟨ly, hy, hh⟩ := ob_bind hh
    cases hh
  | build t ps =>
    rw [ho] at hh
    obtain ⟨z, hz, hh⟩ := ob_bind hh
    obtain ⟨d, hd, hh⟩ := ob_bind hh
    cases d <;> try (cases hh; done)
    case struct fs =>
      simp only at hh
      split at hh
      · cases hh
      · obtain ⟨ls, hls, hh⟩ := ob_bind hh
        cases hh
    case array n el =>
      obtain ⟨s, hs, hh⟩ := ob_bind hh
      obtain ⟨ls, hls, hh⟩ := ob_bind hh
      cases hh
  | nilCheck x => rw [ho] at hh; obtain ⟨l, hl, hh⟩ := ob_bind hh; cases hh
  | unOp op t x =>
    rw [ho] at hh
    cases op with
    | not => obtain ⟨l, hl, hh⟩ := ob_bind hh; cases hh
    | neg =>
      obtain ⟨d, hd, hh⟩ := ob_bind hh
      cases d <;> try (cases hh; done)
      obtain ⟨l, hl, hh⟩ := ob_bind hh; cases hh
    | _ => cases hh
  | makeInterface t x =>
    rw [ho] at hh
    obtain ⟨d, hd, hh⟩ := ob_bind hh
    cases d <;> first
      | (cases hh; done)
      | (obtain ⟨l, hl, hh⟩ := ob_bind hh; cases hh)
  | typeAssert x xt t ok =>
    rw [ho] at hh
    obtain ⟨d, hd, hh⟩ := ob_bind hh
    cases d <;> first
      | (cases hh; done)
      | (obtain ⟨z, hz, hh⟩ := ob_bind hh; obtain ⟨l, hl, hh⟩ := ob_bind hh; cases hh)
  | makeFunc f x y =>
    rw [ho] at hh
    cases f <;> try (cases hh; done)
    obtain ⟨lx, hx, hh⟩ := ob_bind hh
    obtain ⟨ly, hy, hh⟩ := ob_bind hh
    cases hh
  | fieldAddr t x f =>
    rw [ho] at hh
    obtain ⟨fd, hfd, hh⟩ := ob_bind hh
    obtain ⟨n, hn, hh⟩ := ob_bind hh
    split at hh
    · cases hh
    · obtain ⟨l, hl, hh⟩ := ob_bind hh
      cases hh
  | field t x f =>
    rw [ho] at hh
    obtain ⟨fd, hfd, hh⟩ := ob_bind hh
    obtain ⟨ag, hag, hh⟩ := ob_bind hh
    obtain ⟨n, hn, hh⟩ := ob_bind hh
    obtain ⟨l, hl, hh⟩ := ob_bind hh
    cases hh
  | indexAddr t x i =>
    rw [ho] at hh
    obtain ⟨d, hd, hh⟩ := ob_bind hh
    cases d <;> try (cases hh; done)
    all_goals
      obtain ⟨n, hn, hh⟩ := ob_bind hh
      obtain ⟨lx, hx, hh⟩ := ob_bind hh
      obtain ⟨li, hi, hh⟩ := ob_bind hh
      cases hh
  | index t x i =>
    rw [ho] at hh
    obtain ⟨d, hd, hh⟩ := ob_bind hh
    cases d <;> try (cases hh; done)
    case string =>
      obtain ⟨lx, hx, hh⟩ := ob_bind hh
      obtain ⟨li, hi, hh⟩ := ob_bind hh
      cases hh
    case array n el =>
      obtain ⟨ag, hag, hh⟩ := ob_bind hh
      obtain ⟨s, hs, hh⟩ := ob_bind hh
      split at hh
      · cases hh
      · obtain ⟨lx, hx, hh⟩ := ob_bind hh
        obtain ⟨li, hi, hh⟩ := ob_bind hh
        cases hh
  | extract x i => rw [ho] at hh; obtain ⟨l, hl, hh⟩ := ob_bind hh; cases hh
  | alloc t => rw [ho] at hh; obtain ⟨z, _, hh⟩ := ob_bind hh; cases hh
  | box t x => rw [ho] at hh; obtain ⟨z, _, hh⟩ := ob_bind hh; cases hh
  | buildSlice t n ps =>
    rw [ho] at hh
    obtain ⟨d, hd, hh⟩ := ob_bind hh
    cases d <;> try (cases hh; done)
    obtain ⟨s, hs, hh⟩ := ob_bind hh
    split at hh
    · cases hh
    · obtain ⟨z, _, hh⟩ := ob_bind hh
      obtain ⟨ls, _, hh⟩ := ob_bind hh
      cases hh
  | store t x y =>
    rw [ho] at hh
    obtain ⟨ag, _, hh⟩ := ob_bind hh
    obtain ⟨n, _, hh⟩ := ob_bind hh
    obtain ⟨l, _, hh⟩ := ob_bind hh
    cases hh
  | makeMap t r => rw [ho] at hh; cases r <;> cases hh
  | makeSlice t x y =>
    rw [ho] at hh
    obtain ⟨d, hd, hh⟩ := ob_bind hh
    cases d <;> try (cases hh; done)
    obtain ⟨b, _, hh⟩ := ob_bind hh
    split at hh
    · cases hh
    · obtain ⟨z, _, hh⟩ := ob_bind hh
      split at hh
      · cases hh
      · obtain ⟨s, _, hh⟩ := ob_bind hh
        obtain ⟨l, _, hh⟩ := ob_bind hh
        obtain ⟨c, _, hh⟩ := ob_bind hh
        cases hh
  | mapUpdate t x i y =>
    rw [ho] at hh
    obtain ⟨d, hd, hh⟩ := ob_bind hh
    cases d <;> try (cases hh; done)
    obtain ⟨b, _, hh⟩ := ob_bind hh
    obtain ⟨z, _, hh⟩ := ob_bind hh
    obtain ⟨l, _, hh⟩ := ob_bind hh
    obtain ⟨c, _, hh⟩ := ob_bind hh
    cases hh
  | range t x =>
    rw [ho] at hh
    obtain ⟨d, hd, hh⟩ := ob_bind hh
    cases d <;> first
      | (cases hh; done)
      | (obtain ⟨b, _, hh⟩ := ob_bind hh; cases hh)
  | next x b => rw [ho] at hh; cases b <;> (obtain ⟨l, _, hh⟩ := ob_bind hh; cases hh)
  | _ => rw [ho] at hh; cases hh

end GoVm

/- Operations of the virtual machine that make memory out of values do what the model's operations do. -/
namespace GoVm
open Go (Value World Addr Obj MapEntry Program Operand Oper Op IntKind BinOp Sem Result run_underlying)

variable {P : Program} {ρ : Nat → Int} {φ : Phi} {m : SlotMap} {e : Env} {stk : List V} {slots : T V} {a : Go.Act} {h : T O} {nx : Pos} {w : World}

theorem zerosV_len (z : List V) : ∀ n, (zerosV n z).length = n * z.length
  | 0 => by simp [zerosV]
  | n + 1 => by simp [zerosV, zerosV_len z n, Nat.add_mul]; omega

theorem replV_eq (z : List V) : ∀ n, replV n z = zerosV n z
  | 0 => rfl
  | n + 1 => by
    have : replV (n + 1) z = z ++ replV n z := rfl
    rw [this, replV_eq z n]; rfl

theorem zerosV_get (z : List V) (hz : z ≠ []) : ∀ n i, i < n * z.length → (zerosV n z)[i]? = z[i % z.length]?
  | 0, i, h => by simp at h
  | n + 1, i, h => by
    have hp : 0 < z.length := List.length_pos_iff.2 hz
    simp only [zerosV, List.getElem?_append]
    split
    · rename_i hi; rw [Nat.mod_eq_of_lt hi]
    · rename_i hi
      rw [zerosV_get z hz n (i - z.length) (by rw [Nat.add_mul] at h; omega)]
      rw [← Nat.mod_eq_sub_mod (by omega)]

theorem zeros_sound {z : List V} {zc : Array Value} (h : VRc P ρ φ z zc.toList) (n : Nat) : VRc P ρ φ (zerosV n z) (Go.madeCells zc (n * z.length)).toList := by
  have hl : zc.size = z.length := by simpa using h.len
  by_cases hz : z = []
  · subst hz
    have : zerosV n [] = [] := by
      have := zerosV_len [] n
      simpa using this
    rw [this]; simp [Go.madeCells]; exact VRc.nil
  · have hp : 0 < z.length := List.length_pos_iff.2 hz
    have key : ∀ i, i < n * z.length → (Go.madeCells zc (n * z.length)).toList[i]? = zc.toList[i % z.length]? := by
      intro i hi
      have h1 : i % z.length < zc.size := by rw [hl]; exact Nat.mod_lt _ hp
      simp only [Go.madeCells, Array.toList_map, List.getElem?_map, Array.toList_range]
      rw [List.getElem?_range hi]
      simp [hl, Nat.mod_lt _ hp]
    constructor
    · refine VRs.of_get (by rw [zerosV_len]; simp [Go.madeCells]) (fun i v hv => ?_)
      have hi : i < n * z.length := by
        rw [← zerosV_len z n]
        exact (List.getElem?_eq_some_iff.1 hv).1
      rw [zerosV_get z hz n i hi] at hv
      obtain ⟨c, h1, h2⟩ := h.1.get _ v hv
      exact ⟨c, by rw [key i hi]; exact h1, h2⟩
    · intro y hy
      obtain ⟨i, hi, e⟩ := List.getElem_of_mem hy
      have hi' : i < n * z.length := by simpa [Go.madeCells] using hi
      have := key i hi'
      rw [List.getElem?_eq_getElem hi, e] at this
      exact h.2 y (List.mem_of_getElem? this.symm)

/-- What an operation that makes memory gives: a fresh row of cells. -/
def Makes (P : Program) (ρ : Nat → Int) (φ : Phi) (a : Go.Act) (o : Oper) (p : Pos) (v : V) (ob : O) (w : World) : Prop :=
  ∃ c vs cs t, (Go.execOp a.eval o).run P w = .ok (.value c) (w.alloc (.cells cs t)) ∧ ob = .cells vs t true true ∧ VRc P ρ φ vs cs.toList ∧
    ∀ φ' : Phi, φ' p = some ⟨w.heap.size, 0, cs.size, t⟩ → VR P ρ φ' v c

theorem Makes.obj {φ φ' : Phi} (hφ : PhiLe φ φ') {vs : List V} {cs : Array Value} {t B : Nat} (hv : VRc P ρ φ vs cs.toList) {w' : World} (hw : w'.heap[B]? = some (.cells cs t (0, 0))) :
    ObjR P ρ φ' w' ⟨B, 0, cs.size, t⟩ (.cells vs t true true) := by
  have hl : cs.size = vs.length := by simpa using hv.len
  refine ⟨rfl, cs, (0, 0), hw, rfl, ?_, by simp [hl], fun _ => .inl (Nat.le_refl _), fun _ => rfl⟩
  have : (List.take vs.length (List.drop 0 cs.toList)) = cs.toList := by rw [List.drop_zero, ← hl, ← Array.length_toList, List.take_length]
  rw [this]; exact hv.mono hφ

theorem f_al {o : Oper} {t : Nat} (ho : o.op = .alloc t) {z : List V} (hz : zeroC P t = some z) (p : Pos) : Makes P ρ φ a o p (.ptr p 0) (.cells z t true true) w := by
  obtain ⟨c, h1, h2, _⟩ := zeroC_sound (ρ := ρ) (φ := φ) hz w
  refine ⟨.pointer (some ⟨w.heap.size, 0, none⟩), z, c.cells, t, ?_, rfl, h2, fun φ' hp => ?_⟩
  · simp only [Go.execOp, ho]
    refine run_val ?_
    simp [Go.Instr.alloc, h1, Go.newVar, Go.newRow]
  · simp only [VR]; exact ⟨_, hp, rfl⟩

theorem f_bx (hE : ER P ρ m e φ stk slots a) {o : Oper} {t : Nat} {x : Operand} (ho : o.op = .box t x) {lx : GoVm.Loc} (hx : locOf m e x = some lx) (p : Pos) {v : V} {ob : O}
    (hv : fBx t lx stk slots p = some (v, ob)) : Makes P ρ φ a o p v ob w := by
  obtain ⟨u, h1, h2⟩ := ob_eq hv
  obtain ⟨l, h3, h4⟩ := ob_eq h2
  cases h4
  have hu := hE.lo hx h1
  refine ⟨.pointer (some ⟨w.heap.size, 0, none⟩), l, (a.eval x).cells, t, ?_, rfl, hu.cells h3, fun φ' hp => ?_⟩
  · simp only [Go.execOp, ho]
    refine run_val ?_
    simp [Go.Instr.box, Go.newVar, Go.newRow]
  · simp only [VR]; exact ⟨_, hp, rfl⟩

theorem f_bsl (hE : ER P ρ m e φ stk slots a) {o : Oper} {t n el s : Nat} {ps : Array (Nat × Operand)} (ho : o.op = .buildSlice t n ps) (ht : P.underlying t = some (.slice el))
    (hs : sizeV P el = some s) (hsm : n * s ≤ 4096) {z : List V} (hz : (if n * s = 0 then some [] else zeroC P el) = some z) {ls : List (Nat × Nat × GoVm.Loc)}
    (hp : partsOf m e (placeA s) ps = some ls) (p : Pos) {v : V} {ob : O} (h : fBsl el s n (zerosV n z) ls stk slots p = some (v, ob)) : Makes P ρ φ a o p v ob w := by
  obtain ⟨cs, h1, h2⟩ := ob_eq h
  cases h2
  have hz' : ∃ zc : Array Value, (if n * s = 0 then (pure #[] : Sem (Array Value)) else do pure (← Go.zeroValue el).cells).run P w = .ok zc w ∧ VRc P ρ φ (zerosV n z) (Go.madeCells zc (n * s)).toList := by
    by_cases h0 : n * s = 0
    · rw [if_pos h0] at hz; cases hz
      refine ⟨#[], by rw [if_pos h0]; rfl, ?_⟩
      have : zerosV n [] = [] := by have := zerosV_len [] n; simpa using this
      rw [this, h0]; simp [Go.madeCells]; exact VRc.nil
    · rw [if_neg h0] at hz
      obtain ⟨c, h3, h4, h5⟩ := zeroC_sound (ρ := ρ) (φ := φ) hz w
      refine ⟨c.cells, by rw [if_neg h0]; simp [h3], ?_⟩
      rw [hs] at h5; cases h5
      exact zeros_sound h4 n
  obtain ⟨zc, hz1, hz2⟩ := hz'
  obtain ⟨out, h3, h4⟩ := fill_sound hE (place := placeA s) ps.toList hp h1 hz2
  replace h3 : Go.Instr.fill (fun i => some (i * s, s)) (Go.madeCells zc (n * s)) (ps.toList.map fun p => (p.1, a.eval p.2)) = some out := h3
  refine ⟨.slice (some ⟨w.heap.size, 0, none⟩) n n, cs, out, el, ?_, rfl, h4, fun φ' hp => ?_⟩
  · simp only [Go.execOp, ho]
    refine run_val ?_
    have hno : ¬ (n * s > 2 ^ 24) := by omega
    have e1 : ((ps.map fun (p : Nat × Operand) => (p.1, a.eval p.2)).toList) = ps.toList.map fun p => (p.1, a.eval p.2) := by simp
    unfold Go.Instr.buildSlice
    simp only [Sem.run_bind, run_underlying ht, Result.andThen_ok, run_sizeOf hs]
    rw [if_neg hno]
    simp only [Go.madeCells] at h3
    by_cases h0 : n * s = 0
    · rw [if_pos h0] at hz1 ⊢
      simp only [Sem.run_pure, Result.ok.injEq, and_true] at hz1
      subst hz1
      simp only [pure_bind, e1, h3]
      simp [Go.newRow]
    · rw [if_neg h0] at hz1 ⊢
      simp only [Sem.run_bind] at hz1
      simp only [Sem.run_bind, e1]
      cases hh : (Go.zeroValue el).run P w with
      | halt hl w1 => rw [hh] at hz1; cases hz1
      | ok c w1 =>
        rw [hh] at hz1
        simp only [Result.andThen_ok, Sem.run_pure, Result.ok.injEq] at hz1
        obtain ⟨rfl, rfl⟩ := hz1
        simp only [Result.andThen_ok, Sem.run_pure, h3]
        simp [Go.newRow]
  · simp only [VR]
    exact ⟨_, 0, n, hp, rfl, Nat.le_refl _, Nat.le_refl _, fun _ => rfl, .inl rfl⟩

theorem opF_sound (hE : ER P ρ m e φ stk slots a) {o : Oper} {fi : FI} (hh : opI P m e o.op = some (.F fi)) (p : Pos) {v : V} {ob : O} (hv : evF fi stk slots p = some (v, ob)) : Makes P ρ φ a o p v ob w := by
  cases ho : o.op with
  | alloc t =>
    rw [ho] at hh
    obtain ⟨z, hz, hh⟩ := ob_bind hh
    cases hh
    cases hv
    exact f_al ho hz p
  | box t x =>
    rw [ho] at hh
    obtain ⟨l, hl, hh⟩ := ob_bind hh
    cases hh
    exact f_bx hE ho hl p hv
  | buildSlice t n ps =>
    rw [ho] at hh
    obtain ⟨d, hd, hh⟩ := ob_bind hh
    cases d <;> try (cases hh; done)
    obtain ⟨s, hs, hh⟩ := ob_bind hh
    split at hh
    · cases hh
    · rename_i hsm
      obtain ⟨z, hz, hh⟩ := ob_bind hh
      obtain ⟨ls, hls, hh⟩ := ob_bind hh
      cases hh
      exact f_bsl hE ho hd hs (by omega) hz hls p hv
  | load t x =>
    rw [ho] at hh
    obtain ⟨ag, hag, hh⟩ := ob_bind hh
    obtain ⟨n, hn, hh⟩ := ob_bind hh
    obtain ⟨l, hl, hh⟩ := ob_bind hh
    cases hh
  | lookup t x i ok =>
    rw [ho] at hh
    obtain ⟨d, hd, hh⟩ := ob_bind hh
    cases d <;> try (cases hh; done)
    obtain ⟨kd, hkd, hh⟩ := ob_bind hh
    obtain ⟨z, hz, hh⟩ := ob_bind hh
    obtain ⟨l, hl, hh⟩ := ob_bind hh
    obtain ⟨c, hc, hh⟩ := ob_bind hh
    cases hh
  | entry x => rw [ho] at hh; obtain ⟨l, hl, hh⟩ := ob_bind hh; cases hh
  | convert s d x =>
    rw [ho] at hh
    obtain ⟨ds, hds, hh⟩ := ob_bind hh
    obtain ⟨dd, hdd, hh⟩ := ob_bind hh
    cases ds <;> cases dd <;> try (cases hh; done)
    case int.int => obtain ⟨l, hl, hh⟩ := ob_bind hh; cases hh
    case string.string => obtain ⟨l, hl, hh⟩ := ob_bind hh; cases hh
    case string.slice el =>
      obtain ⟨de, hde, hh⟩ := ob_bind hh
      cases de <;> try (cases hh; done)
      rename_i k; cases k <;> try (cases hh; done)
      obtain ⟨l, hl, hh⟩ := ob_bind hh; obtain ⟨_, _, hh⟩ := ob_bind hh; cases hh
    case slice.string el =>
      obtain ⟨de, hde, hh⟩ := ob_bind hh
      cases de <;> try (cases hh; done)
      rename_i k; cases k <;> try (cases hh; done)
      obtain ⟨l, hl, hh⟩ := ob_bind hh; cases hh
  | slice t x lo hi mx =>
    rw [ho] at hh
    cases mx <;> try (cases hh; done)
    obtain ⟨llo, hlo, hh⟩ := ob_bind hh
    obtain ⟨lhi, hhi, hh⟩ := ob_bind hh
    obtain ⟨d, hd, hh⟩ := ob_bind hh
    cases d <;> try (cases hh; done)
    case string => obtain ⟨l, hl, hh⟩ := ob_bind hh; cases hh
    case slice el =>
      obtain ⟨n, hn, hh⟩ := ob_bind hh
      obtain ⟨l, hl, hh⟩ := ob_bind hh
      cases hh
  | binOp op t x y yt =>
    rw [ho] at hh
    simp only [opI, binI, Option.bind_eq_bind, Option.bind_eq_some_iff] at hh
    obtain ⟨lx, hx, ly, hy, d, hd, hh⟩ := hh
    have nilNo : ∀ kd, nilI kd op x y lx ly = some (.F fi) → False := by
      intro kd hk
      unfold nilI at hk
      split at hk <;> (try (cases hk; done)) <;> (repeat' split at hk) <;> cases hk
    cases d with
    | pointer el =>
      simp only [Option.bind_eq_some_iff] at hh
      obtain ⟨n, hn, hh⟩ := hh
      split at hh
      · cases hh
      · split at hh <;> cases hh
    | int k => simp only at hh; split at hh <;> cases hh
    | string => simp only at hh; split at hh <;> cases hh
    | bool => simp only at hh; split at hh <;> cases hh
    | interface ms => exact (nilNo _ hh).elim
    | slice el => exact (nilNo _ hh).elim
    | map k el => exact (nilNo _ hh).elim
    | func ps rs vr => exact (nilNo _ hh).elim
    | _ => cases hh
  | call c =>
    rw [ho] at hh
    obtain ⟨callee, args, ts⟩ := c
    cases callee with
    | value f => cases f <;> simp only [opI, callI, Option.bind_eq_bind, Option.bind_eq_some_iff, Option.pure_def, Option.some.injEq, reduceCtorEq, and_false, exists_false] at hh
    | invoke rr n => simp only [opI, callI, Option.bind_eq_bind, Option.bind_eq_some_iff, Option.pure_def, Option.some.injEq, reduceCtorEq, and_false, exists_false] at hh
    | builtin b =>
      simp only [opI, callI, Option.bind_eq_bind, Option.bind_eq_some_iff] at hh
      obtain ⟨as, has, hh⟩ := hh
      split at hh
      · simp only [Option.bind_eq_some_iff] at hh
        obtain ⟨d, ⟨t, ht, hd⟩, hh⟩ := hh
        cases d <;> simp only [Option.pure_def, Option.some.injEq, reduceCtorEq] at hh
      · simp only [Option.bind_eq_some_iff] at hh
        obtain ⟨d, ⟨t, ht, hd⟩, hh⟩ := hh
        cases d <;> try (cases hh; done)
        simp only [Option.bind_eq_some_iff] at hh
        obtain ⟨n, _, bb, _, z, _, d2, ⟨t2, ht2, hd2⟩, hh⟩ := hh
        cases d2 <;> (try (cases hh; done)) <;> (simp only at hh; split at hh <;> cases hh)
      · simp only [Option.bind_eq_some_iff] at hh
        obtain ⟨d, ⟨t, ht, hd⟩, hh⟩ := hh
        cases d <;> cases hh
      · simp only [Option.bind_eq_some_iff] at hh
        obtain ⟨d, ⟨t, ht, hd⟩, hh⟩ := hh
        cases d <;> cases hh
      · cases hh
  | move x => rw [ho] at hh; obtain ⟨l, hl, hh⟩ := ob_bind hh; cases hh
  | assign x => rw [ho] at hh; obtain ⟨l, hl, hh⟩ := ob_bind hh; cases hh
  | pick c x y =>
    rw [ho] at hh
    obtain ⟨lc, hc, hh⟩ := ob_bind hh
    obtain ⟨lx, hx, hh⟩ := ob_bind hh
    obtain ⟨ly, hy, hh⟩ := ob_bind hh
    cases hh
  | build t ps =>
    rw [ho] at hh
    obtain ⟨z, hz, hh⟩ := ob_bind hh
    obtain ⟨d, hd, hh⟩ := ob_bind hh
    cases d <;> try (cases hh; done)
    case struct fs =>
      simp only at hh
      split at hh
      · cases hh
      · obtain ⟨ls, hls, hh⟩ := ob_bind hh
        cases hh
    case array n el =>
      obtain ⟨s, hs, hh⟩ := ob_bind hh
      obtain ⟨ls, hls, hh⟩ := ob_bind hh
      cases hh
  | nilCheck x => rw [ho] at hh; obtain ⟨l, hl, hh⟩ := ob_bind hh; cases hh
  | unOp op t x =>
    rw [ho] at hh
    cases op with
    | not => obtain ⟨l, hl, hh⟩ := ob_bind hh; cases hh
    | neg =>
      obtain ⟨d, hd, hh⟩ := ob_bind hh
      cases d <;> try (cases hh; done)
      obtain ⟨l, hl, hh⟩ := ob_bind hh; cases hh
    | _ => cases hh
  | makeInterface t x =>
    rw [ho] at hh
    obtain ⟨d, hd, hh⟩ := ob_bind hh
    cases d <;> first
      | (cases hh; done)
      | (obtain ⟨l, hl, hh⟩ := ob_bind hh; cases hh)
  | typeAssert x xt t ok =>
    rw [ho] at hh
    obtain ⟨d, hd, hh⟩ := ob_bind hh
    cases d <;> first
      | (cases hh; done)
      | (obtain ⟨z, hz, hh⟩ := ob_bind hh; obtain ⟨l, hl, hh⟩ := ob_bind hh; cases hh)
  | makeFunc f x y =>
    rw [ho] at hh
    cases f <;> try (cases hh; done)
    obtain ⟨lx, hx, hh⟩ := ob_bind hh
    obtain ⟨ly, hy, hh⟩ := ob_bind hh
    cases hh
  | fieldAddr t x f =>
    rw [ho] at hh
    obtain ⟨fd, hfd, hh⟩ := ob_bind hh
    obtain ⟨n, hn, hh⟩ := ob_bind hh
    split at hh
    · cases hh
    · obtain ⟨l, hl, hh⟩ := ob_bind hh
      cases hh
  | field t x f =>
    rw [ho] at hh
    obtain ⟨fd, hfd, hh⟩ := ob_bind hh
    obtain ⟨ag, hag, hh⟩ := ob_bind hh
    obtain ⟨n, hn, hh⟩ := ob_bind hh
    obtain ⟨l, hl, hh⟩ := ob_bind hh
    cases hh
  | indexAddr t x i =>
    rw [ho] at hh
    obtain ⟨d, hd, hh⟩ := ob_bind hh
    cases d <;> try (cases hh; done)
    all_goals
      obtain ⟨n, hn, hh⟩ := ob_bind hh
      obtain ⟨lx, hx, hh⟩ := ob_bind hh
      obtain ⟨li, hi, hh⟩ := ob_bind hh
      cases hh
  | index t x i =>
    rw [ho] at hh
    obtain ⟨d, hd, hh⟩ := ob_bind hh
    cases d <;> try (cases hh; done)
    case string =>
      obtain ⟨lx, hx, hh⟩ := ob_bind hh
      obtain ⟨li, hi, hh⟩ := ob_bind hh
      cases hh
    case array n el =>
      obtain ⟨ag, hag, hh⟩ := ob_bind hh
      obtain ⟨s, hs, hh⟩ := ob_bind hh
      split at hh
      · cases hh
      · obtain ⟨lx, hx, hh⟩ := ob_bind hh
        obtain ⟨li, hi, hh⟩ := ob_bind hh
        cases hh
  | extract x i => rw [ho] at hh; obtain ⟨l, hl, hh⟩ := ob_bind hh; cases hh
  | store t x y =>
    rw [ho] at hh
    obtain ⟨ag, _, hh⟩ := ob_bind hh
    obtain ⟨n, _, hh⟩ := ob_bind hh
    obtain ⟨l, _, hh⟩ := ob_bind hh
    cases hh
  | makeMap t r => rw [ho] at hh; cases r <;> cases hh
  | makeSlice t x y =>
    rw [ho] at hh
    obtain ⟨d, hd, hh⟩ := ob_bind hh
    cases d <;> try (cases hh; done)
    obtain ⟨b, _, hh⟩ := ob_bind hh
    split at hh
    · cases hh
    · obtain ⟨z, _, hh⟩ := ob_bind hh
      split at hh
      · cases hh
      · obtain ⟨s, _, hh⟩ := ob_bind hh
        obtain ⟨l, _, hh⟩ := ob_bind hh
        obtain ⟨c, _, hh⟩ := ob_bind hh
        cases hh
  | mapUpdate t x i y =>
    rw [ho] at hh
    obtain ⟨d, hd, hh⟩ := ob_bind hh
    cases d <;> try (cases hh; done)
    obtain ⟨b, _, hh⟩ := ob_bind hh
    obtain ⟨z, _, hh⟩ := ob_bind hh
    obtain ⟨l, _, hh⟩ := ob_bind hh
    obtain ⟨c, _, hh⟩ := ob_bind hh
    cases hh
  | range t x =>
    rw [ho] at hh
    obtain ⟨d, hd, hh⟩ := ob_bind hh
    cases d <;> first
      | (cases hh; done)
      | (obtain ⟨b, _, hh⟩ := ob_bind hh; cases hh)
  | next x b => rw [ho] at hh; cases b <;> (obtain ⟨l, _, hh⟩ := ob_bind hh; cases hh)
  | _ => rw [ho] at hh; cases hh

end GoVm

/- Operations of the virtual machine that write memory do what the model's operations do: stores, rows made, maps, ranges. -/
namespace GoVm
open Go (Value World Addr Obj MapEntry Program Operand Oper Op IntKind BinOp Sem Result run_underlying)

variable {P : Program} {ρ : Nat → Int} {φ : Phi} {m : SlotMap} {e : Env} {stk : List V} {slots : T V} {a : Go.Act} {h : T O} {nx : Pos} {w : World}

/-- An operation's value; an operation that gives none leaves the undefined one. -/
def Yields (P : Program) (a : Go.Act) (o : Oper) (w : World) (c : Value) (w' : World) : Prop :=
  (Go.execOp a.eval o).run P w = .ok (.value c) w' ∨ ((Go.execOp a.eval o).run P w = .ok .skip w' ∧ c = Go.undef)

/-- What is newly numbered. -/
def Grow (φ : Phi) (nx : Pos) (φ' : Phi) (nx' : Pos) : Prop := nx.num ≤ nx'.num ∧ ∀ a, φ a = none → φ' a ≠ none → nx.num ≤ a.num

theorem Grow.refl (φ : Phi) (nx : Pos) : Grow φ nx φ nx := ⟨Nat.le_refl _, fun _ h g => absurd h g⟩
theorem Grow.trans {φ φ' φ'' : Phi} {nx nx' nx'' : Pos} (h : Grow φ nx φ' nx') (g : Grow φ' nx' φ'' nx'') : Grow φ nx φ'' nx'' :=
  ⟨Nat.le_trans h.1 g.1, fun a h1 h2 => by
    cases e : φ' a with
    | none => exact Nat.le_trans h.1 (g.2 a e h2)
    | some q => exact h.2 a h1 (by rw [e]; simp)⟩
theorem Grow.add (φ : Phi) (nx : Pos) (q : Blk) : Grow φ nx (φ.add nx q) nx.succ :=
  ⟨by rw [Pos.num_succ]; omega, fun a h1 h2 => by
    unfold Phi.add at h2
    split at h2
    · rename_i e; subst e; exact Nat.le_refl _
    · exact absurd h1 h2⟩

/-- What an operation does to the memory. -/
def Does (P : Program) (ρ : Nat → Int) (φ : Phi) (h : T O) (a : Go.Act) (o : Oper) (w : World) (nx : Pos) (v : V) (h' : T O) (nx' : Pos) : Prop :=
  ∃ c φ' w', Yields P a o w c w' ∧ VR P ρ φ' v c ∧ Rel P ρ φ' h' nx' w' ∧ Ext h φ w h' φ' w' ∧ Grow φ nx φ' nx'

theorem Gives.yields {o : Oper} {v : V} (g : Gives P ρ φ a o v w) : ∃ c, Yields P a o w c w ∧ VR P ρ φ v c := by
  obtain ⟨c, h1, h2⟩ := g
  exact ⟨c, .inl h1, h2⟩

theorem Gives.does {o : Oper} {v : V} (g : Gives P ρ φ a o v w) (r : Rel P ρ φ h nx w) : Does P ρ φ h a o w nx v h nx := by
  obtain ⟨c, h1, h2⟩ := g
  exact ⟨c, φ, w, .inl h1, h2, r, .refl _ _ _, Grow.refl _ _⟩

theorem VR.undef {φ : Phi} : VR P ρ φ undefV Go.undef := by
  simp only [undefV, VR]; exact ⟨#[], rfl, VRs.nil⟩

theorem setW_ok {o : O} {b : Pos} {h : T O} {nx : Pos} {v v' : V} {h' : T O} {nx' : Pos} (e : setW o b h nx v = .ok v' h' nx') : v' = v ∧ h' = h.put o b ∧ nx' = nx := by
  rw [setW, T.setK_eq] at e; cases e; exact ⟨rfl, rfl, rfl⟩
theorem newW_ok {o : O} {h : T O} {nx : Pos} {v v' : V} {h' : T O} {nx' : Pos} (e : newW o h nx v = .ok v' h' nx') : v' = v ∧ h' = h.put o nx ∧ nx' = nx.succ := by
  rw [newW, T.setK_eq, Pos.succK_eq] at e; cases e; exact ⟨rfl, rfl, rfl⟩

theorem alloc_at (w : World) (o : Obj) : (w.alloc o).heap[w.heap.size]? = some o := by
  show (w.heap.push o)[w.heap.size]? = _
  simp

theorem Makes.does {o : Oper} {v : V} {ob : O} (r : Rel P ρ φ h nx w) (g : Makes P ρ φ a o nx v ob w) : Does P ρ φ h a o w nx v (h.put ob nx) nx.succ := by
  obtain ⟨c, vs, cs, t, h1, rfl, h2, h3⟩ := g
  have hle := r.addLe ⟨w.heap.size, 0, cs.size, t⟩
  have hk : ∀ B, B < w.heap.size → (w.alloc (.cells cs t)).heap[B]? = w.heap[B]? := by
    intro B hB
    simp only [World.alloc, Array.getElem?_push]
    rw [if_neg (by omega)]
  have hs : (w.alloc (.cells cs t)).heap.size = w.heap.size + 1 := by simp
  refine ⟨c, φ.add nx ⟨w.heap.size, 0, cs.size, t⟩, _, .inl h1, h3 _ (by simp [Phi.add]), ?_, ?_, Grow.add _ _ _⟩
  · exact r.new rfl hs hk (Makes.obj hle h2 (alloc_at w _))
  · exact r.newExt rfl hs hk rfl rfl rfl

/-- One more object. -/
theorem Rel.alloc (r : Rel P ρ φ h nx w) {w1 : World} (hw : w1.heap = w.heap) (ht : w1.tape = w.tape) (hos : w1.os = w.os) (hout : w1.output = w.output) {q : Blk} {o : O} {ob : Obj} (hB : q.B = w.heap.size)
    (ho : ObjR P ρ (φ.add nx q) (w1.alloc ob) q o) : Rel P ρ (φ.add nx q) (h.put o nx) nx.succ (w1.alloc ob) ∧ Ext h φ w (h.put o nx) (φ.add nx q) (w1.alloc ob) := by
  have hs : (w1.alloc ob).heap.size = w.heap.size + 1 := by simp [hw]
  have hk : ∀ B, B < w.heap.size → (w1.alloc ob).heap[B]? = w.heap[B]? := by
    intro B hB
    simp only [World.alloc, Array.getElem?_push, hw]
    rw [if_neg (by omega)]
  exact ⟨r.new hB hs hk ho, r.newExt hB hs hk ht hos hout⟩

/-! ## Stores -/

theorem oneCell_eq (v : Value) (h : v.oneCell = true) : v.oneCell' = true := by cases v <;> first | rfl | cases h

theorem run_storeCells_fz (g o : Nat) (t : Nat) (fz : Nat × Nat) : ∀ (vs : List Value) (i : Nat) (cur : Array Value) (w : World), w.heap[g]? = some (.cells cur t fz) → o + i + vs.length ≤ cur.size →
    (fz.2 ≤ fz.1 ∨ cur.size ≤ fz.1) → (∀ v ∈ vs, v.oneCell = true) →
    (Go.storeCells ⟨g, o, none⟩ vs i).run P w = .ok () (w.setRow g (cur.toList.take (o + i) ++ vs ++ cur.toList.drop (o + i + vs.length)).toArray)
  | [], i, cur, w, hg, _, _, _ => by
    simp only [Go.storeCells, List.append_nil, List.length_nil, Nat.add_zero, List.take_append_drop, Array.toArray_toList]
    rw [Go.setRow_self w g cur t fz hg]
    rfl
  | v :: rest, i, cur, w, hg, hl, hf, h1 => by
    have hi : o + i < cur.size := by simp at hl; omega
    have hadd : (⟨g, o, none⟩ : Addr).add i = ⟨g, o + i, none⟩ := by unfold Addr.add; split <;> simp_all
    have hcell : w.cell? ⟨g, o + i, none⟩ = some cur[o + i] := by simp [World.cell?, hg, hi]
    have hfro : w.frozen? ⟨g, o + i, none⟩ = false := by
      obtain ⟨lo, hh⟩ := fz
      simp only [World.frozen?, hg]
      simp at hf ⊢
      omega
    have hst : (Go.store ((⟨g, o, none⟩ : Addr).add i) v).run P w = .ok () (w.setRow g (cur.setIfInBounds (o + i) v)) := by
      rw [hadd, Go.run_store P w _ v _ (oneCell_eq v (h1 v (by simp))), hcell]
      simp [hfro, Go.setCell_eq_setRow w g (o + i) cur t fz v hg]
    have ih := run_storeCells_fz g o t fz rest (i + 1) (cur.setIfInBounds (o + i) v) (w.setRow g (cur.setIfInBounds (o + i) v)) (Go.setRow_heap w g cur _ t _ hg) (by simp at hl ⊢; omega) (by simpa using hf) (fun x hx => h1 x (by simp [hx]))
    simp only [Go.storeCells, Sem.run_bind, hst, Result.andThen_ok, ih, Go.setRow_setRow]
    congr 3
    have := Go.list_seg_step cur.toList (o + i) v rest (by simp at hl ⊢; omega)
    simp only [Array.toList_setIfInBounds]
    rw [← Nat.add_assoc o i 1]
    exact this

theorem seg_put (c us : List Value) (d n o : Nat) (h1 : o + us.length ≤ n) (h2 : d + n ≤ c.length) :
    ((c.take (d + o) ++ us ++ c.drop (d + o + us.length)).drop d).take n = ((c.drop d).take n).take o ++ us ++ ((c.drop d).take n).drop (o + us.length) := by
  apply List.ext_getElem?
  intro j
  simp only [List.getElem?_take, List.getElem?_drop, List.getElem?_append, List.length_take, List.length_drop, List.length_append]
  by_cases hj : j < n
  · rw [if_pos hj]
    by_cases h3 : j < o
    · rw [if_pos (by omega), if_pos (by omega), if_pos (by omega), if_pos (by omega), if_pos (by omega), if_pos (by omega), if_pos hj]
    · by_cases h4 : j < o + us.length
      · rw [if_pos (by omega), if_neg (by omega), if_pos (by omega), if_neg (by omega)]
        congr 1; omega
      · rw [if_neg (by omega), if_neg (by omega), if_pos (by omega)]
        congr 1; omega
  · rw [if_neg hj]
    split
    · omega
    · rw [if_neg (by omega)]

theorem write_sound (r : Rel P ρ φ h nx w) {b : Pos} {q : Blk} (hb : φ b = some q) {cs : List V} {t : Nat} {pl : Bool} (hg : h.get b = some (.cells cs t true pl)) {vs cs' : List V} {us : List Value} (hv : VRc P ρ φ vs us)
    {o : Nat} (hp : putAt o vs cs = some cs') : ∃ w', (Go.storeCells ⟨q.B, q.d + o, none⟩ us).run P w = .ok () w' ∧ Rel P ρ φ (h.put (.cells cs' t true pl) b) nx w' ∧ Ext h φ w (h.put (.cells cs' t true pl) b) φ w' := by
  obtain ⟨ht, c, fz, h2, h3, h4, h5, h6, h7⟩ := r.at hb hg
  obtain ⟨hput, hle⟩ := h4.put hv hp
  have hcl : c.toList.length = q.C := by simpa using h3
  have hle' : o + us.length ≤ cs.length := by
    simp only [List.length_take, List.length_drop, hcl] at hle; omega
  have hfz : fz.2 ≤ fz.1 ∨ c.size ≤ fz.1 := by rw [h3]; exact h6 rfl
  have hrun := run_storeCells_fz (P := P) q.B (q.d + o) t fz us 0 c w h2 (by omega) hfz hv.2
  simp only [Nat.add_zero] at hrun
  refine ⟨_, hrun, ?_, ?_⟩
  · refine r.upd hb hg rfl (fun B hB => Go.setRow_other w q.B B _ hB) (by simp) ?_
    have hlen' : cs'.length = cs.length := by
      obtain ⟨e1, e2⟩ := putAt_eq o vs cs cs' hp
      rw [e1]; simp; omega
    refine ⟨ht, _, fz, Go.setRow_heap w q.B c _ t fz h2, ?_, ?_, by rw [hlen']; exact h5, h6, h7⟩
    · simp only [List.size_toArray, List.length_append, List.length_take, List.length_drop]; omega
    · have := seg_put c.toList us q.d cs.length o hle' (by omega)
      simp only [hlen']
      rw [this]
      exact hput
  · exact r.updExt hb hg rfl (by simp) (fun B hB => Go.setRow_other w q.B B _ hB) rfl rfl rfl

theorem run_unit {s : Sem Unit} {w w' : World} (h : s.run P w = .ok () w') : (do s; pure Go.Next.skip : Sem Go.Next).run P w = .ok .skip w' := by
  simp [h]

theorem w_st (hE : ER P ρ m e φ stk slots a) (r : Rel P ρ φ h nx w) {o : Oper} {t n : Nat} {x y : Operand} (ho : o.op = .store t x y) (hn : sizeV P t = some n) {lx ly : GoVm.Loc} (hx : locOf m e x = some lx) (hy : locOf m e y = some ly)
    {v : V} {h' : T O} {nx' : Pos} (hv : wSt n lx ly stk slots h nx = .ok v h' nx') : Does P ρ φ h a o w nx v h' nx' := by
  obtain ⟨wr, h1, h2⟩ := wo_eq hv
  subst h2
  obtain ⟨u, h3, h4⟩ := ob_eq h1
  obtain ⟨z, h5, h6⟩ := ob_eq h4
  obtain ⟨_, h7⟩ | ⟨b, k, rfl, h7⟩ := vPtr_eq h6
  · cases h7
  obtain ⟨cs, ty, wr, pl, h8, h9⟩ := oCells_eq h7
  obtain ⟨l, h10, h11⟩ := ob_eq h9
  have hc := (cnd_some h11).1
  have h12 := (cnd_some h11).2
  obtain ⟨cs', h13, h14⟩ := ob_eq h12
  simp only [Option.some.injEq] at h14
  obtain ⟨rfl, rfl, rfl⟩ := setW_ok h14
  simp only [andB_eq, Bool.and_eq_true] at hc
  obtain ⟨rfl, hlen⟩ := hc
  have hu := hE.lo hx h3
  have hz := hE.lo hy h5
  simp only [VR] at hu
  obtain ⟨q, hq, hu⟩ := hu
  have hcl := hz.cells h10
  obtain ⟨w', hw, hr, he⟩ := write_sound r hq h8 hcl h13
  refine ⟨Go.undef, φ, w', .inr ⟨?_, rfl⟩, VR.undef, hr, he, Grow.refl _ _⟩
  simp only [Go.execOp, ho]
  refine run_unit ?_
  have hsz : (a.eval y).cells.size = n := by
    have := hcl.len
    rw [lenEq_eq l n hlen] at this
    simpa using this
  simp only [Go.Instr.storeAt, Sem.run_bind, hu, Go.Instr.sureAddr, Sem.run_pure, Result.andThen_ok, Go.storeVar, run_sizeOf hn]
  rw [if_neg (by simp [hsz])]
  simpa using hw

theorem bytesV'_eq {t b : Nat} (h : bytesV' P t = some b) : ∃ i, P.info? t = some i ∧ i.bytes = b := by
  simpa [bytesV'] using h

theorem w_mks (hE : ER P ρ m e φ stk slots a) (r : Rel P ρ φ h nx w) {o : Oper} {t el s b : Nat} {x y : Operand} (ho : o.op = .makeSlice t x y) (ht : P.underlying t = some (.slice el)) (hb : bytesV' P el = some b) (hb4 : b ≤ 4096)
    {z : List V} (hz : zeroC P el = some z) (hs : sizeV P el = some s) {lx ly : GoVm.Loc} (hx : locOf m e x = some lx) (hy : locOf m e y = some ly)
    {v : V} {h' : T O} {nx' : Pos} (hv : wMks el s b z lx ly stk slots h nx = .ok v h' nx') : Does P ρ φ h a o w nx v h' nx' := by
  obtain ⟨n, h1, h2⟩ := wo_eq hv
  obtain ⟨u, h3, h4⟩ := ob_eq h1
  obtain ⟨y', h5, h6⟩ := ob_eq h4
  obtain ⟨n', h7, h8⟩ := ob_eq h6
  obtain ⟨m', h9, h10⟩ := ob_eq h8
  have hc := (cnd_some h10).1
  have h11 := (cnd_some h10).2
  cases h11
  simp only [andB_eq, Bool.and_eq_true, Nat.beq_eq, Nat.ble_eq] at hc
  obtain ⟨rfl, hle⟩ := hc
  obtain ⟨rfl, rfl, rfl⟩ := newW_ok h2
  obtain ⟨k1, rfl⟩ := asNatV_eq h7
  obtain ⟨k2, rfl⟩ := asNatV_eq h9
  have hu := hE.lo hx h3
  have hy' := hE.lo hy h5
  simp only [VR] at hu hy'
  obtain ⟨i, hi, hib⟩ := bytesV'_eq hb
  simp only [zeroC] at hz
  split at hz
  · rename_i z0 n0 hz0 hn0
    split at hz
    · rename_i l' hl
      split at hz
      · rename_i hlen
        cases hz
        simp only [zeroV, Option.bind_eq_some_iff] at hz0
        obtain ⟨zc, ⟨i', hi', hzc⟩, hconv⟩ := hz0
        rw [hi] at hi'; cases hi'
        have hvr := (convV_sound (P := P) (ρ := ρ) (φ := φ) zc z0 hconv).cells hl
        have hsi : i.size = s := by simpa [sizeV, hi] using hs
        have hn0s : n0 = s := by rw [hs] at hn0; cases hn0; rfl
        have hrun := Go.run_make (P := P) w t el i zc ht hi hzc k1 k2 n n (by omega) (Int.le_refl _) (by
          have h1 : i.bytes * n ≤ 4096 * 65536 := Nat.mul_le_mul (by omega) hle
          have h2 : ((i.bytes * n : Nat) : Int) ≤ 281474976710656 := by omega
          rwa [Int.natCast_mul] at h2) (by omega)
        have g : Makes P ρ φ a o nx (.sl nx 0 n n) (.cells (replV n z) el true true) w := by
          refine ⟨.slice (some ⟨w.heap.size, 0, none⟩) n n, _, Go.madeCells zc.cells (n * s), el, ?_, rfl, ?_, fun φ' hp => ?_⟩
          · simp only [Go.execOp, ho]
            refine run_val ?_
            rw [hu, hy']
            simpa [hsi] using hrun
          · rw [replV_eq, ← hn0s, ← hlen]
            exact zeros_sound hvr n
          · simp only [VR]
            exact ⟨_, 0, n, hp, rfl, Nat.le_refl _, Nat.le_refl _, fun _ => rfl, .inl rfl⟩
        exact Makes.does r g
      · cases hz
    · cases hz
  · cases hz

theorem w_mkm (r : Rel P ρ φ h nx w) {o : Oper} {t : Nat} (ho : o.op = .makeMap t none) {v : V} {h' : T O} {nx' : Pos} (hv : wMkm stk slots h nx = .ok v h' nx') : Does P ρ φ h a o w nx v h' nx' := by
  obtain ⟨rfl, rfl, rfl⟩ := newW_ok hv
  obtain ⟨hr, he⟩ := r.alloc (w1 := w) rfl rfl rfl rfl (q := ⟨w.heap.size, 0, 0, 0⟩) (o := .map []) (ob := .map #[] 0) rfl ⟨#[], alloc_at w _, rfl, by simp⟩
  refine ⟨.map (some w.heap.size), _, _, .inl ?_, ?_, hr, he, Grow.add _ _ _⟩
  · simp only [Go.execOp, ho]
    refine run_val ?_
    simp [Go.Instr.makeMap]
  · simp only [VR]; exact ⟨⟨w.heap.size, 0, 0, 0⟩, by simp [Phi.add], rfl⟩

theorem run_setObj {g : Nat} {o o' : Obj} (hg : w.heap[g]? = some o) (hn : ∀ c t f, o ≠ .cells c t f) : (Go.setObj g o').run P w = .ok () { w with heap := w.heap.setIfInBounds g o' } := by
  cases o <;> first
    | exact absurd rfl (hn _ _ _)
    | simp [Go.setObj, Sem.run, hg]

theorem run_getObj {g : Nat} {o : Obj} (hg : w.heap[g]? = some o) (hn : ∀ c t f, o ≠ .cells c t f) : (Go.getObj g).run P w = .ok o w := by
  cases o <;> first
    | exact absurd rfl (hn _ _ _)
    | simp [Go.getObj, Sem.run, hg]

/-- An object put in another's place. -/
theorem Rel.put (r : Rel P ρ φ h nx w) {b : Pos} {q : Blk} {o o' : O} {x : Obj} (hb : φ b = some q) (hg : h.get b = some o) (hw : o.wr = true)
    (ho : ∀ w' : World, w'.heap[q.B]? = some x → ObjR P ρ φ w' q o') :
    Rel P ρ φ (h.put o' b) nx { w with heap := w.heap.setIfInBounds q.B x } ∧ Ext h φ w (h.put o' b) φ { w with heap := w.heap.setIfInBounds q.B x } := by
  have hlt : q.B < w.heap.size := (r.at hb hg).lt (O.wr_ne hw)
  have hk : ∀ B, B ≠ q.B → ({ w with heap := w.heap.setIfInBounds q.B x } : World).heap[B]? = w.heap[B]? := by
    intro B hB
    exact Array.getElem?_setIfInBounds_ne (Ne.symm hB)
  have hs : ({ w with heap := w.heap.setIfInBounds q.B x } : World).heap[q.B]? = some x := by simp [hlt]
  exact ⟨r.upd hb hg hw hk (by simp) (ho _ hs), r.updExt hb hg hw (by simp) hk rfl rfl rfl⟩

theorem w_mu (hE : ER P ρ m e φ stk slots a) (r : Rel P ρ φ h nx w) {o : Oper} {t k el : Nat} {x i y : Operand} (ho : o.op = .mapUpdate t x i y) (ht : P.underlying t = some (.map k el)) {kd : Nat} (hkd : keyKind P k = some kd)
    {lx li ly : GoVm.Loc} (hx : locOf m e x = some lx) (hi : locOf m e i = some li) (hy : locOf m e y = some ly) {v : V} {h' : T O} {nx' : Pos} (hv : wMu kd lx li ly stk slots h nx = .ok v h' nx') : Does P ρ φ h a o w nx v h' nx' := by
  obtain ⟨wr, h1, h2⟩ := wo_eq hv
  subst h2
  obtain ⟨u, h3, h4⟩ := ob_eq h1
  obtain ⟨ky, h5, h6⟩ := ob_eq h4
  obtain ⟨vv, h7, h8⟩ := ob_eq h6
  obtain ⟨_, h9⟩ | ⟨b, rfl, h9⟩ := vMap_eq h8
  · cases h9
  obtain ⟨es, h10, h11⟩ := oMap_eq h9
  obtain ⟨res, h12, h13⟩ := ob_eq h11
  cases res with
  | some z => cases h13
  | none =>
  simp only [Option.some.injEq] at h13
  obtain ⟨rfl, rfl, rfl⟩ := setW_ok h13
  have hu := hE.lo hx h3
  have hky := hE.lo hi h5
  have hvv := hE.lo hy h7
  obtain ⟨d, hd, hkk⟩ := keyKind_eq hkd
  simp only [VR] at hu
  obtain ⟨q, hq, hu⟩ := hu
  obtain ⟨xs, h14, h15, h16⟩ := r.at hq h10
  have hf := findV_sound hkk hky h12 h15 0
  have hl : xs.size = es.length := by simpa using h15.len
  obtain ⟨hr, he⟩ := r.put (x := .map (xs.push { key := a.eval i, val := a.eval y, born := es.length }) (es.length + 1)) (o' := .map (es ++ [(ky, vv)])) hq h10 rfl (by
    intro w' hw'
    refine ⟨_, by simpa using hw', ?_, ?_⟩
    · simpa using h15.snoc (x := { key := a.eval i, val := a.eval y, born := es.length }) hky hvv
    · intro j x hj
      rw [Array.getElem?_push] at hj
      split at hj
      · rename_i e; cases hj; simp [e, hl]
      · exact h16 j x hj)
  refine ⟨Go.undef, φ, _, .inr ⟨?_, rfl⟩, VR.undef, hr, he, Grow.refl _ _⟩
  simp only [Go.execOp, ho]
  refine run_unit ?_
  simp only [Go.Instr.mapUpdate, Sem.run_bind, run_underlying ht, Result.andThen_ok, hu]
  rw [run_getObj h14 (by intros; simp)]
  simp only [Result.andThen_ok, Sem.run_bind, run_checkKey hd hkk, run_findKey hd hf]
  exact run_setObj h14 (by intros; simp)

theorem w_rgs (hE : ER P ρ m e φ stk slots a) (r : Rel P ρ φ h nx w) {o : Oper} {t : Nat} {x : Operand} (ho : o.op = .range t x) (ht : P.underlying t = some .string) {lx : GoVm.Loc} (hx : locOf m e x = some lx)
    {v : V} {h' : T O} {nx' : Pos} (hv : wRgs lx stk slots h nx = .ok v h' nx') : Does P ρ φ h a o w nx v h' nx' := by
  obtain ⟨wr, h1, h2⟩ := wo_eq hv
  subst h2
  obtain ⟨u, h3, h4⟩ := ob_eq h1
  obtain ⟨n, z, rfl, h5⟩ := vStr_eq h4
  simp only [Option.some.injEq] at h5
  obtain ⟨rfl, rfl, rfl⟩ := newW_ok h5
  have hu := hE.lo hx h3
  simp only [VR] at hu
  obtain ⟨s, hu, hs⟩ := hu
  obtain ⟨hr, he⟩ := r.alloc (w1 := w) rfl rfl rfl rfl (q := ⟨w.heap.size, 0, 0, 0⟩) (o := .siter n z 0) (ob := .stringIter s 0) rfl ⟨rfl, s, alloc_at w _, hs⟩
  refine ⟨.pointer (some ⟨w.heap.size, 0, none⟩), _, _, .inl ?_, ?_, hr, he, Grow.add _ _ _⟩
  · simp only [Go.execOp, ho]
    refine run_val ?_
    rw [hu]
    exact Go.run_range_string w t s ht
  · simp only [VR]; exact ⟨⟨w.heap.size, 0, 0, 0⟩, by simp [Phi.add], rfl⟩

theorem w_rgm (hE : ER P ρ m e φ stk slots a) (r : Rel P ρ φ h nx w) {o : Oper} {t k el : Nat} {x : Operand} (ho : o.op = .range t x) (ht : P.underlying t = some (.map k el)) {lx : GoVm.Loc} (hx : locOf m e x = some lx)
    {v : V} {h' : T O} {nx' : Pos} (hv : wRgm lx stk slots h nx = .ok v h' nx') : Does P ρ φ h a o w nx v h' nx' := by
  obtain ⟨wr, h1, h2⟩ := wo_eq hv
  subst h2
  obtain ⟨u, h3, h4⟩ := ob_eq h1
  have hu := hE.lo hx h3
  obtain ⟨rfl, h5⟩ | ⟨b, rfl, h5⟩ := vMap_eq h4
  · simp only [Option.some.injEq] at h5
    obtain ⟨rfl, rfl, rfl⟩ := newW_ok h5
    simp only [VR] at hu
    obtain ⟨hr, he⟩ := r.alloc (w1 := w) rfl rfl rfl rfl (q := ⟨w.heap.size, 0, 0, 0⟩) (o := .miter none 0 0) (ob := .mapIter none 0 #[] 0) rfl ⟨rfl, alloc_at w _⟩
    refine ⟨.pointer (some ⟨w.heap.size, 0, none⟩), _, _, .inl ?_, ?_, hr, he, Grow.add _ _ _⟩
    · simp only [Go.execOp, ho]
      refine run_val ?_
      rw [hu]
      simp [Go.Instr.range, run_underlying ht]
    · simp only [VR]; exact ⟨⟨w.heap.size, 0, 0, 0⟩, by simp [Phi.add], rfl⟩
  · obtain ⟨n, h6, h7⟩ := ob_eq h5
    simp only [Option.some.injEq] at h7
    obtain ⟨rfl, rfl, rfl⟩ := newW_ok h7
    obtain ⟨es, h8, h9⟩ := oMap_eq h6
    have hn : n = es.length := by
      cases es with
      | nil => cases h9; rfl
      | cons e1 es =>
        cases es with
        | nil => cases h9; rfl
        | cons e2 es => cases h9
    subst hn
    simp only [VR] at hu
    obtain ⟨q, hq, hu⟩ := hu
    obtain ⟨xs, h10, h11, h12⟩ := r.at hq h8
    obtain ⟨hr, he⟩ := r.alloc (w1 := w) rfl rfl rfl rfl (q := ⟨w.heap.size, 0, 0, 0⟩) (o := .miter (some b) es.length 0) (ob := .mapIter (some q.B) es.length #[] es.length) rfl
      ⟨rfl, q, #[], es.length, r.addLe _ _ _ hq, alloc_at w _, .inl ⟨rfl, rfl⟩⟩
    refine ⟨.pointer (some ⟨w.heap.size, 0, none⟩), _, _, .inl ?_, ?_, hr, he, Grow.add _ _ _⟩
    · simp only [Go.execOp, ho]
      refine run_val ?_
      rw [hu]
      simp [Go.Instr.range, run_underlying ht, run_getObj h10]
    · simp only [VR]; exact ⟨⟨w.heap.size, 0, 0, 0⟩, by simp [Phi.add], rfl⟩

theorem w_nxs (hE : ER P ρ m e φ stk slots a) (r : Rel P ρ φ h nx w) {o : Oper} {x : Operand} (ho : o.op = .next x true) {lx : GoVm.Loc} (hx : locOf m e x = some lx)
    {v : V} {h' : T O} {nx' : Pos} (hv : wNxs lx stk slots h nx = .ok v h' nx') : Does P ρ φ h a o w nx v h' nx' := by
  obtain ⟨wr, h1, h2⟩ := wo_eq hv
  subst h2
  obtain ⟨u, h3, h4⟩ := ob_eq h1
  have hu := hE.lo hx h3
  obtain ⟨_, h5⟩ | ⟨b, k, rfl, h5⟩ := vPtr_eq h4
  · cases h5
  have hk0 := (cnd_some h5).1
  have h6 := (cnd_some h5).2
  obtain ⟨n, z, p, h7, h8⟩ := oSiter_eq h6
  simp only [Nat.beq_eq] at hk0
  subst hk0
  simp only [VR] at hu
  obtain ⟨q, hq, hu⟩ := hu
  obtain ⟨hd, s, h9, hs⟩ := r.at hq h7
  have hlen : s.size = n := by rw [size_eq]; exact hs.1
  simp only [hd, Nat.zero_add] at hu
  simp only [Option.some.injEq] at h8
  cases hb : Nat.blt p n with
  | false =>
    rw [hb] at h8
    cases h8
    have hp : ¬ p < s.size := by
      intro hlt
      rw [hlen] at hlt
      have : Nat.blt p n = true := by simpa using hlt
      rw [hb] at this; cases this
    refine ⟨.tuple #[.bool false], φ, w, .inl ?_, by simp only [VR]; exact ⟨_, rfl, VRs.cons (by simp [VR]) VRs.nil⟩, r, .refl _ _ _, Grow.refl _ _⟩
    simp only [Go.execOp, ho]
    refine run_val ?_
    simp only [Go.Instr.next, hu, Sem.run_bind]
    rw [run_getObj h9 (by intros; simp)]
    simp [hp]
  | true =>
    rw [hb] at h8
    have hp : p < s.size := by rw [hlen]; simpa using hb
    change cnd (Nat.blt (byteAt n z p) 128) _ _ = _ at h8
    cases hb2 : Nat.blt (byteAt n z p) 128 with
    | false => rw [hb2] at h8; cases h8
    | true =>
      rw [hb2] at h8
      simp only [cnd_true, forceN_eq] at h8
      obtain ⟨rfl, rfl, rfl⟩ := setW_ok h8
      have hpl : p < s.data.toList.length := by rw [← size_eq]; exact hp
      have hbyte : byteAt n z p = (s[p]'hp).toNat := by
        have := byteAt_eq s.data.toList p hpl
        rw [hs.1, hs.2] at this
        rw [this]
        simp [ByteArray.getElem_eq_getElem_data]
      have ha : (s[p]'hp).toNat < 128 := by rw [← hbyte]; simpa using hb2
      obtain ⟨hr, he⟩ := r.put (x := .stringIter s (p + 1)) (o' := .siter n z (p + 1)) hq h7 rfl (fun w' hw' => ⟨hd, s, hw', hs⟩)
      refine ⟨.tuple #[.bool true, Go.goInt p, .int .i32 (s[p]'hp).toNat], φ, _, .inl ?_, ?_, hr, he, Grow.refl _ _⟩
      · simp only [Go.execOp, ho]
        refine run_val ?_
        simp only [Go.Instr.next, hu, Sem.run_bind]
        rw [run_getObj h9 (by intros; simp)]
        simp only [Result.andThen_ok, hp, if_true, Go.decode_ascii s p hp ha, Sem.run_bind]
        rw [run_setObj h9 (by intros; simp)]
        simp
      · simp only [VR]
        refine ⟨_, rfl, VRs.cons (by simp [VR]) (VRs.cons (by simp [VR, Go.goInt]) (VRs.cons ?_ VRs.nil))⟩
        simp only [VR]
        rw [hbyte]; rfl

theorem w_nxm (hE : ER P ρ m e φ stk slots a) (r : Rel P ρ φ h nx w) {o : Oper} {x : Operand} (ho : o.op = .next x false) {lx : GoVm.Loc} (hx : locOf m e x = some lx)
    {v : V} {h' : T O} {nx' : Pos} (hv : wNxm lx stk slots h nx = .ok v h' nx') : Does P ρ φ h a o w nx v h' nx' := by
  obtain ⟨wr, h1, h2⟩ := wo_eq hv
  subst h2
  obtain ⟨u, h3, h4⟩ := ob_eq h1
  have hu := hE.lo hx h3
  obtain ⟨_, h5⟩ | ⟨b, k, rfl, h5⟩ := vPtr_eq h4
  · cases h5
  have hk0 := (cnd_some h5).1
  have h6 := (cnd_some h5).2
  obtain ⟨mm, n, seen, h7, h8⟩ := oMiter_eq h6
  simp only [Nat.beq_eq] at hk0
  subst hk0
  simp only [VR] at hu
  obtain ⟨q, hq, hu⟩ := hu
  have hover : ∀ w', (do pure (Go.Next.value (← (pure (.tuple #[.bool false]) : Sem Value))) : Sem Go.Next).run P w' = .ok (.value (.tuple #[.bool false])) w' := by intro w'; rfl
  have hno : VR P ρ φ (.tup [.bool false]) (.tuple #[.bool false]) := by simp only [VR]; exact ⟨_, rfl, VRs.cons (by simp [VR]) VRs.nil⟩
  cases mm with
  | none =>
    cases h8
    obtain ⟨hd, h9⟩ := r.at hq h7
    simp only [hd, Nat.zero_add] at hu
    refine ⟨.tuple #[.bool false], φ, w, .inl ?_, hno, r, .refl _ _ _, Grow.refl _ _⟩
    simp only [Go.execOp, ho]
    refine run_val ?_
    simp only [Go.Instr.next, hu, Sem.run_bind]
    rw [run_getObj h9 (by intros; simp)]
    simp
  | some mp =>
    obtain ⟨es, h9, h10⟩ := oMap_eq h8
    simp only [Option.some.injEq] at h10
    obtain ⟨hd, qm, sn, last, h11, h12, h13⟩ := r.at hq h7
    simp only [hd, Nat.zero_add] at hu
    obtain ⟨xs, h14, h15, h16⟩ := r.at h11 h9
    have step : ∀ c w', (Go.Instr.next (.pointer (some ⟨q.B, 0, none⟩)) false o.type).run P w = .ok c w' → (Go.execOp a.eval o).run P w = .ok (.value c) w' := by
      intro c w' hh
      simp only [Go.execOp, ho]
      refine run_val ?_
      rw [hu]; exact hh
    cases es with
    | nil =>
      change cnd _ _ _ = _ at h10
      cases hc : andB (Nat.beq n 0) (Nat.beq seen 0) with
      | false => rw [hc] at h10; cases h10
      | true =>
        rw [hc] at h10; cases h10
        simp only [andB_eq, Bool.and_eq_true, Nat.beq_eq] at hc
        obtain ⟨rfl, rfl⟩ := hc
        have hxs : xs = #[] := by simpa using h15.len
        subst hxs
        have hsn : sn = #[] := by
          rcases h13 with h | h
          · exact h.2
          · exact absurd h.1 (by omega)
        subst hsn
        refine ⟨.tuple #[.bool false], φ, w, .inl (step _ _ ?_), hno, r, .refl _ _ _, Grow.refl _ _⟩
        simp only [Go.Instr.next, Sem.run_bind]
        rw [run_getObj h12 (by intros; simp)]
        simp only [Result.andThen_ok, Sem.run_bind]
        rw [run_getObj h14 (by intros; simp)]
        simp [Go.Question.forced]
    | cons e1 es =>
      cases es with
      | cons e2 es => cases h10
      | nil =>
        obtain ⟨x1, xs', hx1, h17, h18, h19⟩ := h15
        have : xs' = [] := h19
        subst this
        have hxs : xs = #[x1] := by
          apply Array.ext'
          simpa using hx1
        subst hxs
        have hborn : x1.born = 0 := h16 0 x1 rfl
        change cnd (Nat.beq n 1) _ _ = _ at h10
        cases hn : Nat.beq n 1 with
        | false => rw [hn] at h10; cases h10
        | true =>
          rw [hn] at h10
          simp only [Nat.beq_eq] at hn
          subst hn
          change cnd (Nat.beq seen 0) _ _ = _ at h10
          cases hs0 : Nat.beq seen 0 with
          | true =>
            rw [hs0] at h10
            simp only [Nat.beq_eq] at hs0
            subst hs0
            obtain ⟨rfl, rfl, rfl⟩ := setW_ok h10
            have hsn : sn = #[] := by
              rcases h13 with h | h
              · exact h.2
              · exact absurd h.1 (by omega)
            subst hsn
            obtain ⟨hr, he⟩ := r.put (x := .mapIter (some qm.B) 1 #[0] 1) (o' := .miter (some mp) 1 1) hq h7 rfl (fun w' hw' => ⟨hd, qm, #[0], 1, h11, hw', .inr ⟨rfl, rfl, rfl⟩⟩)
            refine ⟨.tuple #[.bool true, x1.key, x1.val], φ, _, .inl (step _ _ ?_), ?_, hr, he, Grow.refl _ _⟩
            · simp only [Go.Instr.next, Sem.run_bind]
              rw [run_getObj h12 (by intros; simp)]
              simp only [Result.andThen_ok, Sem.run_bind]
              rw [run_getObj h14 (by intros; simp)]
              have hset := run_setObj (P := P) (o' := .mapIter (some qm.B) 1 #[0] 1) h12 (by intros; simp)
              simp [Go.Question.forced, hborn, hset]
            · simp only [VR]; exact ⟨_, rfl, VRs.cons (by simp [VR]) (VRs.cons h17 (VRs.cons h18 VRs.nil))⟩
          | false =>
            rw [hs0] at h10
            change cnd (Nat.beq seen 1) _ _ = _ at h10
            cases hs1 : Nat.beq seen 1 with
            | false => rw [hs1] at h10; cases h10
            | true =>
              rw [hs1] at h10
              cases h10
              simp only [Nat.beq_eq] at hs1
              subst hs1
              obtain ⟨rfl, rfl⟩ : sn = #[0] ∧ last = 1 := by
                rcases h13 with h | h
                · exact absurd h.1 (by omega)
                · exact h.2
              refine ⟨.tuple #[.bool false], φ, w, .inl (step _ _ ?_), hno, r, .refl _ _ _, Grow.refl _ _⟩
              simp only [Go.Instr.next, Sem.run_bind]
              rw [run_getObj h12 (by intros; simp)]
              simp only [Result.andThen_ok, Sem.run_bind]
              rw [run_getObj h14 (by intros; simp)]
              simp [Go.Question.forced, hborn]

end GoVm

/- Operations of the virtual machine that write memory do what the model's operations do: texts made into bytes, and append. -/
namespace GoVm
open Go (Value World Addr Obj MapEntry Program Operand Oper Op IntKind BinOp Sem Result run_underlying)

variable {P : Program} {ρ : Nat → Int} {φ : Phi} {m : SlotMap} {e : Env} {stk : List V} {slots : T V} {a : Go.Act} {h : T O} {nx : Pos} {w : World}

theorem strCells_sound (s : ByteArray) : ∀ k, k ≤ s.data.toList.length →
    VRc P ρ φ (strCells s.data.toList.length (numL s.data.toList) k) ((s.data.toList.drop (s.data.toList.length - k)).map fun b => Value.int .u8 (b.toNat : Int))
  | 0, _ => by
    have : s.data.toList.drop (s.data.toList.length - 0) = [] := by simp
    rw [this]; exact VRc.nil
  | k + 1, hk => by
    have e : strCells s.data.toList.length (numL s.data.toList) (k + 1) =
      .int .u8 (.ofNat (byteAt s.data.toList.length (numL s.data.toList) (s.data.toList.length - (k + 1)))) :: strCells s.data.toList.length (numL s.data.toList) k := by
      change forceN (byteAt s.data.toList.length (numL s.data.toList) (Nat.sub s.data.toList.length (Nat.succ k))) (fun b => V.int .u8 (.ofNat b) :: strCells s.data.toList.length (numL s.data.toList) k) = _
      rw [forceN_eq]; rfl
    have hlt : s.data.toList.length - (k + 1) < s.data.toList.length := by omega
    rw [e, List.drop_eq_getElem_cons hlt, List.map_cons, byteAt_eq _ _ hlt]
    have ih := strCells_sound s k (by omega)
    have : s.data.toList.length - (k + 1) + 1 = s.data.toList.length - k := by omega
    rw [this]
    exact ⟨VRs.cons (by simp only [VR]; rfl) ih.1, fun y hy => by
      rcases List.mem_cons.1 hy with rfl | hy
      · rfl
      · exact ih.2 y hy⟩

theorem strCells_all {n z : Nat} {s : ByteArray} (hs : StrOk n z s) : VRc P ρ φ (strCells n z n) (s.data.map fun b => Value.int .u8 (b.toNat : Int)).toList ∧ (strCells n z n).length = n ∧ s.size = n := by
  obtain ⟨h1, h2⟩ := hs
  have := strCells_sound (P := P) (ρ := ρ) (φ := φ) s s.data.toList.length (Nat.le_refl _)
  simp only [Nat.sub_self, List.drop_zero] at this
  rw [h1, h2] at this
  refine ⟨by simpa using this, ?_, by rw [size_eq]; exact h1⟩
  have := this.len
  simp only [List.length_map, h1] at this
  omega

theorem freeze_alloc (w : World) (c : Array Value) (t n k : Nat) (hk : 0 < k) : (w.alloc (.cells c t (0, 0))).freeze ⟨w.heap.size, n, none⟩ k = w.alloc (.cells c t (n, n + k)) := by
  unfold World.freeze
  rw [if_neg (by omega)]
  simp only [World.alloc]
  congr 1
  apply Array.ext_getElem?
  intro i
  rw [Array.getElem?_modify]
  simp only [Array.getElem?_push]
  by_cases hi : i = w.heap.size
  · subst hi; simp
  · have : w.heap.size ≠ i := fun e => hi e.symm
    simp [hi, this]

theorem run_mark_alloc (w : World) (c : Array Value) (t : Nat) : (Go.markStringish ⟨w.heap.size, 0, none⟩).run P (w.alloc (.cells c t (0, 0))) = .ok () (w.alloc (.cells c t (c.size, c.size + 1))) := by
  have hsh : (w.alloc (.cells c t (0, 0))).shape? w.heap.size = some (t, c.size) := by
    unfold World.shape?
    rw [alloc_at w _]
  simp only [Go.markStringish, Sem.run_bind, Go.run_shape, Result.andThen_ok, hsh, Go.run_freeze, freeze_alloc w c t c.size 1 (by omega)]

theorem grownCap_eq (w : World) (need old t : Nat) : (Go.choose (.appendCap need old t)).run P w = .ok (Go.grownCap w need old t) w.drew := by
  simp [Go.Question.forced, Go.grownCap]

theorem isOne_eq {t : Nat} {u : Unit} (h : isOne P t = some u) : sizeV P t = some 1 := by
  unfold isOne at h
  split at h
  · assumption
  · cases h

/-- A fresh row of which the first cells are known. -/
theorem fresh_obj {φ : Phi} {vs : List V} {cs : Array Value} {t B : Nat} {fz : Nat × Nat} {p : Bool} {w' : World} (hv : VRc P ρ φ vs (cs.toList.take vs.length)) (hl : vs.length ≤ cs.size) (hw : w'.heap[B]? = some (.cells cs t fz))
    (hf : fz.2 ≤ fz.1 ∨ cs.size ≤ fz.1) (hp : p = true → fz = (0, 0)) : ObjR P ρ φ w' ⟨B, 0, cs.size, t⟩ (.cells vs t true p) :=
  ⟨rfl, cs, fz, hw, rfl, by simpa using hv, by simpa using hl, fun _ => hf, hp⟩

theorem w_s2b (hE : ER P ρ m e φ stk slots a) (r : Rel P ρ φ h nx w) {o : Oper} {s d el : Nat} {x : Operand} (ho : o.op = .convert s d x) (hs : P.underlying s = some .string) (hd : P.underlying d = some (.slice el)) (hel : P.underlying el = some (.int .u8))
    (hsz : sizeV P el = some 1) {lx : GoVm.Loc} (hx : locOf m e x = some lx) {v : V} {h' : T O} {nx' : Pos} (hv : wS2b el lx stk slots h nx = .ok v h' nx') : Does P ρ φ h a o w nx v h' nx' := by
  obtain ⟨wr, h1, h2⟩ := wo_eq hv
  subst h2
  obtain ⟨u, h3, h4⟩ := ob_eq h1
  obtain ⟨n, z, rfl, h5⟩ := vStr_eq h4
  simp only [Option.some.injEq] at h5
  obtain ⟨rfl, rfl, rfl⟩ := newW_ok h5
  have hu := hE.lo hx h3
  simp only [VR] at hu
  obtain ⟨b, hu, hb⟩ := hu
  obtain ⟨hc, hcl, hbs⟩ := strCells_all (P := P) (ρ := ρ) (φ := φ) hb
  let cap := Go.grownCap w n 0 el
  have hcap : n ≤ cap := Go.grownCap_ge w n 0 el
  let cs : Array Value := (b.data.map fun b => Value.int .u8 (b.toNat : Int)) ++ Array.replicate (cap - n) (.int .u8 0)
  have hds : b.data.size = n := by rw [← hbs]; rfl
  have hcs : cs.size = cap := by simp only [cs, Array.size_append, Array.size_map, Array.size_replicate, hds]; omega
  obtain ⟨hr, he⟩ := r.alloc (w1 := w.drew) rfl rfl rfl rfl (q := ⟨w.heap.size, 0, cs.size, el⟩) (o := .cells (strCells n z n) el true false) (ob := .cells cs el (cs.size, cs.size + 1)) rfl (by
    refine fresh_obj (fz := (cs.size, cs.size + 1)) ?_ (by rw [hcl, hcs]; exact hcap) (alloc_at w.drew _) (.inr (Nat.le_refl _)) (by intro h; cases h)
    have : cs.toList.take (strCells n z n).length = (b.data.map fun b => Value.int .u8 (b.toNat : Int)).toList := by
      rw [hcl]
      simp only [cs, Array.toList_append]
      rw [List.take_append_of_le_length (by simp [hds]), List.take_of_length_le (by simp [hds])]
    rw [this]
    exact hc.mono (r.addLe _))
  refine ⟨.slice (some ⟨w.heap.size, 0, none⟩) n cap, _, _, .inl ?_, ?_, hr, he, Grow.add _ _ _⟩
  · simp only [Go.execOp, ho]
    refine run_val ?_
    simp only [Go.convert, Sem.run_bind, run_underlying hs, run_underlying hd, Result.andThen_ok, hu, run_underlying hel, Go.Conv.stringToBytes, hbs, grownCap_eq]
    have := run_mark_alloc (P := P) w.drew cs el
    simp only [Go.newRow, Sem.run_bind, Go.run_newObj, Result.andThen_ok, Sem.run_pure, World.alloc_eq, World.size_drew] at this ⊢
    rw [this]
    rfl
  · simp only [VR]
    refine ⟨⟨w.heap.size, 0, cs.size, el⟩, 0, cap, by simp [Phi.add], rfl, Nat.le_refl _, hcap, fun _ => rfl, .inr ?_⟩
    rw [cellsOf_eq hsz]
    show 0 + cap * 1 ≤ cs.size
    rw [hcs]; omega

end GoVm

/- Append in the virtual machine does what the model's append does. -/
namespace GoVm
open Go (Value World Addr Obj MapEntry Program Operand Oper Op IntKind BinOp Sem Result run_underlying)

variable {P : Program} {ρ : Nat → Int} {φ : Phi} {m : SlotMap} {e : Env} {stk : List V} {slots : T V} {a : Go.Act} {h : T O} {nx : Pos} {w : World}

/-- What is appended, as the model reads it. -/
structure Src (P : Program) (w : World) (sz n : Nat) (x : Value) (us : List Value) : Prop where
  len : ∀ w', (Go.Builtin.lenOf x).run P w' = .ok n w'
  cells : ∀ w' : World, w'.heap = w.heap → (Go.Builtin.firstCells sz n x).run P w' = .ok us.toArray w'

theorem cell_heap {w w' : World} (e : w'.heap = w.heap) (a : Addr) : w'.cell? a = w.cell? a := by simp [World.cell?, e]

theorem src_sound (r : Rel P ρ φ h nx w) {sz n : Nat} {x : V} {c : Value} {new : List V} (hh : srcCells sz h x = some (n, new)) (hx : VR P ρ φ x c) :
    ∃ us, Src P w sz n c us ∧ VRc P ρ φ new us ∧ us.length = n * sz := by
  cases x with
  | str k z =>
    have hsz := (cnd_some hh).1
    have hh2 := (cnd_some hh).2
    simp only [Nat.beq_eq] at hsz
    cases hh2
    simp only [VR] at hx
    obtain ⟨s, rfl, hb⟩ := hx
    obtain ⟨h1, h2, h3⟩ := strCells_all (P := P) (ρ := ρ) (φ := φ) hb
    have hl := h1.len
    refine ⟨_, ⟨fun w' => ?_, fun w' _ => ?_⟩, h1, by rw [hsz, hl, h2]; omega⟩
    · simp [Go.Builtin.lenOf, h3]
    · have : s.extract 0 n = s := by
        rw [← h3]
        simp
      simp [Go.Builtin.firstCells, this]
      apply Array.ext'
      simp
  | nils =>
    cases hh
    simp only [VR] at hx
    subst hx
    exact ⟨[], ⟨fun w' => by simp [Go.Builtin.lenOf], fun w' _ => by simp [Go.Builtin.firstCells]⟩, VRc.nil, by simp⟩
  | sl b o k cap =>
    change oCells (h.get b) _ = _ at hh
    obtain ⟨cs, t, wr, p, h1, h2⟩ := oCells_eq hh
    obtain ⟨l, h3, h4⟩ := ob_eq h2
    cases h4
    simp only [VR] at hx
    obtain ⟨q, o', k', hq, rfl, hnk, hkk, ho', hcap⟩ := hx
    obtain ⟨ds, h6, h7⟩ := cells_at (r.at hq h1)
    obtain ⟨e1, e2⟩ := getAt_eq' h3
    subst e1
    replace e2 : o + n * sz ≤ cs.length := e2
    have hdl := h6.len
    refine ⟨(ds.drop o).take (n * sz), ⟨fun w' => by simp [Go.Builtin.lenOf], fun w' hw' => ?_⟩, (h6.drop o).take _, by simp [hdl]; omega⟩
    by_cases hn : n * sz = 0
    · simp only [Go.Builtin.firstCells, hn]
      simp [Go.loadCells, Go.loadCellsFrom]
    · have hn0 : 0 < n := Nat.pos_of_ne_zero (fun e => hn (by rw [e]; simp))
      rw [ho' (by omega)]
      have := Go.run_firstCells_some (P := P) w' sz n ⟨q.B, q.d + o, none⟩ n k' ((ds.drop o).take (n * sz)) (by simp [hdl]; omega) (fun j v hj => by
        rw [List.getElem?_take] at hj
        split at hj
        · rw [List.getElem?_drop] at hj
          rw [addr_add, cell_heap hw', Nat.add_assoc]; exact h7 _ _ hj
        · cases hj)
      exact this
  | _ => cases hh

/-- The written block is left, and a part of it taken up under a new number. -/
theorem Rel.move (r : Rel P ρ φ h nx w) {b : Pos} {q q' : Blk} {o o' : O} {w' : World} (hb : φ b = some q) (hg : h.get b = some o) (hw : o.wr = true) (hB : q'.B = q.B) (hs : w'.heap.size = w.heap.size)
    (hk : ∀ B, B ≠ q.B → w'.heap[B]? = w.heap[B]?) (ho : ObjR P ρ (φ.add nx q') w' q' o') (ht : w'.tape = w.tape) (hos : w'.os = w.os) (hout : w'.output = w.output) :
    Rel P ρ (φ.add nx q') ((h.put .dead b).put o' nx) nx.succ w' ∧ Ext h φ w ((h.put .dead b).put o' nx) (φ.add nx q') w' := by
  have hne : b ≠ nx := fun e => by rw [e, r.fresh] at hb; cases hb
  have hgn : ∀ a, a ≠ nx → ((h.put .dead b).put o' nx).get a = (h.put .dead b).get a := fun a ha => T.get_put_other o' nx a _ ha
  have hgb : ((h.put .dead b).put o' nx).get b = some .dead := by rw [hgn b hne, T.get_put_same]
  have hgo : ∀ a, a ≠ nx → a ≠ b → ((h.put .dead b).put o' nx).get a = h.get a := fun a h1 h2 => by rw [hgn a h1, T.get_put_other .dead b a h h2]
  have hadd : ∀ a, a ≠ nx → (φ.add nx q') a = φ a := fun a ha => by unfold Phi.add; rw [if_neg ha]
  refine ⟨⟨fun a q1 ha => ?_, fun a q1 ha => ?_, fun a q1 ha => ?_, fun a c q1 q2 oa oc ha hc hoa hoc hda hdc hwa he => ?_⟩, ⟨r.addLe q', by omega, fun B hB' hno => ?_, fun a q1 o1 ha ho1 hw1 => ?_, fun a q1 ha hn => ?_, ht, hos, hout⟩⟩
  · by_cases h1 : a = nx
    · subst h1
      have : q1 = q' := by simpa [Phi.add] using ha.symm
      subst this
      exact ⟨o', T.get_put_same _ _ _, ho⟩
    · rw [hadd a h1] at ha
      by_cases h2 : a = b
      · subst h2; exact ⟨.dead, hgb, trivial⟩
      · obtain ⟨o1, h3, h4⟩ := r.obj a q1 ha
        refine ⟨o1, by rw [hgo a h1 h2]; exact h3, ?_⟩
        by_cases hd : o1 = .dead
        · subst hd; trivial
        · refine h4.mono (r.addLe q') (hk _ (fun e2 => h2 ?_))
          exact (r.inj b a q q1 o o1 hb ha hg h3 (O.wr_ne hw) hd hw e2.symm).symm
  · rw [Pos.num_succ]
    by_cases h1 : a = nx
    · subst h1; omega
    · rw [hadd a h1] at ha; have := r.low a q1 ha; omega
  · by_cases h1 : a = nx
    · have : q1 = q' := by subst h1; simpa [Phi.add] using ha.symm
      subst this
      rw [hB, hs]; exact r.bnd b q hb
    · rw [hadd a h1] at ha; rw [hs]; exact r.bnd a q1 ha
  · by_cases h1 : a = nx
    · by_cases h2 : c = nx
      · rw [h1, h2]
      · rw [hadd c h2] at hc
        have : q1 = q' := by subst h1; simpa [Phi.add] using ha.symm
        subst this
        have h3 : c ≠ b := fun e => by subst e; rw [hgb] at hoc; cases hoc; exact hdc rfl
        rw [hgo c h2 h3] at hoc
        exact absurd (r.inj b c q q2 o oc hb hc hg hoc (O.wr_ne hw) hdc hw (hB ▸ he)).symm h3
    · rw [hadd a h1] at ha
      have h3 : a ≠ b := fun e => by subst e; rw [hgb] at hoa; cases hoa; exact hda rfl
      rw [hgo a h1 h3] at hoa
      by_cases h2 : c = nx
      · have : q2 = q' := by subst h2; simpa [Phi.add] using hc.symm
        subst this
        exact absurd (r.inj b a q q1 o oa hb ha hg hoa (O.wr_ne hw) hda hw (by rw [he, hB])).symm h3
      · rw [hadd c h2] at hc
        have h4 : c ≠ b := fun e => by subst e; rw [hgb] at hoc; cases hoc; exact hdc rfl
        rw [hgo c h2 h4] at hoc
        exact r.inj a c q1 q2 oa oc ha hc hoa hoc hda hdc hwa he
  · exact hk B (fun e => hno b q o hb hg hw e.symm)
  · have h1 : a ≠ nx := fun e => by rw [e, r.fresh] at ha; cases ha
    have h2 : a ≠ b := fun e => by subst e; rw [hgb] at ho1; cases ho1; cases hw1
    rw [hgo a h1 h2] at ho1
    exact ⟨o1, ho1, hw1⟩
  · by_cases h1 : a = nx
    · subst h1
      have : q1 = q' := by simpa [Phi.add] using ha.symm
      subst this
      exact .inr ⟨b, q, o, hb, hg, hw, hB.symm⟩
    · rw [hadd a h1, hn] at ha; cases ha

/-- A block left. -/
theorem Rel.kill (r : Rel P ρ φ h nx w) {b : Pos} {q : Blk} (hb : φ b = some q) : Rel P ρ φ (h.put .dead b) nx w ∧ Ext h φ w (h.put .dead b) φ w := by
  have hgo : ∀ a, a ≠ b → (h.put .dead b).get a = h.get a := fun a h2 => T.get_put_other .dead b a h h2
  have hgb : (h.put .dead b).get b = some .dead := T.get_put_same _ _ _
  refine ⟨⟨fun a q1 ha => ?_, r.low, r.bnd, fun a c q1 q2 oa oc ha hc hoa hoc hda hdc hwa he => ?_⟩, ⟨.refl φ, Nat.le_refl _, fun _ _ _ => rfl, fun a q1 o1 ha ho1 hw1 => ?_, (fun a q h1 h2 => by rw [h1] at h2; cases h2), rfl, rfl, rfl⟩⟩
  · by_cases h2 : a = b
    · subst h2; exact ⟨.dead, hgb, trivial⟩
    · obtain ⟨o1, h3, h4⟩ := r.obj a q1 ha
      exact ⟨o1, by rw [hgo a h2]; exact h3, h4⟩
  · have h3 : a ≠ b := fun e => by subst e; rw [hgb] at hoa; cases hoa; exact hda rfl
    have h4 : c ≠ b := fun e => by subst e; rw [hgb] at hoc; cases hoc; exact hdc rfl
    rw [hgo a h3] at hoa
    rw [hgo c h4] at hoc
    exact r.inj a c q1 q2 oa oc ha hc hoa hoc hda hdc hwa he
  · have h2 : a ≠ b := fun e => by subst e; rw [hgb] at ho1; cases ho1; cases hw1
    rw [hgo a h2] at ho1
    exact ⟨o1, ho1, hw1⟩

section
variable {t t2 el sz bb ty : Nat} {d2 : Go.TypeDesc} {i : Go.TypeInfo} {z : Value} {x : Value} {n : Nat} {us : List Value}

/-- Append where there is room. -/
theorem run_append_in {ts : Array Nat} (h0 : ts[0]? = some t) (h1 : ts[1]? = some t2) (ht : P.underlying t = some (.slice el)) (ht2 : P.underlying t2 = some d2) (hd2 : ∀ k, d2 ≠ .int k) (hi : P.info? el = some i) (hs : Src P w i.size n x us)
    {base : Option Addr} {sLen sCap : Nat} (hroom : sLen + n ≤ sCap) {w' : World} (hst : match base with | some a => (Go.storeCells (a.add (sLen * i.size)) us).run P w = .ok () w' | none => w' = w) :
    (Go.Builtin.append_ ts ty #[.slice base sLen sCap, x]).run P w = .ok (.slice base (sLen + n) sCap) w' := by
  have hz : (d2 matches .int _) = false := by
    cases d2 <;> first
      | rfl
      | exact absurd rfl (hd2 _)
  unfold Go.Builtin.append_
  simp only [h0, h1, List.getElem?_toArray, List.getElem?_cons_zero, List.getElem?_cons_succ, Sem.run_bind, run_underlying ht, Result.andThen_ok, Go.sizeOf, Go.typeInfo, Go.run_program, hi, Sem.run_pure, run_underlying ht2]
  simp only [hs.len, Sem.run_bind, Result.andThen_ok, Bool.false_eq_true, if_false, hroom, if_true, Bool.not_false, hs.cells w rfl]
  cases base with
  | none => subst hst; rfl
  | some a =>
    simp only at hst
    simp only [Sem.run_bind, hst, Result.andThen_ok]
    rfl

/-- Append where a new row is made. -/
theorem run_append_new {ts : Array Nat} (h0 : ts[0]? = some t) (h1 : ts[1]? = some t2) (ht : P.underlying t = some (.slice el)) (ht2 : P.underlying t2 = some d2) (hd2 : ∀ k, d2 ≠ .int k) (hi : P.info? el = some i) (hz : i.zero = some z) (hs : Src P w i.size n x us)
    {base : Option Addr} {sLen sCap : Nat} (hroom : sCap < sLen + n) (hbig : sLen + n ≤ 1048576) (hb : i.bytes ≤ 4096) {olds : List Value}
    (hold : ∀ w' : World, w'.heap = w.heap → (Go.Builtin.firstCells i.size sLen (.slice base sLen sCap)).run P w' = .ok olds.toArray w') :
    (Go.Builtin.append_ ts ty #[.slice base sLen sCap, x]).run P w =
      .ok (.slice (some ⟨w.heap.size, 0, none⟩) (sLen + n) (Go.grownCap w (sLen + n) sCap el))
        (w.drew.alloc (.cells (olds.toArray ++ us.toArray ++ Go.Builtin.zeroCells z.cells (Go.grownCap w (sLen + n) sCap el - (sLen + n))) el)) := by
  have hzz : (d2 matches .int _) = false := by
    cases d2 <;> first
      | rfl
      | exact absurd rfl (hd2 _)
  have hn : ¬ (sLen + n ≤ sCap) := by omega
  have h63 : ¬ (9223372036854775807 < ((sLen : Int) + (n : Int))) := by omega
  have hm : (sLen + n) * i.bytes ≤ 1048576 * 4096 := Nat.mul_le_mul hbig hb
  have h48 : ¬ (281474976710656 < Go.Builtin.nextslicecap (sLen + n) sCap * i.bytes) := by
    have := Go.growslice_fits (bytes := i.bytes) hroom (by omega)
    omega
  have hc := hs.cells w.drew rfl
  have ho := hold w.drew rfl
  have hl := hs.len
  simp [h0, h1, Go.Builtin.append_, run_underlying ht, run_underlying ht2, Go.sizeOf, Go.typeInfo, Go.zeroValue, hi, hz, hl, hn, h63, h48, Go.Question.forced, hc, ho, Go.newRow, Go.grownCap]
  congr 2
  apply Array.ext'
  simp
end

theorem w_app (hE : ER P ρ m e φ stk slots a) (r : Rel P ρ φ h nx w) {o : Oper} {x y : Operand} {ts : Array Nat} (ho : o.op = .call ⟨.builtin .append, #[x, y], ts⟩) {t t2 el sz bb : Nat} {d2 : Go.TypeDesc} (h0 : ts[0]? = some t) (h1 : ts[1]? = some t2)
    (ht : P.underlying t = some (.slice el)) (ht2 : P.underlying t2 = some d2) (hd2 : ∀ k, d2 ≠ .int k) (hsz : sizeV P el = some sz) (hb : bytesV' P el = some bb) (hb4 : bb ≤ 4096) {zl : List V} (hz : zeroC P el = some zl)
    {lx ly : GoVm.Loc} (hx : locOf m e x = some lx) (hy : locOf m e y = some ly) {v : V} {h' : T O} {nx' : Pos} (hv : wApp el sz lx ly stk slots h nx = .ok v h' nx') : Does P ρ φ h a o w nx v h' nx' := by
  obtain ⟨s, h2, h3⟩ := wo_eq hv
  obtain ⟨xv, h4, h5⟩ := wo_eq h3
  obtain ⟨⟨n, new⟩, h6, h7⟩ := wo_eq h5
  have hs := hE.lo hx h2
  have hxv := hE.lo hy h4
  obtain ⟨us, hsrc, hus, hul⟩ := src_sound r h6 hxv
  obtain ⟨i, hi, hib⟩ := bytesV'_eq hb
  have hisz : i.size = sz := by simpa [sizeV, hi] using hsz
  have hcsz := cellsOf_eq hsz
  obtain ⟨zc, hzi, hzc⟩ : ∃ zc, i.zero = some zc ∧ zc.cells.size = sz := by
    obtain ⟨c, g1, g2, g3⟩ := zeroC_sound (ρ := ρ) (φ := φ) hz w
    rw [hsz] at g3
    cases hzi : i.zero with
    | none => simp [zeroC, zeroV, hi, hzi] at hz
    | some zc =>
      have : c = zc := by
        simp [Go.zeroValue, run_typeInfo hi, hzi] at g1
        exact g1.symm
      subst this
      exact ⟨c, rfl, by have := g2.len; simp at this; rw [this]; exact (Option.some.inj g3).symm⟩
  rw [← hisz] at hsrc
  have hrunB : ∀ c w', (Go.Builtin.append_ ts o.type #[a.eval x, a.eval y]).run P w = .ok c w' → Yields P a o w c w' := by
    intro c w' hr
    refine .inl ?_
    rw [run_builtin ho]
    refine run_val ?_
    simpa using hr
  change cnd (appBig 0 n) _ _ = _ at h7
  cases hbig : appBig 0 n with
  | false => rw [hbig] at h7; cases h7
  | true =>
  rw [hbig] at h7
  have hbn : n ≤ 1048576 := by
    have : Nat.ble (Nat.add 0 n) 1048576 = true := hbig
    have := Nat.le_of_ble_eq_true this
    have e : Nat.add 0 n = n := Nat.zero_add n
    rw [e] at this; exact this
  cases n with
  | zero =>
    change wo _ _ = _ at h7
    obtain ⟨_, h8, h9⟩ := wo_eq h7
    cases h9
    have hus0 : us = [] := by
      have : us.length = 0 := by rw [hul]; omega
      exact List.length_eq_zero_iff.1 this
    subst hus0
    obtain ⟨rfl, _⟩ | ⟨b, k, n, c, rfl, _⟩ := vSl_eq h8
    · have hs' := hs
      simp only [VR] at hs
      have := run_append_in (ty := o.type) h0 h1 ht ht2 hd2 hi hsrc (base := none) (sLen := 0) (sCap := 0) (Nat.le_refl _) (w' := w) rfl
      refine ⟨_, φ, w, hrunB _ _ (by rw [hs]; exact this), by simp [VR], r, .refl _ _ _, Grow.refl _ _⟩
    · have hs' := hs
      simp only [VR] at hs
      obtain ⟨q, o', k', hq, hs, hnk, hkk, _⟩ := hs
      have := run_append_in (ty := o.type) h0 h1 ht ht2 hd2 hi hsrc (base := some ⟨q.B, o', none⟩) (sLen := n) (sCap := k') (by omega) (w' := w) rfl
      rw [Nat.add_zero, ← hs] at this
      exact ⟨_, φ, w, hrunB _ _ (by rw [hs] at this ⊢; exact this), hs', r, .refl _ _ _, Grow.refl _ _⟩
  | succ n =>
    change wo _ _ = _ at h7
    obtain ⟨wr, h8, h9⟩ := wo_eq h7
    subst h9
    have hzs : ∀ k, (Go.Builtin.zeroCells zc.cells k).size = k * sz := fun k => by rw [Go.size_zeroCells, hzc]
    obtain ⟨rfl, h10⟩ | ⟨b, off, len, cap, rfl, h10⟩ := vSl_eq h8
    · simp only [Option.some.injEq] at h10
      obtain ⟨rfl, rfl, rfl⟩ := newW_ok h10
      simp only [VR] at hs
      have hrun := run_append_new (ty := o.type) h0 h1 ht ht2 hd2 hi hzi hsrc (base := none) (sLen := 0) (sCap := 0) (olds := []) (by omega) (by omega) (by omega) (fun w' _ => by simp [Go.Builtin.firstCells])
      have hge := Go.grownCap_ge w (0 + (n + 1)) 0 el
      generalize Go.grownCap w (0 + (n + 1)) 0 el = nc at hrun hge
      generalize hcs : (#[] ++ us.toArray ++ Go.Builtin.zeroCells zc.cells (nc - (0 + (n + 1))) : Array Value) = cs at hrun
      have hcsl : cs.toList = us ++ (Go.Builtin.zeroCells zc.cells (nc - (0 + (n + 1)))).toList := by rw [← hcs]; simp
      have hcsz' : cs.size = nc * sz := by
        rw [← hcs]
        simp only [Array.size_append, hzs, List.size_toArray, hul]
        have : (n + 1) * sz + (nc - (0 + (n + 1))) * sz = nc * sz := by rw [← Nat.add_mul]; congr 1; omega
        rw [← this]
        simp
      have hnl := hus.len
      obtain ⟨hr, he⟩ := r.alloc (w1 := w.drew) rfl rfl rfl rfl (q := ⟨w.heap.size, 0, cs.size, el⟩) (o := .cells new el true true) (ob := .cells cs el (0, 0)) rfl (by
        refine fresh_obj (fz := (0, 0)) ?_ ?_ (alloc_at w.drew _) (.inl (Nat.le_refl _)) (fun _ => rfl)
        · rw [hcsl, ← hnl, List.take_left']
          exact hus.mono (r.addLe _)
          rfl
        · rw [← hnl, hul, hcsz']; exact Nat.mul_le_mul_right _ (by omega))
      refine ⟨_, _, _, hrunB _ _ (by rw [hs]; exact hrun), ?_, hr, he, Grow.add _ _ _⟩
      simp only [VR]
      refine ⟨⟨w.heap.size, 0, cs.size, el⟩, 0, nc, by simp [Phi.add], by simp, Nat.le_refl _, by show n + 1 ≤ nc; omega, fun _ => rfl, .inr ?_⟩
      rw [hcsz]
      show 0 + nc * sz ≤ cs.size
      rw [hcsz']; omega
    · have hbg := (cnd_some h10).1
      have h11 := (cnd_some h10).2
      have hbig2 : len + (n + 1) ≤ 1048576 := Nat.le_of_ble_eq_true hbg
      simp only [Option.some.injEq] at h11
      obtain ⟨⟨cs, p⟩, h12, h13⟩ := wo_eq h11
      obtain ⟨cs1, u1, wr1, p1, h14, h15⟩ := oCells_eq h12
      have hwt := (cnd_some h15).1
      have h16 := (cnd_some h15).2
      cases h16
      simp only [andB_eq, Bool.and_eq_true, Nat.beq_eq] at hwt
      obtain ⟨rfl, rfl⟩ := hwt
      simp only [VR] at hs
      obtain ⟨q, o', k', hq, hs, hnk, hkk, ho', hcap⟩ := hs
      have hobj := r.at hq h14
      have hqt : u1 = q.t := hobj.1
      cases hfit : Nat.ble (len + (n + 1)) cap with
      | true =>
        change cnd (Nat.ble (len + (n + 1)) cap) _ _ = _ at h13
        rw [hfit] at h13
        obtain ⟨cs', h17, h18⟩ := wo_eq h13
        rw [forceN_eq] at h18
        obtain ⟨rfl, rfl, rfl⟩ := setW_ok h18
        have hfit' : len + (n + 1) ≤ cap := Nat.le_of_ble_eq_true hfit
        have ho2 := ho' (by omega)
        obtain ⟨w', hw, hr, he⟩ := write_sound r hq h14 hus h17
        have hst : (Go.storeCells ((⟨q.B, o', none⟩ : Addr).add (len * i.size)) us).run P w = .ok () w' := by
          rw [addr_add, ho2, hisz, Nat.add_assoc]; exact hw
        have := run_append_in (ty := o.type) h0 h1 ht ht2 hd2 hi hsrc (base := some ⟨q.B, o', none⟩) (sLen := len) (sCap := k') (by omega) (w' := w') hst
        refine ⟨_, φ, w', hrunB _ _ (by rw [hs]; exact this), ?_, hr, he, Grow.refl _ _⟩
        simp only [VR]
        exact ⟨q, o', k', hq, rfl, hfit', hkk, fun h => ho' h, hcap⟩
      | false =>
        change cnd (Nat.ble (len + (n + 1)) cap) _ _ = _ at h13
        rw [hfit] at h13
        obtain ⟨old, h17, h18⟩ := wo_eq h13
        rw [T.setK_eq, forceN_eq] at h18
        obtain ⟨rfl, rfl, rfl⟩ := newW_ok h18
        have hfit' : ¬ (len + (n + 1) ≤ cap) := by
          intro hle
          have := Nat.ble_eq_true_of_le hle
          rw [hfit] at this; cases this
        obtain ⟨_, c, fz, h20, h21, h22, h23, h24, h25⟩ := hobj
        obtain ⟨e1, e2⟩ := getAt_eq' h17
        replace e1 : old = (cs.drop off).take (len * sz) := e1
        replace e2 : off + len * sz ≤ cs.length := e2
        have hcl : c.toList.length = q.C := by simpa using h21
        -- the old cells, where the model reads them
        have holdc : VRc P ρ φ old ((c.toList.drop o').take (len * sz)) ∧ (o' + len * sz ≤ q.C ∨ len = 0) := by
          by_cases hl0 : len = 0
          · subst hl0
            rw [e1]; simp; exact VRc.nil
          · have ho2 := ho' (by omega)
            rw [e1, ho2]
            refine ⟨?_, .inl (by omega)⟩
            have := (h22.drop off).take (len * sz)
            have e3 : ((List.take cs.length (List.drop q.d c.toList)).drop off).take (len * sz) = (c.toList.drop (q.d + off)).take (len * sz) := by
              rw [List.drop_take, List.take_take, List.drop_drop]
              congr 1; omega
            rw [e3] at this
            exact this
        obtain ⟨holdc, holdle⟩ := holdc
        have holdlen : old.length = len * sz := by rw [e1]; simp; omega
        by_cases hroom : len + (n + 1) ≤ k'
        · -- the model's row has room
          have hk : o' + k' * sz ≤ q.C := by
            rcases hcap with hcap | hcap
            · omega
            · rw [← hqt, hcsz] at hcap; exact hcap
          have hfitC : o' + len * sz + us.length ≤ q.C := by
            rw [hul]
            have : len * sz + (n + 1) * sz ≤ k' * sz := by rw [← Nat.add_mul]; exact Nat.mul_le_mul_right _ hroom
            omega
          have hfz : fz.2 ≤ fz.1 ∨ c.size ≤ fz.1 := by rw [h21]; exact h24 rfl
          have hw := run_storeCells_fz (P := P) q.B (o' + len * sz) u1 fz us 0 c w h20 (by omega) hfz hus.2
          simp only [Nat.add_zero] at hw
          generalize hc' : (c.toList.take (o' + len * sz) ++ us ++ c.toList.drop (o' + len * sz + us.length)).toArray = c' at hw
          have hst : (Go.storeCells ((⟨q.B, o', none⟩ : Addr).add (len * i.size)) us).run P w = .ok () (w.setRow q.B c') := by
            rw [addr_add, hisz]; exact hw
          have hrun := run_append_in (ty := o.type) h0 h1 ht ht2 hd2 hi hsrc (base := some ⟨q.B, o', none⟩) (sLen := len) (sCap := k') hroom hst
          have hc's : c'.size = q.C := by
            rw [← hc']
            simp only [List.size_toArray, List.length_append, List.length_take, List.length_drop]; omega
          obtain ⟨hr, he⟩ := r.move (q' := ⟨q.B, o', q.C, u1⟩) (o' := .cells (old ++ new) u1 true p) (w' := w.setRow q.B c') hq h14 rfl rfl (by simp) (fun B hB => Go.setRow_other w q.B B _ hB) (by
            refine ⟨rfl, c', fz, Go.setRow_heap w q.B c c' u1 fz h20, hc's, ?_, ?_, h24, h25⟩
            · have e4 : (List.take (old ++ new).length (List.drop o' c'.toList)) = (c.toList.drop o').take (len * sz) ++ us := by
                rw [← hc', List.length_append, holdlen, ← hus.len]
                simp only [List.append_assoc]
                apply List.ext_getElem?
                intro j
                simp only [List.getElem?_take, List.getElem?_drop, List.getElem?_append, List.length_take, List.length_drop]
                by_cases hj : j < len * sz
                · rw [if_pos (by omega), if_pos (by omega), if_pos (by omega), if_pos (by omega), if_pos hj]
                · by_cases hj2 : j < len * sz + us.length
                  · rw [if_pos hj2, if_neg (by omega), if_pos (by omega), if_neg (by omega)]
                    congr 1; omega
                  · rw [if_neg hj2, if_neg (by omega)]
                    rw [List.getElem?_eq_none]
                    omega
              rw [e4]
              exact (holdc.append hus).mono (r.addLe _)
            · rw [List.length_append, holdlen, ← hus.len]
              show o' + (len * sz + us.length) ≤ q.C
              omega) rfl rfl rfl
          refine ⟨_, _, _, hrunB _ _ (by rw [hs]; exact hrun), ?_, hr, he, Grow.add _ _ _⟩
          simp only [VR]
          refine ⟨⟨q.B, o', q.C, u1⟩, o', k', by simp [Phi.add], rfl, Nat.le_refl _, hroom, fun _ => rfl, .inr ?_⟩
          rw [hcsz]; exact hk
        · -- a new row
          have hrun := run_append_new (ty := o.type) h0 h1 ht ht2 hd2 hi hzi hsrc (base := some ⟨q.B, o', none⟩) (sLen := len) (sCap := k') (olds := (c.toList.drop o').take (len * sz)) (by omega) hbig2 (by omega) (fun w' hw' => by
            rw [hisz]
            by_cases hl0 : len * sz = 0
            · simp only [Go.Builtin.firstCells, hl0]
              simp [Go.loadCells, Go.loadCellsFrom]
            · have hle : o' + len * sz ≤ q.C := by
                rcases holdle with h | h
                · exact h
                · rw [h] at hl0; simp at hl0
              refine Go.run_firstCells_some (P := P) w' sz len ⟨q.B, o', none⟩ len k' _ (by simp; omega) (fun j v hj => ?_)
              rw [List.getElem?_take] at hj
              split at hj
              · rw [List.getElem?_drop] at hj
                rw [addr_add, cell_heap hw']
                simp only [World.cell?, h20]
                simpa using hj
              · cases hj)
          have hge := Go.grownCap_ge w (len + (n + 1)) k' u1
          generalize Go.grownCap w (len + (n + 1)) k' u1 = nc at hrun hge
          generalize hcs : (((c.toList.drop o').take (len * sz)).toArray ++ us.toArray ++ Go.Builtin.zeroCells zc.cells (nc - (len + (n + 1))) : Array Value) = cs2 at hrun
          have hol : ((c.toList.drop o').take (len * sz)).length = len * sz := by rw [holdc.len, holdlen]
          have hcsl : cs2.toList = ((c.toList.drop o').take (len * sz) ++ us) ++ (Go.Builtin.zeroCells zc.cells (nc - (len + (n + 1)))).toList := by rw [← hcs]; simp
          have hcsz' : cs2.size = nc * sz := by
            rw [← hcs]
            simp only [Array.size_append, hzs, List.size_toArray, hul, hol]
            have : len * sz + (n + 1) * sz + (nc - (len + (n + 1))) * sz = nc * sz := by rw [← Nat.add_mul, ← Nat.add_mul]; congr 1; omega
            rw [← this]
          have hnl := (holdc.append hus).len
          obtain ⟨rk, ek⟩ := r.kill hq
          obtain ⟨hr, he⟩ := rk.alloc (w1 := w.drew) rfl rfl rfl rfl (q := ⟨w.heap.size, 0, cs2.size, u1⟩) (o := .cells (old ++ new) u1 true p) (ob := .cells cs2 u1 (0, 0)) rfl (by
            refine fresh_obj (fz := (0, 0)) ?_ ?_ (alloc_at w.drew _) (.inl (Nat.le_refl _)) (fun _ => rfl)
            · rw [hcsl, ← hnl, List.take_left']
              exact (holdc.append hus).mono (r.addLe _)
              rfl
            · rw [← hnl, List.length_append, hol, hul, hcsz', ← Nat.add_mul]; exact Nat.mul_le_mul_right _ (by omega))
          refine ⟨_, _, _, hrunB _ _ (by rw [hs]; exact hrun), ?_, hr, ek.trans he, Grow.add _ _ _⟩
          simp only [VR]
          refine ⟨⟨w.heap.size, 0, cs2.size, u1⟩, 0, nc, by simp [Phi.add], rfl, Nat.le_refl _, hge, fun _ => rfl, .inr ?_⟩
          rw [hcsz]
          show 0 + nc * sz ≤ cs2.size
          rw [hcsz']; omega

end GoVm

/- All operations of the virtual machine that write memory in one theorem. -/
namespace GoVm
open Go (Value World Addr Obj MapEntry Program Operand Oper Op IntKind BinOp Sem Result run_underlying)

variable {P : Program} {ρ : Nat → Int} {φ : Phi} {m : SlotMap} {e : Env} {stk : List V} {slots : T V} {a : Go.Act} {h : T O} {nx : Pos} {w : World}

theorem opW_sound (hE : ER P ρ m e φ stk slots a) (r : Rel P ρ φ h nx w) {o : Oper} {wi : WI} (hh : opI P m e o.op = some (.W wi)) {v : V} {h' : T O} {nx' : Pos} (hv : evW wi stk slots h nx = .ok v h' nx') : Does P ρ φ h a o w nx v h' nx' := by
  cases ho : o.op with
  | alloc t =>
    rw [ho] at hh
    obtain ⟨z, hz, hh⟩ := ob_bind hh
    cases hh
  | box t x =>
    rw [ho] at hh
    obtain ⟨l, hl, hh⟩ := ob_bind hh
    cases hh
  | buildSlice t n ps =>
    rw [ho] at hh
    obtain ⟨d, hd, hh⟩ := ob_bind hh
    cases d <;> try (cases hh; done)
    obtain ⟨s, hs, hh⟩ := ob_bind hh
    split at hh
    · cases hh
    · rename_i hsm
      obtain ⟨z, hz, hh⟩ := ob_bind hh
      obtain ⟨ls, hls, hh⟩ := ob_bind hh
      cases hh
  | load t x =>
    rw [ho] at hh
    obtain ⟨ag, hag, hh⟩ := ob_bind hh
    obtain ⟨n, hn, hh⟩ := ob_bind hh
    obtain ⟨l, hl, hh⟩ := ob_bind hh
    cases hh
  | lookup t x i ok =>
    rw [ho] at hh
    obtain ⟨d, hd, hh⟩ := ob_bind hh
    cases d <;> try (cases hh; done)
    obtain ⟨kd, hkd, hh⟩ := ob_bind hh
    obtain ⟨z, hz, hh⟩ := ob_bind hh
    obtain ⟨l, hl, hh⟩ := ob_bind hh
    obtain ⟨c, hc, hh⟩ := ob_bind hh
    cases hh
  | entry x => rw [ho] at hh; obtain ⟨l, hl, hh⟩ := ob_bind hh; cases hh
  | convert s d x =>
    rw [ho] at hh
    obtain ⟨ds, hds, hh⟩ := ob_bind hh
    obtain ⟨dd, hdd, hh⟩ := ob_bind hh
    cases ds <;> cases dd <;> try (cases hh; done)
    case int.int => obtain ⟨l, hl, hh⟩ := ob_bind hh; cases hh
    case string.string => obtain ⟨l, hl, hh⟩ := ob_bind hh; cases hh
    case string.slice el =>
      obtain ⟨de, hde, hh⟩ := ob_bind hh
      cases de <;> try (cases hh; done)
      rename_i k; cases k <;> try (cases hh; done)
      obtain ⟨l, hl, hh⟩ := ob_bind hh; obtain ⟨_, h1, hh⟩ := ob_bind hh; cases hh
      exact w_s2b hE r ho hds hdd hde (isOne_eq h1) hl hv
    case slice.string el =>
      obtain ⟨de, hde, hh⟩ := ob_bind hh
      cases de <;> try (cases hh; done)
      rename_i k; cases k <;> try (cases hh; done)
      obtain ⟨l, hl, hh⟩ := ob_bind hh; cases hh
  | slice t x lo hi mx =>
    rw [ho] at hh
    cases mx <;> try (cases hh; done)
    obtain ⟨llo, hlo, hh⟩ := ob_bind hh
    obtain ⟨lhi, hhi, hh⟩ := ob_bind hh
    obtain ⟨d, hd, hh⟩ := ob_bind hh
    cases d <;> try (cases hh; done)
    case string => obtain ⟨l, hl, hh⟩ := ob_bind hh; cases hh
    case slice el =>
      obtain ⟨n, hn, hh⟩ := ob_bind hh
      obtain ⟨l, hl, hh⟩ := ob_bind hh
      cases hh
  | binOp op t x y yt =>
    rw [ho] at hh
    simp only [opI, binI, Option.bind_eq_bind, Option.bind_eq_some_iff] at hh
    obtain ⟨lx, hx, ly, hy, d, hd, hh⟩ := hh
    have nilNo : ∀ kd, nilI kd op x y lx ly = some (.W wi) → False := by
      intro kd hk
      unfold nilI at hk
      split at hk <;> (try (cases hk; done)) <;> (repeat' split at hk) <;> cases hk
    cases d with
    | pointer el =>
      simp only [Option.bind_eq_some_iff] at hh
      obtain ⟨n, hn, hh⟩ := hh
      split at hh
      · cases hh
      · split at hh <;> cases hh
    | int k => simp only at hh; split at hh <;> cases hh
    | string => simp only at hh; split at hh <;> cases hh
    | bool => simp only at hh; split at hh <;> cases hh
    | interface ms => exact (nilNo _ hh).elim
    | slice el => exact (nilNo _ hh).elim
    | map k el => exact (nilNo _ hh).elim
    | func ps rs vr => exact (nilNo _ hh).elim
    | _ => cases hh
  | call c =>
    rw [ho] at hh
    obtain ⟨callee, args, ts⟩ := c
    cases callee with
    | value f => cases f <;> simp only [opI, callI, Option.bind_eq_bind, Option.bind_eq_some_iff, Option.pure_def, Option.some.injEq, reduceCtorEq, and_false, exists_false] at hh
    | invoke rr n => simp only [opI, callI, Option.bind_eq_bind, Option.bind_eq_some_iff, Option.pure_def, Option.some.injEq, reduceCtorEq, and_false, exists_false] at hh
    | builtin b =>
      simp only [opI, callI, Option.bind_eq_bind, Option.bind_eq_some_iff] at hh
      obtain ⟨as, has, hh⟩ := hh
      split at hh
      · simp only [Option.bind_eq_some_iff] at hh
        obtain ⟨d, ⟨t, ht, hd⟩, hh⟩ := hh
        cases d <;> simp only [Option.pure_def, Option.some.injEq, reduceCtorEq] at hh
      · simp only [Option.bind_eq_some_iff] at hh
        obtain ⟨d, ⟨t, ht, hd⟩, hh⟩ := hh
        cases d <;> try (cases hh; done)
        simp only [Option.bind_eq_some_iff] at hh
        obtain ⟨n, hn, bb, hbb, z, hz, d2, ⟨t2, ht2, hd2⟩, hh⟩ := hh
        obtain ⟨xs, ys, rfl, hx, hy⟩ := locsOf_two has
        cases d2 <;> (try (cases hh; done))
        case slice el2 =>
          simp only at hh
          split at hh
          · cases hh
            exact w_app hE r ho ht ht2 hd hd2 (by intro k h; cases h) hn hbb (by assumption) hz hx hy hv
          · cases hh
        case string =>
          simp only at hh
          split at hh
          · rename_i hc
            cases hh
            exact w_app hE r ho ht ht2 hd hd2 (by intro k h; cases h) hn hbb hc.1 hz hx hy hv
          · cases hh
      · simp only [Option.bind_eq_some_iff] at hh
        obtain ⟨d, ⟨t, ht, hd⟩, hh⟩ := hh
        cases d <;> cases hh
      · simp only [Option.bind_eq_some_iff] at hh
        obtain ⟨d, ⟨t, ht, hd⟩, hh⟩ := hh
        cases d <;> cases hh
      · cases hh
  | move x => rw [ho] at hh; obtain ⟨l, hl, hh⟩ := ob_bind hh; cases hh
  | assign x => rw [ho] at hh; obtain ⟨l, hl, hh⟩ := ob_bind hh; cases hh
  | pick c x y =>
    rw [ho] at hh
    obtain ⟨lc, hc, hh⟩ := ob_bind hh
    obtain ⟨lx, hx, hh⟩ := ob_bind hh
    obtain ⟨ly, hy, hh⟩ := ob_bind hh
    cases hh
  | build t ps =>
    rw [ho] at hh
    obtain ⟨z, hz, hh⟩ := ob_bind hh
    obtain ⟨d, hd, hh⟩ := ob_bind hh
    cases d <;> try (cases hh; done)
    case struct fs =>
      simp only at hh
      split at hh
      · cases hh
      · obtain ⟨ls, hls, hh⟩ := ob_bind hh
        cases hh
    case array n el =>
      obtain ⟨s, hs, hh⟩ := ob_bind hh
      obtain ⟨ls, hls, hh⟩ := ob_bind hh
      cases hh
  | nilCheck x => rw [ho] at hh; obtain ⟨l, hl, hh⟩ := ob_bind hh; cases hh
  | unOp op t x =>
    rw [ho] at hh
    cases op with
    | not => obtain ⟨l, hl, hh⟩ := ob_bind hh; cases hh
    | neg =>
      obtain ⟨d, hd, hh⟩ := ob_bind hh
      cases d <;> try (cases hh; done)
      obtain ⟨l, hl, hh⟩ := ob_bind hh; cases hh
    | _ => cases hh
  | makeInterface t x =>
    rw [ho] at hh
    obtain ⟨d, hd, hh⟩ := ob_bind hh
    cases d <;> first
      | (cases hh; done)
      | (obtain ⟨l, hl, hh⟩ := ob_bind hh; cases hh)
  | typeAssert x xt t ok =>
    rw [ho] at hh
    obtain ⟨d, hd, hh⟩ := ob_bind hh
    cases d <;> first
      | (cases hh; done)
      | (obtain ⟨z, hz, hh⟩ := ob_bind hh; obtain ⟨l, hl, hh⟩ := ob_bind hh; cases hh)
  | makeFunc f x y =>
    rw [ho] at hh
    cases f <;> try (cases hh; done)
    obtain ⟨lx, hx, hh⟩ := ob_bind hh
    obtain ⟨ly, hy, hh⟩ := ob_bind hh
    cases hh
  | fieldAddr t x f =>
    rw [ho] at hh
    obtain ⟨fd, hfd, hh⟩ := ob_bind hh
    obtain ⟨n, hn, hh⟩ := ob_bind hh
    split at hh
    · cases hh
    · obtain ⟨l, hl, hh⟩ := ob_bind hh
      cases hh
  | field t x f =>
    rw [ho] at hh
    obtain ⟨fd, hfd, hh⟩ := ob_bind hh
    obtain ⟨ag, hag, hh⟩ := ob_bind hh
    obtain ⟨n, hn, hh⟩ := ob_bind hh
    obtain ⟨l, hl, hh⟩ := ob_bind hh
    cases hh
  | indexAddr t x i =>
    rw [ho] at hh
    obtain ⟨d, hd, hh⟩ := ob_bind hh
    cases d <;> try (cases hh; done)
    all_goals
      obtain ⟨n, hn, hh⟩ := ob_bind hh
      obtain ⟨lx, hx, hh⟩ := ob_bind hh
      obtain ⟨li, hi, hh⟩ := ob_bind hh
      cases hh
  | index t x i =>
    rw [ho] at hh
    obtain ⟨d, hd, hh⟩ := ob_bind hh
    cases d <;> try (cases hh; done)
    case string =>
      obtain ⟨lx, hx, hh⟩ := ob_bind hh
      obtain ⟨li, hi, hh⟩ := ob_bind hh
      cases hh
    case array n el =>
      obtain ⟨ag, hag, hh⟩ := ob_bind hh
      obtain ⟨s, hs, hh⟩ := ob_bind hh
      split at hh
      · cases hh
      · obtain ⟨lx, hx, hh⟩ := ob_bind hh
        obtain ⟨li, hi, hh⟩ := ob_bind hh
        cases hh
  | extract x i => rw [ho] at hh; obtain ⟨l, hl, hh⟩ := ob_bind hh; cases hh
  | store t x y =>
    rw [ho] at hh
    obtain ⟨n, hn, hh⟩ := ob_bind hh
    obtain ⟨lx, hlx, hh⟩ := ob_bind hh
    obtain ⟨ly, hly, hh⟩ := ob_bind hh
    cases hh
    exact w_st hE r ho hn hlx hly hv
  | makeMap t rr =>
    rw [ho] at hh
    cases rr with
    | some x => cases hh
    | none => cases hh; exact w_mkm (stk := stk) (slots := slots) r ho hv
  | makeSlice t x y =>
    rw [ho] at hh
    obtain ⟨d, hd, hh⟩ := ob_bind hh
    cases d <;> try (cases hh; done)
    obtain ⟨b, hb, hh⟩ := ob_bind hh
    split at hh
    · cases hh
    · rename_i hb4
      obtain ⟨z, hz, hh⟩ := ob_bind hh
      split at hh
      · cases hh
      · obtain ⟨s, hs, hh⟩ := ob_bind hh
        obtain ⟨l, hl, hh⟩ := ob_bind hh
        obtain ⟨c, hc, hh⟩ := ob_bind hh
        cases hh
        exact w_mks hE r ho hd hb (by omega) hz hs hl hc hv
  | mapUpdate t x i y =>
    rw [ho] at hh
    obtain ⟨d, hd, hh⟩ := ob_bind hh
    cases d <;> try (cases hh; done)
    obtain ⟨kd, hkd, hh⟩ := ob_bind hh
    obtain ⟨lx, hx, hh⟩ := ob_bind hh
    obtain ⟨li, hi, hh⟩ := ob_bind hh
    obtain ⟨ly, hy, hh⟩ := ob_bind hh
    cases hh
    exact w_mu hE r ho hd hkd hx hi hy hv
  | range t x =>
    rw [ho] at hh
    obtain ⟨d, hd, hh⟩ := ob_bind hh
    cases d <;> try (cases hh; done)
    case string => obtain ⟨l, hl, hh⟩ := ob_bind hh; cases hh; exact w_rgs hE r ho hd hl hv
    case map => obtain ⟨l, hl, hh⟩ := ob_bind hh; cases hh; exact w_rgm hE r ho hd hl hv
  | next x b =>
    rw [ho] at hh
    cases b with
    | true => obtain ⟨l, hl, hh⟩ := ob_bind hh; cases hh; exact w_nxs hE r ho hl hv
    | false => obtain ⟨l, hl, hh⟩ := ob_bind hh; cases hh; exact w_nxm hE r ho hl hv
  | _ => rw [ho] at hh; cases hh

end GoVm

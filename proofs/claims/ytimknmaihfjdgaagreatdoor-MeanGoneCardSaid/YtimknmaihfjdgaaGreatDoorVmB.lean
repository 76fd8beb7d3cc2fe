/- Basic laws of the virtual machine's trees, numbers and texts. -/
import Derived.Test.YtimknmaihfjdgaaGreatDoorVmA
import Derived.Tactics
import Derived.Wp
import GoSem.Core.Program
namespace GoVm

/-! ## Trees -/
section
variable {α β : Type}

def T.put (x : α) : Pos → T α → T α
  | .h, .e => .n .e (some x) .e
  | .h, .n l _ r => .n l (some x) r
  | .o p, .e => .n (T.put x p .e) none .e
  | .o p, .n l v r => .n (T.put x p l) v r
  | .i p, .e => .n .e none (T.put x p .e)
  | .i p, .n l v r => .n l v (T.put x p r)

theorem T.setK_eq (x : α) (p : Pos) : ∀ (t : T α) (k : T α → β), T.setK x p t k = k (T.put x p t) := by
  induction p with
  | h => intro t k; cases t <;> rfl
  | o p ih =>
    intro t k
    cases t with
    | e => exact ih .e (fun l' => k (.n l' none .e))
    | n l v r => exact ih l (fun l' => k (.n l' v r))
  | i p ih =>
    intro t k
    cases t with
    | e => exact ih .e (fun l' => k (.n .e none l'))
    | n l v r => exact ih r (fun r' => k (.n l v r'))

theorem T.set_eq (x : α) (p : Pos) (t : T α) : T.set x p t = T.put x p t := T.setK_eq x p t _

theorem T.get_put_same (x : α) (p : Pos) : ∀ t : T α, (T.put x p t).get p = some x := by
  induction p with
  | h => intro t; cases t <;> rfl
  | o p ih => intro t; cases t with | e => exact ih .e | n l v r => exact ih l
  | i p ih => intro t; cases t with | e => exact ih .e | n l v r => exact ih r

theorem T.get_e (p : Pos) : T.get p (T.e : T α) = none := by cases p <;> rfl

theorem T.get_put_other (x : α) (p : Pos) : ∀ (q : Pos) (t : T α), q ≠ p → (T.put x p t).get q = t.get q := by
  induction p with
  | h =>
    intro q t hq
    cases q with
    | h => exact absurd rfl hq
    | o q => cases t with | e => exact T.get_e q | n l v r => rfl
    | i q => cases t with | e => exact T.get_e q | n l v r => rfl
  | o p ih =>
    intro q t hq
    cases q with
    | h => cases t <;> rfl
    | o q =>
      have hq' : q ≠ p := fun e => hq (e ▸ rfl)
      cases t with
      | e => exact (ih q .e hq').trans (T.get_e q)
      | n l v r => exact ih q l hq'
    | i q => cases t with | e => exact T.get_e q | n l v r => rfl
  | i p ih =>
    intro q t hq
    cases q with
    | h => cases t <;> rfl
    | i q =>
      have hq' : q ≠ p := fun e => hq (e ▸ rfl)
      cases t with
      | e => exact (ih q .e hq').trans (T.get_e q)
      | n l v r => exact ih q r hq'
    | o q => cases t with | e => exact T.get_e q | n l v r => rfl
end

/-! ## Keys in order -/
def Pos.num : Pos → Nat
  | .h => 1
  | .o p => 2 * p.num
  | .i p => 2 * p.num + 1

theorem Pos.num_pos (p : Pos) : 0 < p.num := by induction p <;> simp [Pos.num] <;> omega

theorem Pos.num_inj : ∀ p q : Pos, p.num = q.num → p = q := by
  intro p
  induction p with
  | h => intro q h; cases q with
    | h => rfl
    | o q => have := q.num_pos; simp only [Pos.num] at h; omega
    | i q => have := q.num_pos; simp only [Pos.num] at h; omega
  | o p ih => intro q h; cases q with
    | h => have := p.num_pos; simp only [Pos.num] at h; omega
    | o q => rw [ih q (by simp [Pos.num] at h; omega)]
    | i q => simp [Pos.num] at h; omega
  | i p ih => intro q h; cases q with
    | h => have := p.num_pos; simp [Pos.num] at h; omega
    | o q => simp [Pos.num] at h; omega
    | i q => rw [ih q (by simp [Pos.num] at h; omega)]

theorem Pos.num_succ (p : Pos) : p.succ.num = p.num + 1 := by
  induction p with
  | h => rfl
  | o p _ => rfl
  | i p ih => show 2 * p.succ.num = 2 * p.num + 1 + 1; omega

theorem Pos.succK_eq {β : Type} (p : Pos) : ∀ k : Pos → β, p.succK k = k p.succ := by
  induction p with
  | h => intro k; rfl
  | o p _ => intro k; rfl
  | i p ih => intro k; exact ih (fun q => k (.o q))

theorem Pos.num_ofNat (n : Nat) : (Pos.ofNat n).num = n + 1 := by
  induction n with
  | zero => rfl
  | succ n ih => show (Pos.ofNat n).succ.num = _; rw [Pos.num_succ, ih]

theorem Pos.beq_eq (p : Pos) : ∀ q, Pos.beq p q = true → p = q := by
  induction p with
  | h => intro q h; cases q <;> first | rfl | cases h
  | o p ih => intro q h; cases q with | o q => rw [ih q h] | h => cases h | i q => cases h
  | i p ih => intro q h; cases q with | i q => rw [ih q h] | h => cases h | o q => cases h

theorem Pos.beq_self (p : Pos) : Pos.beq p p = true := by induction p with | h => rfl | o p ih => exact ih | i p ih => exact ih

/-! ## Small parts -/
section
variable {α β : Type}
@[simp] theorem ob_some (x : α) (f : α → Option β) : ob (some x) f = f x := rfl
@[simp] theorem ob_none (f : α → Option β) : ob none f = none := rfl
theorem ob_eq {x : Option α} {f : α → Option β} {b : β} (h : ob x f = some b) : ∃ a, x = some a ∧ f a = some b := by
  cases x with | none => cases h | some a => exact ⟨a, rfl, h⟩
@[simp] theorem cnd_true (t f : β) : cnd true t f = t := rfl
@[simp] theorem cnd_false (t f : β) : cnd false t f = f := rfl
@[simp] theorem andB_eq (a b : Bool) : andB a b = (a && b) := by cases a <;> rfl
@[simp] theorem notB_eq (a : Bool) : notB a = !a := by cases a <;> rfl
@[simp] theorem xorB_eq (a b : Bool) : xorB a b = (a ^^ b) := by cases a <;> cases b <;> rfl
@[simp] theorem forceN_eq (m : Nat) (k : Nat → β) : forceN m k = k m := by cases m <;> rfl
@[simp] theorem forceI_eq (n : Int) (k : Int → β) : forceI n k = k n := by cases n <;> simp [forceI]
@[simp] theorem forceB_eq (b : Bool) (k : Bool → β) : forceB b k = k b := by cases b <;> rfl
@[simp] theorem wo_some (x : α) (f : α → WR) : wo (some x) f = f x := rfl
@[simp] theorem wo_none (f : α → WR) : wo none f = .no := rfl
theorem wo_eq {x : Option α} {f : α → WR} {v : V} {h : T O} {nx : Pos} (e : wo x f = .ok v h nx) : ∃ a, x = some a ∧ f a = .ok v h nx := by
  cases x with | none => cases e | some a => exact ⟨a, rfl, e⟩
theorem cnd_some {c : Bool} {t : Option β} {b : β} (h : cnd c t none = some b) : c = true ∧ t = some b := by
  cases c with | true => exact ⟨rfl, h⟩ | false => cases h
end

theorem mkI_eq (k : Go.IntKind) (n : Int) : mkI k n = some (.int k n) := by simp [mkI]
theorem mkB_eq (b : Bool) : mkB b = some (.bool b) := by simp [mkB]
theorem mkS_eq (n a : Nat) : mkS n a = some (.str n a) := by simp [mkS]
theorem mkP_eq (b : Pos) (o : Nat) : mkP b o = some (.ptr b o) := by simp [mkP]
theorem mkSl_eq (b : Pos) (o n c : Nat) : mkSl b o n c = some (.sl b o n c) := by simp [mkSl]

theorem beqK_eq {a b : Go.IntKind} : beqK a b = true ↔ a = b := by
  constructor
  · intro h; cases a <;> cases b <;> first | rfl | cases h
  · intro h; subst h; cases a <;> rfl

theorem eqI_eq {a b : Int} : eqI a b = true ↔ a = b := by
  cases a with
  | ofNat a => cases b with
    | ofNat b => show Nat.beq a b = true ↔ _; rw [Nat.beq_eq]; exact ⟨fun h => by rw [h], fun h => Int.ofNat.inj h⟩
    | negSucc b => constructor <;> intro h <;> cases h
  | negSucc a => cases b with
    | ofNat b => constructor <;> intro h <;> cases h
    | negSucc b => show Nat.beq a b = true ↔ _; rw [Nat.beq_eq]; exact ⟨fun h => by rw [h], fun h => Int.negSucc.inj h⟩

theorem eqI_decide (a b : Int) : eqI a b = decide (a = b) := by
  by_cases h : a = b
  · simp [h, eqI_eq.2]
  · have : eqI a b ≠ true := fun e => h (eqI_eq.1 e)
    simp [h, this]

theorem ltI_decide (a b : Int) : ltI a b = decide (a < b) := by
  cases a <;> cases b <;> simp [ltI, Nat.blt] <;> (try omega)
  all_goals (rw [Bool.eq_iff_iff]; simp; omega)

/-! ## Wrapping -/
theorem wrapS_eq (m : Nat) (h : Nat) (hm : m = 2 * h) (hp : 0 < h) (n : Int) :
    wrapS m h n = (if (n % (m : Int)) ≥ (h : Int) then n % (m : Int) - (m : Int) else n % (m : Int)) := by
  cases n with
  | ofNat a =>
    show cnd (Nat.blt a h) (Int.ofNat a) (cnd (Nat.blt (Nat.mod a m) h) (.ofNat (Nat.mod a m)) (.negSucc (Nat.sub (Nat.sub m 1) (Nat.mod a m)))) = _
    have hmod : (Int.ofNat a) % (m : Int) = ((a % m : Nat) : Int) := by simp
    rw [hmod]
    by_cases h1 : a < h
    · have e1 : Nat.blt a h = true := by simp [Nat.blt]; omega
      have e2 : a % m = a := Nat.mod_eq_of_lt (by omega)
      rw [e1, cnd_true, e2, if_neg (by omega)]; rfl
    · have e1 : Nat.blt a h = false := by rw [Bool.eq_false_iff]; simp [Nat.blt]; omega
      rw [e1, cnd_false]
      have hlt : a % m < m := Nat.mod_lt _ (by omega)
      by_cases h2 : a % m < h
      · have e2 : Nat.blt (Nat.mod a m) h = true := by show Nat.blt (a % m) h = true; simp [Nat.blt]; omega
        rw [e2, cnd_true, if_neg (by omega)]; rfl
      · have e2 : Nat.blt (Nat.mod a m) h = false := by show Nat.blt (a % m) h = false; rw [Bool.eq_false_iff]; simp [Nat.blt]; omega
        rw [e2, cnd_false, if_pos (by omega)]
        show Int.negSucc (m - 1 - a % m) = _
        omega
  | negSucc a =>
    show cnd (Nat.blt (Nat.mod a m) h) (Int.negSucc (Nat.mod a m)) (Int.ofNat (Nat.sub (Nat.sub m 1) (Nat.mod a m))) = _
    have hlt : a % m < m := Nat.mod_lt _ (by omega)
    have hmod : (Int.negSucc a) % (m : Int) = ((m - 1 - a % m : Nat) : Int) := by
      rw [Int.negSucc_emod _ (by omega)]
      have : ((a : Int) % (m : Int)) = ((a % m : Nat) : Int) := by simp
      rw [this]; omega
    rw [hmod]
    by_cases h2 : a % m < h
    · have e2 : Nat.blt (Nat.mod a m) h = true := by show Nat.blt (a % m) h = true; simp [Nat.blt]; omega
      rw [e2, cnd_true, if_pos (by omega)]
      show Int.negSucc (a % m) = _
      omega
    · have e2 : Nat.blt (Nat.mod a m) h = false := by show Nat.blt (a % m) h = false; rw [Bool.eq_false_iff]; simp [Nat.blt]; omega
      rw [e2, cnd_false, if_neg (by omega)]; rfl

theorem wrapU_eq (m : Nat) (hp : 0 < m) (n : Int) : wrapU m n = n % (m : Int) := by
  cases n with
  | ofNat a => show Int.ofNat (Nat.mod a m) = _; simp; rfl
  | negSucc a =>
    show Int.ofNat (Nat.sub (Nat.sub m 1) (Nat.mod a m)) = _
    have hlt : a % m < m := Nat.mod_lt _ hp
    rw [Int.negSucc_emod _ (by omega)]
    have : ((a : Int) % (m : Int)) = ((a % m : Nat) : Int) := by simp
    rw [this]
    show ((m - 1 - a % m : Nat) : Int) = _
    omega

theorem wrapK_eq (k : Go.IntKind) (n : Int) : wrapK k n = k.wrap n := by
  cases k
  · exact (wrapS_eq 256 128 rfl (by decide) n).trans (by simp [Go.IntKind.wrap, Go.IntKind.bits, Go.IntKind.signed])
  · exact (wrapS_eq 65536 32768 rfl (by decide) n).trans (by simp [Go.IntKind.wrap, Go.IntKind.bits, Go.IntKind.signed])
  · exact (wrapS_eq 4294967296 2147483648 rfl (by decide) n).trans (by simp [Go.IntKind.wrap, Go.IntKind.bits, Go.IntKind.signed])
  · exact (wrapS_eq 18446744073709551616 9223372036854775808 rfl (by decide) n).trans (by simp [Go.IntKind.wrap, Go.IntKind.bits, Go.IntKind.signed])
  · exact (wrapU_eq 256 (by decide) n).trans (by simp [Go.IntKind.wrap, Go.IntKind.bits, Go.IntKind.signed])
  · exact (wrapU_eq 65536 (by decide) n).trans (by simp [Go.IntKind.wrap, Go.IntKind.bits, Go.IntKind.signed])
  · exact (wrapU_eq 4294967296 (by decide) n).trans (by simp [Go.IntKind.wrap, Go.IntKind.bits, Go.IntKind.signed])
  · exact (wrapU_eq 18446744073709551616 (by decide) n).trans (by simp [Go.IntKind.wrap, Go.IntKind.bits, Go.IntKind.signed])

/-! ## Texts as numbers -/
def numL (l : List UInt8) : Nat := l.foldl (fun a b => a * 256 + b.toNat) 0

theorem numL_from (l : List UInt8) : ∀ a, l.foldl (fun a b => a * 256 + b.toNat) a = a * 256 ^ l.length + numL l := by
  induction l with
  | nil => intro a; simp [numL]
  | cons b l ih =>
    intro a
    simp only [List.foldl_cons, numL, List.length_cons]
    rw [ih, ih (0 * 256 + b.toNat)]
    rw [Nat.pow_succ]
    simp only [Nat.zero_mul, Nat.zero_add]
    rw [Nat.add_mul, Nat.mul_assoc, Nat.mul_comm 256, Nat.add_assoc]

theorem numL_append (l m : List UInt8) : numL (l ++ m) = numL l * 256 ^ m.length + numL m := by
  show (l ++ m).foldl _ 0 = _
  rw [List.foldl_append]; exact numL_from m _

theorem numL_lt (l : List UInt8) : numL l < 256 ^ l.length := by
  induction l with
  | nil => simp [numL]
  | cons b l ih =>
    have h : numL (b :: l) = b.toNat * 256 ^ l.length + numL l := by
      have := numL_append [b] l; simpa [numL] using this
    have hb : b.toNat < 256 := b.toNat_lt
    rw [h, List.length_cons, Nat.pow_succ]
    have : b.toNat * 256 ^ l.length + 256 ^ l.length ≤ 256 ^ l.length * 256 := by
      have : (b.toNat + 1) * 256 ^ l.length ≤ 256 * 256 ^ l.length := Nat.mul_le_mul_right _ (by omega)
      rw [Nat.add_mul, Nat.one_mul] at this
      rw [Nat.mul_comm (256 ^ l.length) 256]; exact this
    omega

theorem numL_cons (b : UInt8) (l : List UInt8) : numL (b :: l) = b.toNat * 256 ^ l.length + numL l := by
  have := numL_append [b] l; simpa [numL] using this

theorem numL_inj : ∀ l m : List UInt8, l.length = m.length → numL l = numL m → l = m := by
  intro l
  induction l with
  | nil => intro m h _; cases m with | nil => rfl | cons _ _ => simp at h
  | cons b l ih =>
    intro m h e
    cases m with
    | nil => simp at h
    | cons c m =>
      simp only [List.length_cons, Nat.add_right_cancel_iff] at h
      rw [numL_cons, numL_cons, h] at e
      have h1 := numL_lt l
      have h2 := numL_lt m
      rw [h] at h1
      have hp : 0 < 256 ^ m.length := Nat.pow_pos (by decide)
      have hb : b.toNat = c.toNat := by
        have a1 : (b.toNat * 256 ^ m.length + numL l) / 256 ^ m.length = b.toNat := by
          rw [Nat.mul_comm, Nat.mul_add_div hp, Nat.div_eq_of_lt h1]; rfl
        have a2 : (c.toNat * 256 ^ m.length + numL m) / 256 ^ m.length = c.toNat := by
          rw [Nat.mul_comm, Nat.mul_add_div hp, Nat.div_eq_of_lt h2]; rfl
        rw [← a1, ← a2, e]
      have hbc : b = c := UInt8.toNat_inj.1 hb
      subst hbc
      rw [ih m h (by omega)]

theorem pow8 (k : Nat) : 2 ^ (8 * k) = 256 ^ k := by rw [Nat.pow_mul]

theorem byteAt_eq (l : List UInt8) (i : Nat) (h : i < l.length) : byteAt l.length (numL l) i = (l[i]).toNat := by
  have hs : l = l.take i ++ (l[i] :: l.drop (i + 1)) := by
    have e1 : l[i] :: l.drop (i + 1) = l.drop i := List.getElem_cons_drop h
    exact (List.take_append_drop i l).symm.trans (by rw [e1])
  have hd : (l.drop (i + 1)).length = l.length - 1 - i := by simp; omega
  have hn : numL l = (numL (l.take i) * 256 + l[i].toNat) * 256 ^ (l.length - 1 - i) + numL (l.drop (i + 1)) := by
    have e2 := congrArg numL hs
    rw [numL_append, numL_cons, List.length_cons, hd, Nat.pow_succ] at e2
    rw [e2, Nat.add_mul, Nat.mul_comm (256 ^ _) 256, ← Nat.mul_assoc, Nat.add_assoc]
  have hlt : numL (l.drop (i + 1)) < 256 ^ (l.length - 1 - i) := by have := numL_lt (l.drop (i + 1)); rwa [hd] at this
  have hp : 0 < 256 ^ (l.length - 1 - i) := Nat.pow_pos (by decide)
  unfold byteAt
  show Nat.land (numL l >>> (8 * (l.length - 1 - i))) 255 = _
  rw [Nat.shiftRight_eq_div_pow, pow8]
  have hdiv : numL l / 256 ^ (l.length - 1 - i) = numL (l.take i) * 256 + l[i].toNat := by
    generalize 256 ^ (l.length - 1 - i) = w at hn hlt hp ⊢
    generalize numL (l.take i) * 256 + l[i].toNat = q at hn ⊢
    rw [hn, Nat.mul_comm q w, Nat.mul_add_div hp, Nat.div_eq_of_lt hlt]; rfl
  rw [hdiv]
  generalize numL (l.take i) = q
  have hb := l[i].toNat_lt
  generalize l[i].toNat = b at hb
  have h255 : (q * 256 + b) &&& (2 ^ 8 - 1) = (q * 256 + b) % 2 ^ 8 := Nat.and_two_pow_sub_one_eq_mod _ 8
  refine h255.trans ?_
  omega

theorem subStr_eq (s : List UInt8) (l h : Nat) (h1 : l ≤ h) (h2 : h ≤ s.length) : subStr s.length (numL s) l h = numL ((s.take h).drop l) := by
  have e1 : s = s.take l ++ ((s.take h).drop l ++ s.drop h) := by
    have : (s.take h) = s.take l ++ (s.take h).drop l := by
      have := (List.take_append_drop l (s.take h)).symm
      rwa [List.take_take, Nat.min_eq_left h1] at this
    conv => lhs; rw [← List.take_append_drop h s, this, List.append_assoc]
  have l1 : ((s.take h).drop l).length = h - l := by simp; omega
  have l2 : (s.drop h).length = s.length - h := by simp
  have hn : numL s = (numL (s.take l) * 256 ^ (h - l) + numL ((s.take h).drop l)) * 256 ^ (s.length - h) + numL (s.drop h) := by
    have e2 := congrArg numL e1
    rw [numL_append, numL_append, List.length_append, l1, l2, Nat.pow_add] at e2
    rw [e2, Nat.add_mul, Nat.mul_assoc, Nat.add_assoc]
  have hlt : numL (s.drop h) < 256 ^ (s.length - h) := by have := numL_lt (s.drop h); rwa [l2] at this
  have hp : 0 < 256 ^ (s.length - h) := Nat.pow_pos (by decide)
  unfold subStr
  show (numL s >>> (8 * (s.length - h))) % 2 ^ (8 * (h - l)) = _
  rw [Nat.shiftRight_eq_div_pow, pow8, pow8]
  have hdiv : numL s / 256 ^ (s.length - h) = numL (s.take l) * 256 ^ (h - l) + numL ((s.take h).drop l) := by
    generalize 256 ^ (s.length - h) = w at hn hlt hp ⊢
    generalize numL (s.take l) * 256 ^ (h - l) + numL ((s.take h).drop l) = q at hn ⊢
    rw [hn, Nat.mul_comm q w, Nat.mul_add_div hp, Nat.div_eq_of_lt hlt]; rfl
  rw [hdiv, Nat.mul_comm, Nat.mul_add_mod]
  have := numL_lt ((s.take h).drop l)
  rw [l1] at this
  exact Nat.mod_eq_of_lt this

/-- A text and its number. -/
def StrOk (n a : Nat) (s : ByteArray) : Prop := s.data.toList.length = n ∧ numL s.data.toList = a

theorem StrOk.inj {n a m b : Nat} {s t : ByteArray} (h : StrOk n a s) (g : StrOk m b t) (e : n = m) (f : a = b) : s = t := by
  obtain ⟨h1, h2⟩ := h
  obtain ⟨g1, g2⟩ := g
  have := numL_inj s.data.toList t.data.toList (h1.trans (e.trans g1.symm)) (h2.trans (f.trans g2.symm))
  cases s; cases t; simp at this; rw [this]

end GoVm

/- How the virtual machine's values and memory stand for the model's. -/
namespace GoVm
open Go (Value World Addr Obj MapEntry Program)

/-- Where a block of the machine lies: the model's block, the first cell, how many cells the model's block has, its type. -/
structure Blk where
  B : Nat
  d : Nat
  C : Nat
  t : Nat

abbrev Phi := Pos → Option Blk

section
variable (P : Program) (ρ : Nat → Int)

mutual
def VR (φ : Phi) : V → Value → Prop
  | .bool b, c => c = .bool b
  | .int k n, c => c = .int k n
  | .sym k v m a, c => c = .int k (k.wrap (m * ρ v + a))
  | .str n a, c => ∃ s, c = .string s ∧ StrOk n a s
  | .nilp, c => c = .pointer none
  | .ptr b o, c => ∃ q, φ b = some q ∧ c = .pointer (some ⟨q.B, q.d + o, none⟩)
  | .nils, c => c = .slice none 0 0
  | .sl b o n k, c => ∃ q o' k', φ b = some q ∧ c = .slice (some ⟨q.B, o', none⟩) n k' ∧ n ≤ k ∧ k ≤ k' ∧ (0 < k → o' = q.d + o) ∧ (k' = k ∨ o' + k' * P.cellsOf q.t ≤ q.C)
  | .nilm, c => c = .map none
  | .map b, c => ∃ q, φ b = some q ∧ c = .map (some q.B)
  | .nilf, c => c = .nilFunc
  | .fn f a d, c => ∃ x y, c = .func (.func f) x y ∧ VRs φ a x.toList ∧ VRs φ d y.toList
  | .nili, c => c = .nilIface
  | .ifc t v, c => ∃ x, c = .iface t x ∧ VR φ v x
  | .agg cs, c => ∃ x, c = .agg x ∧ VRs φ cs x.toList ∧ ∀ y ∈ x.toList, y.oneCell = true
  | .tup vs, c => ∃ x, c = .tuple x ∧ VRs φ vs x.toList
def VRs (φ : Phi) : List V → List Value → Prop
  | [], l => l = []
  | v :: vs, l => ∃ c cs, l = c :: cs ∧ VR φ v c ∧ VRs φ vs cs
end

/-- Cells: each of one cell. -/
def VRc (φ : Phi) (vs : List V) (cs : List Value) : Prop := VRs P ρ φ vs cs ∧ ∀ y ∈ cs, y.oneCell = true

def PhiLe (φ φ' : Phi) : Prop := ∀ a q, φ a = some q → φ' a = some q

theorem PhiLe.refl (φ : Phi) : PhiLe φ φ := fun _ _ h => h
theorem PhiLe.trans {φ φ' φ'' : Phi} (h : PhiLe φ φ') (g : PhiLe φ' φ'') : PhiLe φ φ'' := fun a q e => g a q (h a q e)

variable {P ρ}

mutual
theorem VR.mono {φ φ' : Phi} (hφ : PhiLe φ φ') : ∀ (v : V) (c : Value), VR P ρ φ v c → VR P ρ φ' v c
  | .bool b, c, h => by simpa [VR] using h
  | .int k n, c, h => by simpa [VR] using h
  | .sym k v m a, c, h => by simpa [VR] using h
  | .str n a, c, h => by simpa [VR] using h
  | .nilp, c, h => by simpa [VR] using h
  | .ptr b o, c, h => by
    simp only [VR] at h ⊢
    obtain ⟨q, hq, e⟩ := h; exact ⟨q, hφ _ _ hq, e⟩
  | .nils, c, h => by simpa [VR] using h
  | .sl b o n k, c, h => by
    simp only [VR] at h ⊢
    obtain ⟨q, o', k', hq, e⟩ := h; exact ⟨q, o', k', hφ _ _ hq, e⟩
  | .nilm, c, h => by simpa [VR] using h
  | .map b, c, h => by
    simp only [VR] at h ⊢
    obtain ⟨q, hq, e⟩ := h; exact ⟨q, hφ _ _ hq, e⟩
  | .nilf, c, h => by simpa [VR] using h
  | .fn f a d, c, h => by
    simp only [VR] at h ⊢
    obtain ⟨x, y, e, h1, h2⟩ := h
    exact ⟨x, y, e, VRs.mono hφ a _ h1, VRs.mono hφ d _ h2⟩
  | .nili, c, h => by simpa [VR] using h
  | .ifc t v, c, h => by
    simp only [VR] at h ⊢
    obtain ⟨x, e, h1⟩ := h; exact ⟨x, e, VR.mono hφ v _ h1⟩
  | .agg cs, c, h => by
    simp only [VR] at h ⊢
    obtain ⟨x, e, h1, h2⟩ := h; exact ⟨x, e, VRs.mono hφ cs _ h1, h2⟩
  | .tup vs, c, h => by
    simp only [VR] at h ⊢
    obtain ⟨x, e, h1⟩ := h; exact ⟨x, e, VRs.mono hφ vs _ h1⟩
theorem VRs.mono {φ φ' : Phi} (hφ : PhiLe φ φ') : ∀ (vs : List V) (cs : List Value), VRs P ρ φ vs cs → VRs P ρ φ' vs cs
  | [], cs, h => by simpa [VRs] using h
  | v :: vs, cs, h => by
    simp only [VRs] at h ⊢
    obtain ⟨c, cs', e, h1, h2⟩ := h
    exact ⟨c, cs', e, VR.mono hφ v c h1, VRs.mono hφ vs cs' h2⟩
end

theorem VRs.nil {φ : Phi} : VRs P ρ φ [] [] := by simp [VRs]
theorem VRs.cons {φ : Phi} {v : V} {c : Value} {vs : List V} {cs : List Value} (h : VR P ρ φ v c) (g : VRs P ρ φ vs cs) : VRs P ρ φ (v :: vs) (c :: cs) := by
  simp only [VRs]; exact ⟨c, cs, rfl, h, g⟩
theorem VRs.len {φ : Phi} : ∀ {vs : List V} {cs : List Value}, VRs P ρ φ vs cs → cs.length = vs.length
  | [], cs, h => by simp only [VRs] at h; subst h; rfl
  | v :: vs, cs, h => by
    simp only [VRs] at h
    obtain ⟨c, cs', rfl, _, h2⟩ := h
    simp [VRs.len h2]
theorem VRs.append {φ : Phi} : ∀ {vs : List V} {cs : List Value} {us : List V} {ds : List Value}, VRs P ρ φ vs cs → VRs P ρ φ us ds → VRs P ρ φ (vs ++ us) (cs ++ ds)
  | [], cs, us, ds, h, g => by simp only [VRs] at h; subst h; exact g
  | v :: vs, cs, us, ds, h, g => by
    simp only [VRs] at h
    obtain ⟨c, cs', rfl, h1, h2⟩ := h
    exact VRs.cons h1 (VRs.append h2 g)
theorem VRs.get {φ : Phi} : ∀ {vs : List V} {cs : List Value}, VRs P ρ φ vs cs → ∀ (i : Nat) (v : V), vs[i]? = some v → ∃ c, cs[i]? = some c ∧ VR P ρ φ v c
  | [], cs, h, i, v, e => by simp at e
  | u :: vs, cs, h, i, v, e => by
    simp only [VRs] at h
    obtain ⟨c, cs', rfl, h1, h2⟩ := h
    cases i with
    | zero => simp at e; subst e; exact ⟨c, rfl, h1⟩
    | succ i => simp at e; obtain ⟨d, e1, e2⟩ := VRs.get h2 i v e; exact ⟨d, by simpa using e1, e2⟩
theorem VRs.of_get {φ : Phi} : ∀ {vs : List V} {cs : List Value}, cs.length = vs.length → (∀ (i : Nat) (v : V), vs[i]? = some v → ∃ c, cs[i]? = some c ∧ VR P ρ φ v c) → VRs P ρ φ vs cs
  | [], cs, h, g => by
    have : cs = [] := by simpa using h
    subst this; exact VRs.nil
  | u :: vs, cs, h, g => by
    cases cs with
    | nil => simp at h
    | cons c cs =>
      obtain ⟨c', e, h1⟩ := g 0 u rfl
      simp at e; subst e
      refine VRs.cons h1 (VRs.of_get (by simpa using h) (fun i v hv => ?_))
      obtain ⟨c'', e, h2⟩ := g (i + 1) v (by simpa using hv)
      exact ⟨c'', by simpa using e, h2⟩
theorem VRs.take {φ : Phi} {vs : List V} {cs : List Value} (h : VRs P ρ φ vs cs) (n : Nat) : VRs P ρ φ (vs.take n) (cs.take n) := by
  refine VRs.of_get (by simp [h.len]) (fun i v hv => ?_)
  rw [List.getElem?_take] at hv
  split at hv
  · rename_i hi
    obtain ⟨c, e, h1⟩ := h.get i v hv
    exact ⟨c, by rw [List.getElem?_take, if_pos hi]; exact e, h1⟩
  · cases hv
theorem VRs.drop {φ : Phi} {vs : List V} {cs : List Value} (h : VRs P ρ φ vs cs) (n : Nat) : VRs P ρ φ (vs.drop n) (cs.drop n) := by
  refine VRs.of_get (by simp [h.len]) (fun i v hv => ?_)
  rw [List.getElem?_drop] at hv
  obtain ⟨c, e, h1⟩ := h.get _ v hv
  exact ⟨c, by rw [List.getElem?_drop]; exact e, h1⟩

theorem VRc.nil {φ : Phi} : VRc P ρ φ [] [] := ⟨VRs.nil, by simp⟩
theorem VRc.mono {φ φ' : Phi} (hφ : PhiLe φ φ') {vs : List V} {cs : List Value} (h : VRc P ρ φ vs cs) : VRc P ρ φ' vs cs := ⟨h.1.mono hφ, h.2⟩
theorem VRc.len {φ : Phi} {vs : List V} {cs : List Value} (h : VRc P ρ φ vs cs) : cs.length = vs.length := h.1.len
theorem VRc.append {φ : Phi} {vs : List V} {cs : List Value} {us : List V} {ds : List Value} (h : VRc P ρ φ vs cs) (g : VRc P ρ φ us ds) : VRc P ρ φ (vs ++ us) (cs ++ ds) :=
  ⟨h.1.append g.1, fun y hy => (List.mem_append.1 hy).elim (h.2 y) (g.2 y)⟩
theorem VRc.take {φ : Phi} {vs : List V} {cs : List Value} (h : VRc P ρ φ vs cs) (n : Nat) : VRc P ρ φ (vs.take n) (cs.take n) :=
  ⟨h.1.take n, fun y hy => h.2 y (List.mem_of_mem_take hy)⟩
theorem VRc.drop {φ : Phi} {vs : List V} {cs : List Value} (h : VRc P ρ φ vs cs) (n : Nat) : VRc P ρ φ (vs.drop n) (cs.drop n) :=
  ⟨h.1.drop n, fun y hy => h.2 y (List.mem_of_mem_drop hy)⟩

/-- The cells of a value. -/
theorem VR.cells {φ : Phi} {v : V} {c : Value} (h : VR P ρ φ v c) {l : List V} (e : asCells v = some l) : VRc P ρ φ l c.cells.toList := by
  cases v with
  | agg cs =>
    simp only [VR] at h
    obtain ⟨x, rfl, h1, h2⟩ := h
    cases e
    exact ⟨h1, h2⟩
  | tup vs => cases e
  | _ =>
    cases e
    have hc : c.cells = #[c] ∧ c.oneCell = true := by
      simp only [VR] at h
      first
        | (subst h; exact ⟨rfl, rfl⟩)
        | (obtain ⟨_, _, _, _, e, _⟩ := h; rw [e]; exact ⟨rfl, rfl⟩)
        | (obtain ⟨_, _, e, _, _⟩ := h; rw [e]; exact ⟨rfl, rfl⟩)
        | (obtain ⟨_, _, e⟩ := h; rw [e]; exact ⟨rfl, rfl⟩)
        | (obtain ⟨_, e, _⟩ := h; rw [e]; exact ⟨rfl, rfl⟩)
    rw [hc.1]
    exact ⟨VRs.cons h VRs.nil, by simp [hc.2]⟩

/-- A value of one cell, out of memory. -/
theorem VR.not_agg {φ : Phi} {v : V} {c : Value} (h : VR P ρ φ v c) (g : c.oneCell = true) : asCells v = some [v] := by
  cases v with
  | agg cs => simp only [VR] at h; obtain ⟨x, rfl, _⟩ := h; cases g
  | tup vs => simp only [VR] at h; obtain ⟨x, rfl, _⟩ := h; cases g
  | _ => rfl

/-! ## Memory -/

def O.wr : O → Bool
  | .cells _ _ w _ => w
  | .map _ | .siter .. | .miter .. => true
  | .dead => false

variable (P ρ)

/-- What the entries of a map stand for. -/
def EntR (φ : Phi) : List (V × V) → List MapEntry → Prop
  | [], l => l = []
  | e :: es, l => ∃ x xs, l = x :: xs ∧ VR P ρ φ e.1 x.key ∧ VR P ρ φ e.2 x.val ∧ EntR φ es xs

def ObjR (φ : Phi) (w : World) (q : Blk) : O → Prop
  | .cells cs t wr pl => t = q.t ∧ ∃ c fz, w.heap[q.B]? = some (.cells c t fz) ∧ c.size = q.C ∧ VRc P ρ φ cs ((c.toList.drop q.d).take cs.length) ∧ q.d + cs.length ≤ q.C ∧
      (wr = true → fz.2 ≤ fz.1 ∨ q.C ≤ fz.1) ∧ (pl = true → fz = (0, 0))
  | .map es => ∃ xs, w.heap[q.B]? = some (.map xs es.length) ∧ EntR P ρ φ es xs.toList ∧ ∀ (i : Nat) (x : MapEntry), xs[i]? = some x → x.born = i
  | .siter n a p => q.d = 0 ∧ ∃ s, w.heap[q.B]? = some (.stringIter s p) ∧ StrOk n a s
  | .miter none _ _ => q.d = 0 ∧ w.heap[q.B]? = some (.mapIter none 0 #[] 0)
  | .miter (some m) n seen => q.d = 0 ∧ ∃ qm sn last, φ m = some qm ∧ w.heap[q.B]? = some (.mapIter (some qm.B) n sn last) ∧ ((seen = 0 ∧ sn = #[]) ∨ (seen = 1 ∧ sn = #[0] ∧ last = 1))
  | .dead => True

structure Rel (φ : Phi) (h : T O) (nx : Pos) (w : World) : Prop where
  obj : ∀ a q, φ a = some q → ∃ o, h.get a = some o ∧ ObjR P ρ φ w q o
  low : ∀ a q, φ a = some q → a.num < nx.num
  bnd : ∀ a q, φ a = some q → q.B < w.heap.size
  inj : ∀ a b q r oa ob, φ a = some q → φ b = some r → h.get a = some oa → h.get b = some ob → oa ≠ .dead → ob ≠ .dead → oa.wr = true → q.B = r.B → a = b

/-- What a piece of a run leaves as it was. -/
structure Ext (h : T O) (φ : Phi) (w : World) (h' : T O) (φ' : Phi) (w' : World) : Prop where
  le : PhiLe φ φ'
  size : w.heap.size ≤ w'.heap.size
  keep : ∀ B, B < w.heap.size → (∀ a q o, φ a = some q → h.get a = some o → o.wr = true → q.B ≠ B) → w'.heap[B]? = w.heap[B]?
  wr : ∀ a q o', φ a = some q → h'.get a = some o' → o'.wr = true → ∃ o, h.get a = some o ∧ o.wr = true
  new : ∀ a q, φ' a = some q → φ a = none → w.heap.size ≤ q.B ∨ ∃ b r o, φ b = some r ∧ h.get b = some o ∧ o.wr = true ∧ r.B = q.B
  tape : w'.tape = w.tape
  os : w'.os = w.os
  output : w'.output = w.output
end

theorem Ext.refl (h : T O) (φ : Phi) (w : World) : Ext h φ w h φ w :=
  ⟨.refl φ, Nat.le_refl _, fun _ _ _ => rfl, fun a q o' _ h1 h2 => ⟨o', h1, h2⟩, (fun a q h1 h2 => by rw [h1] at h2; cases h2), rfl, rfl, rfl⟩

theorem Ext.trans {h h' h'' : T O} {φ φ' φ'' : Phi} {w w' w'' : World} (e : Ext h φ w h' φ' w') (f : Ext h' φ' w' h'' φ'' w'') : Ext h φ w h'' φ'' w'' where
  le := e.le.trans f.le
  size := Nat.le_trans e.size f.size
  keep B hB hno := by
    rw [f.keep B (Nat.lt_of_lt_of_le hB e.size) ?_, e.keep B hB hno]
    intro a q o' hq ho hw hB'
    cases hφ : φ a with
    | some q0 =>
      have := e.le a q0 hφ
      rw [hq] at this; cases this
      obtain ⟨o, h1, h2⟩ := e.wr a q o' hφ ho hw
      exact hno a q o hφ h1 h2 hB'
    | none =>
      rcases e.new a q hq hφ with h1 | ⟨b, r, o, h1, h2, h3, h4⟩
      · omega
      · exact hno b r o h1 h2 h3 (h4.trans hB')
  wr a q o' hq ho hw := by
    obtain ⟨o1, h1, h2⟩ := f.wr a q o' (e.le a q hq) ho hw
    exact e.wr a q o1 hq h1 h2
  new a q hq hn := by
    cases hφ : φ' a with
    | some q0 =>
      have := f.le a q0 hφ
      rw [hq] at this; cases this
      exact e.new a q hφ hn
    | none =>
      rcases f.new a q hq hφ with h1 | ⟨b, r, o, h1, h2, h3, h4⟩
      · exact .inl (Nat.le_trans e.size h1)
      · cases hb : φ b with
        | some r0 =>
          have := e.le b r0 hb
          rw [h1] at this; cases this
          obtain ⟨o', h5, h6⟩ := e.wr b r o hb h2 h3
          exact .inr ⟨b, r, o', hb, h5, h6, h4⟩
        | none =>
          rcases e.new b r h1 hb with h5 | ⟨b', r', o', h5, h6, h7, h8⟩
          · exact .inl (by omega)
          · exact .inr ⟨b', r', o', h5, h6, h7, h8.trans h4⟩
  tape := f.tape.trans e.tape
  os := f.os.trans e.os
  output := f.output.trans e.output

section
variable {P : Program} {ρ : Nat → Int}

theorem EntR.mono {φ φ' : Phi} (hφ : PhiLe φ φ') : ∀ {es : List (V × V)} {xs : List MapEntry}, EntR P ρ φ es xs → EntR P ρ φ' es xs
  | [], xs, h => h
  | e :: es, xs, h => by
    obtain ⟨x, xs', e1, h1, h2, h3⟩ := h
    exact ⟨x, xs', e1, h1.mono hφ, h2.mono hφ, EntR.mono hφ h3⟩

theorem EntR.len {φ : Phi} : ∀ {es : List (V × V)} {xs : List MapEntry}, EntR P ρ φ es xs → xs.length = es.length
  | [], xs, h => by have : xs = [] := h; subst this; rfl
  | e :: es, xs, h => by
    obtain ⟨x, xs', rfl, _, _, h3⟩ := h
    simp [EntR.len h3]

theorem EntR.snoc {φ : Phi} {k v : V} {x : MapEntry} (hk : VR P ρ φ k x.key) (hv : VR P ρ φ v x.val) : ∀ {es : List (V × V)} {xs : List MapEntry}, EntR P ρ φ es xs → EntR P ρ φ (es ++ [(k, v)]) (xs ++ [x])
  | [], xs, h => by have : xs = [] := h; subst this; exact ⟨x, [], rfl, hk, hv, rfl⟩
  | e :: es, xs, h => by
    obtain ⟨y, xs', rfl, h1, h2, h3⟩ := h
    exact ⟨y, xs' ++ [x], rfl, h1, h2, EntR.snoc hk hv h3⟩

/-- What an object stands for hangs on its own block alone. -/
theorem ObjR.mono {φ φ' : Phi} (hφ : PhiLe φ φ') {w w' : World} {q : Blk} (hw : w'.heap[q.B]? = w.heap[q.B]?) : ∀ {o : O}, ObjR P ρ φ w q o → ObjR P ρ φ' w' q o
  | .cells cs t wr pl, h => by
    obtain ⟨h1, c, fz, h2, h3, h4, h5, h6, h7⟩ := h
    exact ⟨h1, c, fz, hw.trans h2, h3, h4.mono hφ, h5, h6, h7⟩
  | .map es, h => by
    obtain ⟨xs, h1, h2, h3⟩ := h
    exact ⟨xs, hw.trans h1, h2.mono hφ, h3⟩
  | .siter n a p, h => by
    obtain ⟨h0, s, h1, h2⟩ := h
    exact ⟨h0, s, hw.trans h1, h2⟩
  | .miter none _ _, h => ⟨h.1, hw.trans h.2⟩
  | .miter (some m) n seen, h => by
    obtain ⟨h0, qm, sn, last, h1, h2, h3⟩ := h
    exact ⟨h0, qm, sn, last, hφ _ _ h1, hw.trans h2, h3⟩
  | .dead, _ => trivial

theorem ObjR.lt {φ : Phi} {w : World} {q : Blk} {o : O} (h : ObjR P ρ φ w q o) (hd : o ≠ .dead) : q.B < w.heap.size := by
  have key : ∀ x, w.heap[q.B]? = some x → q.B < w.heap.size := fun x hx => (Array.getElem?_eq_some_iff.1 hx).1
  cases o with
  | cells cs t wr pl => obtain ⟨_, c, fz, h2, _⟩ := h; exact key _ h2
  | map es => obtain ⟨xs, h1, _⟩ := h; exact key _ h1
  | siter n a p => obtain ⟨_, s, h1, _⟩ := h; exact key _ h1
  | miter m n seen =>
    cases m with
    | none => exact key _ h.2
    | some m => obtain ⟨_, _, _, _, _, h2, _⟩ := h; exact key _ h2
  | dead => exact absurd rfl hd

theorem O.wr_ne {o : O} (h : o.wr = true) : o ≠ .dead := fun e => by subst e; cases h

/-- One more block. -/
def Phi.add (φ : Phi) (a : Pos) (q : Blk) : Phi := fun b => if b = a then some q else φ b

theorem Rel.fresh {φ : Phi} {h : T O} {nx : Pos} {w : World} (r : Rel P ρ φ h nx w) : φ nx = none := by
  cases e : φ nx with
  | none => rfl
  | some q => have := r.low nx q e; omega

theorem Rel.addLe {φ : Phi} {h : T O} {nx : Pos} {w : World} (r : Rel P ρ φ h nx w) (q : Blk) : PhiLe φ (φ.add nx q) := by
  intro a q' ha
  unfold Phi.add
  split
  · rename_i e; subst e; rw [r.fresh] at ha; cases ha
  · exact ha

theorem Rel.new {φ : Phi} {h : T O} {nx : Pos} {w w' : World} (r : Rel P ρ φ h nx w) {q : Blk} {o : O} (hB : q.B = w.heap.size) (hs : w'.heap.size = w.heap.size + 1)
    (hk : ∀ B, B < w.heap.size → w'.heap[B]? = w.heap[B]?) (ho : ObjR P ρ (φ.add nx q) w' q o) : Rel P ρ (φ.add nx q) (h.put o nx) nx.succ w' where
  obj a q' ha := by
    unfold Phi.add at ha
    split at ha
    · rename_i e; subst e; cases ha
      exact ⟨o, T.get_put_same o a h, ho⟩
    · rename_i hne
      obtain ⟨o', h1, h2⟩ := r.obj a q' ha
      refine ⟨o', by rw [T.get_put_other o nx a h hne]; exact h1, ?_⟩
      by_cases hd : o' = .dead
      · subst hd; trivial
      · exact h2.mono (r.addLe q) (hk _ (h2.lt hd))
  low a q' ha := by
    rw [Pos.num_succ]
    unfold Phi.add at ha
    split at ha
    · rename_i e; subst e; omega
    · have := r.low a q' ha; omega
  bnd a q' ha := by
    unfold Phi.add at ha
    split at ha
    · cases ha; omega
    · have := r.bnd a q' ha; omega
  inj a b q1 q2 oa ob ha hb hoa hob hda hdb hw he := by
    unfold Phi.add at ha hb
    split at ha <;> split at hb
    · rename_i e1 e2; rw [e1, e2]
    · rename_i e1 e2
      cases ha
      rw [T.get_put_other o nx b h e2] at hob
      obtain ⟨o', h1, h2⟩ := r.obj b q2 hb
      rw [hob] at h1; cases h1
      have := h2.lt hdb
      omega
    · rename_i e1 e2
      cases hb
      rw [T.get_put_other o nx a h e1] at hoa
      obtain ⟨o', h1, h2⟩ := r.obj a q1 ha
      rw [hoa] at h1; cases h1
      have := h2.lt hda
      omega
    · rename_i e1 e2
      rw [T.get_put_other o nx a h e1] at hoa
      rw [T.get_put_other o nx b h e2] at hob
      exact r.inj a b q1 q2 oa ob ha hb hoa hob hda hdb hw he

theorem Rel.newExt {φ : Phi} {h : T O} {nx : Pos} {w w' : World} (r : Rel P ρ φ h nx w) {q : Blk} {o : O} (hB : q.B = w.heap.size) (hs : w'.heap.size = w.heap.size + 1)
    (hk : ∀ B, B < w.heap.size → w'.heap[B]? = w.heap[B]?) (ht : w'.tape = w.tape) (hos : w'.os = w.os) (hout : w'.output = w.output) : Ext h φ w (h.put o nx) (φ.add nx q) w' where
  le := r.addLe q
  size := by omega
  keep B hB' _ := hk B hB'
  wr a q' o' ha ho hw := by
    have hne : a ≠ nx := fun e => by rw [e, r.fresh] at ha; cases ha
    rw [T.get_put_other o nx a h hne] at ho
    exact ⟨o', ho, hw⟩
  new a q' ha hn := by
    unfold Phi.add at ha
    split at ha
    · cases ha; exact .inl (by omega)
    · rw [hn] at ha; cases ha
  tape := ht
  os := hos
  output := hout

/-- A block written. -/
theorem Rel.upd {φ : Phi} {h : T O} {nx : Pos} {w w' : World} (r : Rel P ρ φ h nx w) {b : Pos} {q : Blk} {o o' : O} (hb : φ b = some q) (hg : h.get b = some o) (hw : o.wr = true)
    (hk : ∀ B, B ≠ q.B → w'.heap[B]? = w.heap[B]?) (hs : w'.heap.size = w.heap.size) (ho : ObjR P ρ φ w' q o') : Rel P ρ φ (h.put o' b) nx w' where
  obj a q' ha := by
    by_cases e : a = b
    · subst e; rw [hb] at ha; cases ha
      exact ⟨o', T.get_put_same o' a h, ho⟩
    · obtain ⟨o1, h1, h2⟩ := r.obj a q' ha
      refine ⟨o1, by rw [T.get_put_other o' b a h e]; exact h1, ?_⟩
      by_cases hd : o1 = .dead
      · subst hd; trivial
      · refine h2.mono (.refl φ) (hk _ (fun e2 => e ?_))
        exact (r.inj b a q q' o o1 hb ha hg h1 (O.wr_ne hw) hd hw e2.symm).symm
  low := r.low
  bnd a q' ha := by rw [hs]; exact r.bnd a q' ha
  inj a c q1 q2 oa oc ha hc hoa hoc hda hdc hwa he := by
    by_cases e1 : a = b
    · by_cases e2 : c = b
      · rw [e1, e2]
      · rw [T.get_put_other o' b c h e2] at hoc
        subst e1
        exact r.inj a c q1 q2 o oc ha hc hg hoc (O.wr_ne hw) hdc hw he
    · rw [T.get_put_other o' b a h e1] at hoa
      by_cases e2 : c = b
      · subst e2
        exact r.inj a c q1 q2 oa o ha hc hoa hg hda (O.wr_ne hw) hwa he
      · rw [T.get_put_other o' b c h e2] at hoc
        exact r.inj a c q1 q2 oa oc ha hc hoa hoc hda hdc hwa he

theorem Rel.updExt {φ : Phi} {h : T O} {nx : Pos} {w w' : World} (_ : Rel P ρ φ h nx w) {b : Pos} {q : Blk} {o o' : O} (hb : φ b = some q) (hg : h.get b = some o) (hw : o.wr = true)
    (hs : w'.heap.size = w.heap.size) (hk : ∀ B, B ≠ q.B → w'.heap[B]? = w.heap[B]?) (ht : w'.tape = w.tape) (hos : w'.os = w.os) (hout : w'.output = w.output) : Ext h φ w (h.put o' b) φ w' where
  le := .refl φ
  size := by omega
  keep B _ hno := hk B (fun e => hno b q o hb hg hw e.symm)
  wr a q' o1 ha ho1 hw1 := by
    by_cases e : a = b
    · subst e; exact ⟨o, hg, hw⟩
    · rw [T.get_put_other o' b a h e] at ho1; exact ⟨o1, ho1, hw1⟩
  new a q' ha hn := by rw [hn] at ha; cases ha
  tape := ht
  os := hos
  output := hout

/-- A world that differs in nothing that is looked at. -/
theorem Rel.same {φ : Phi} {h : T O} {nx : Pos} {w w' : World} (r : Rel P ρ φ h nx w) (hh : w'.heap = w.heap) : Rel P ρ φ h nx w' :=
  ⟨fun a q ha => let ⟨o, h1, h2⟩ := r.obj a q ha; ⟨o, h1, h2.mono (.refl φ) (by rw [hh])⟩, r.low, fun a q ha => by rw [hh]; exact r.bnd a q ha, r.inj⟩

theorem Ext.same (h : T O) (φ : Phi) {w w' : World} (hh : w'.heap = w.heap) (ht : w'.tape = w.tape) (hos : w'.os = w.os) (hout : w'.output = w.output) : Ext h φ w h φ w' :=
  ⟨.refl φ, by rw [hh]; exact Nat.le_refl _, fun _ _ _ => by rw [hh], fun a q o' _ h1 h2 => ⟨o', h1, h2⟩, (fun a q h1 h2 => by rw [h1] at h2; cases h2), ht, hos, hout⟩
end
end GoVm

/- The compiler from the model's code to the virtual machine's: definitions alone, no statement is proved here. -/
namespace GoVm
open Go
noncomputable section

/-- Where a temporary stands while a region is compiled. -/
inductive EL where
  | stk (i : Nat)     -- from the bottom
  | sl (p : Pos)
  | k (v : V)
  deriving Inhabited

structure Env where
  loc : List (Nat × EL)
  gone : List Nat       -- temporaries of which nothing is known
  depth : Nat
  G : Nat               -- how many package-level variables there are
  N : Nat               -- how many temporaries
  only : Option (List Nat)   -- which temporaries may be looked at; none: all
  deriving Inhabited

def Env.hid (e : Env) (t : Nat) : Bool := match e.only with | none => false | some l => !l.contains t

abbrev SlotMap := List (Nat × Pos)

def slotOf (m : SlotMap) (t : Nat) : Option Pos := (m.find? (·.1 == t)).map (·.2)

mutual
def convV : Value → Option V
  | .bool b => some (.bool b)
  | .int k n => some (.int k n)
  | .string s => some (.str s.data.toList.length (numL s.data.toList))
  | .pointer none => some .nilp
  | .slice none 0 0 => some .nils
  | .map none => some .nilm
  | .nilFunc => some .nilf
  | .nilIface => some .nili
  | .iface t v => match convV v with | some v => some (.ifc t v) | none => none
  | .agg ⟨cs⟩ => if cs.all Value.oneCell then (match convVs cs with | some l => some (.agg l) | none => none) else none
  | .tuple ⟨cs⟩ => match convVs cs with | some l => some (.tup l) | none => none
  | .func (.func f) ⟨a⟩ ⟨c⟩ => match convVs a, convVs c with | some a, some c => some (.fn f a c) | _, _ => none
  | _ => none
def convVs : List Value → Option (List V)
  | [] => some []
  | v :: l => match convV v, convVs l with | some v, some l => some (v :: l) | _, _ => none
end

def elOf (m : SlotMap) (e : Env) (x : Operand) : Option EL :=
  match x with
  | .tmp t =>
    if e.hid t then none else
    match e.loc.find? (·.1 == t) with
    | some (_, l) => some l
    | none => if e.gone.contains t then none else (slotOf m t).map .sl
  | .const v => (convV v).map .k
  | .global g => if g < e.G then some (.k (.ptr (Pos.ofNat g) 0)) else none
  | .func f => some (.k (.fn f [] []))

def toLoc (e : Env) : EL → Loc
  | .stk i => .st (e.depth - 1 - i)
  | .sl p => .sl p
  | .k v => .k v

def locOf (m : SlotMap) (e : Env) (x : Operand) : Option Loc := (elOf m e x).map (toLoc e)

def locsOf (m : SlotMap) (e : Env) (l : Array Operand) : Option (List Loc) := l.toList.mapM (locOf m e)

def zeroV (P : Program) (t : Nat) : Option V := ((P.info? t).bind (·.zero)).bind convV
def sizeV (P : Program) (t : Nat) : Option Nat := (P.info? t).map (·.size)
def bytesV' (P : Program) (t : Nat) : Option Nat := (P.info? t).map (·.bytes)
def aggV (P : Program) (t : Nat) : Option Bool := (P.underlying t).map fun | .struct _ | .array _ _ => true | _ => false

/-- The cells of a type's zero value, as many as the type has. -/
def zeroC (P : Program) (t : Nat) : Option (List V) :=
  match zeroV P t, sizeV P t with
  | some z, some n => (match asCells z with | some l => if l.length = n then some l else none | none => none)
  | _, _ => none

def zerosV : Nat → List V → List V
  | 0, _ => []
  | n + 1, z => z ++ zerosV n z

def partsOf (m : SlotMap) (e : Env) (place : Nat → Option (Nat × Nat)) (ps : Array (Nat × Operand)) : Option (List (Nat × Nat × Loc)) :=
  ps.toList.mapM fun (i, x) => do
    let (off, n) ← place i
    pure (off, n, ← locOf m e x)

def partN (P : Program) (a : Bool) (t : Nat) : Option Nat := if a then sizeV P t else some 1

def placeS (P : Program) (fs : Array Field) (i : Nat) : Option (Nat × Nat) :=
  match fs[i]? with
  | none => none
  | some f => match sizeV P f.type with | none => none | some n => some (f.offset, n)

def placeA (s i : Nat) : Option (Nat × Nat) := some (i * s, s)

def aop : BinOp → Option AOp
  | .add => some .add | .sub => some .sub | .mul => some .mul | .quo => some .quo | .rem => some .rem
  | .and => some .and | .or => some .or | .xor => some .xor | .andNot => some .andNot | .shl => some .shl | .shr => some .shr
  | _ => none

def cop : BinOp → Option COp
  | .eql => some .eql | .neq => some .neq | .lss => some .lss | .leq => some .leq | .gtr => some .gtr | .geq => some .geq
  | _ => none

def isNilConst (kd : Nat) (x : Operand) : Bool :=
  match kd, x with
  | 0, .const .nilIface | 1, .const (.slice none 0 0) | 2, .const (.map none) | 3, .const .nilFunc => true
  | _, _ => false

def nilI (kd : Nat) (op : BinOp) (x y : Operand) (lx ly : Loc) : Option I :=
  match op with
  | .eql => if isNilConst kd y then some (.P (.cmn kd false lx)) else if isNilConst kd x then some (.P (.cmn kd false ly)) else if kd = 0 then some (.P (.cmf false lx ly)) else none
  | .neq => if isNilConst kd y then some (.P (.cmn kd true lx)) else if isNilConst kd x then some (.P (.cmn kd true ly)) else if kd = 0 then some (.P (.cmf true lx ly)) else none
  | _ => none

def binI (P : Program) (m : SlotMap) (e : Env) (op : BinOp) (t : Nat) (x y : Operand) : Option I := do
  let lx ← locOf m e x
  let ly ← locOf m e y
  match ← P.underlying t with
  | .int _ =>
    match aop op, cop op with
    | some a, _ => pure (.P (.ar a lx ly))
    | _, some c => pure (.P (.cmi c lx ly))
    | _, _ => none
  | .string =>
    match op, cop op with
    | .add, _ => pure (.P (.cat lx ly))
    | _, some c => pure (.P (.cms c lx ly))
    | _, _ => none
  | .bool =>
    match op with
    | .eql => pure (.P (.cmb false lx ly))
    | .neq => pure (.P (.cmb true lx ly))
    | _ => none
  | .pointer el =>
    if ((← sizeV P el) == 0) then none else
    match op with
    | .eql => pure (.R (.cpq false lx ly))
    | .neq => pure (.R (.cpq true lx ly))
    | _ => none
  | .interface _ => nilI 0 op x y lx ly
  | .slice _ => nilI 1 op x y lx ly
  | .map _ _ => nilI 2 op x y lx ly
  | .func _ _ _ => nilI 3 op x y lx ly
  | _ => none

def fieldOf (P : Program) (t : Nat) (f : Nat) : Option Field := do
  let .struct fs ← P.underlying t | none
  fs[f]?

def methCands (P : Program) (name : String) : List (Nat × Nat) :=
  (List.range P.types.size).filterMap fun t => do
    let i ← P.info? t
    let .pointer _ ← P.underlying t | none
    let mt ← i.methods.find? (·.name == name)
    let (f, true) ← mt.func | none
    if mt.path.isEmpty then some (t, f) else none

def callI (P : Program) (m : SlotMap) (e : Env) (c : Call) : Option I := do
  match c.callee with
  | .value (.func f) => pure (.C (.cf f (← locsOf m e c.args)))
  | .value x => pure (.C (.cv (← locOf m e x) (← locsOf m e c.args)))
  | .invoke r name => pure (.C (.iv (methCands P name) (← locOf m e r) (← locsOf m e c.args)))
  | .builtin b =>
    let as ← locsOf m e c.args
    let ty (i : Nat) : Option TypeDesc := do P.underlying (← c.argTypes[i]?)
    match b, as with
    | .len, [x] =>
      match ← ty 0 with
      | .string => pure (.P (.ln 0 x))
      | .slice _ => pure (.P (.ln 1 x))
      | .map _ _ => pure (.R (.lnm x))
      | .array n _ => pure (.P (.mv (.k (.int .i64 (.ofNat n)))))
      | _ => none
    | .append, [s, x] =>
      let .slice el ← ty 0 | none
      let n ← sizeV P el
      let b ← bytesV' P el
      let _ ← zeroC P el
      match ← ty 1 with
      | .slice _ => if b ≤ 4096 then pure (.W (.app el n s x)) else none
      | .string => if b ≤ 4096 ∧ n = 1 then pure (.W (.app el n s x)) else none
      | _ => none
    | .max, l => (match ← ty 0 with | .int _ => pure (.P (.mx false l)) | _ => none)
    | .min, l => (match ← ty 0 with | .int _ => pure (.P (.mx true l)) | _ => none)
    | _, _ => none

def isOne (P : Program) (t : Nat) : Option Unit := if sizeV P t = some 1 then some () else none

def optL (m : SlotMap) (e : Env) : Option Operand → Option (Option Loc)
  | none => some none
  | some x => (locOf m e x).map some

def keyKind (P : Program) (k : Nat) : Option Nat :=
  match P.underlying k with
  | some (.int _) => some 0
  | some .string => some 1
  | some .bool => some 2
  | some (.pointer _) => some 3
  | _ => none

def opI (P : Program) (m : SlotMap) (e : Env) (o : Op) : Option I := do
  let L := locOf m e
  match o with
  | .move x | .assign x => pure (.P (.mv (← L x)))
  | .pick c a b => pure (.P (.pick (← L c) (← L a) (← L b)))
  | .alloc t => pure (.F (.al t (← zeroC P t)))
  | .box t x => pure (.F (.bx t (← L x)))
  | .build t ps =>
    let z ← zeroC P t
    match ← P.underlying t with
    | .struct fs =>
      if !fs.toList.all (fun f => (sizeV P f.type).isSome) then none else
      pure (.P (.bld z (← partsOf m e (placeS P fs) ps)))
    | .array _ el =>
      let s ← sizeV P el
      pure (.P (.bld z (← partsOf m e (placeA s) ps)))
    | _ => none
  | .buildSlice t n ps =>
    let .slice el ← P.underlying t | none
    let s ← sizeV P el
    if n * s > 4096 then none else
    let z ← (if n * s = 0 then some [] else zeroC P el)
    pure (.F (.bsl el s n (zerosV n z) (← partsOf m e (placeA s) ps)))
  | .load t x =>
    let a ← aggV P t
    let n ← partN P a t
    let l ← L x
    pure (.R (.ld n a l))
  | .store t x v => pure (.W (.st (← sizeV P t) (← L x) (← L v)))
  | .nilCheck x => pure (.P (.nn (← L x)))
  | .binOp op t x y _ => binI P m e op t x y
  | .unOp .not _ x => pure (.P (.no (← L x)))
  | .unOp .neg t x => (match ← P.underlying t with | .int _ => do pure (.P (.ng (← L x))) | _ => none)
  | .convert s d x =>
    match ← P.underlying s, ← P.underlying d with
    | .int _, .int k => pure (.P (.cvi k (← L x)))
    | .string, .string => pure (.P (.sls (← L x) none none))
    | .string, .slice el => (match ← P.underlying el with | .int .u8 => do { let l ← L x; let _ ← isOne P el; pure (.W (.s2b el l)) } | _ => none)
    | .slice el, .string => (match ← P.underlying el with | .int .u8 => do pure (.R (.b2s (← L x))) | _ => none)
    | _, _ => none
  | .makeInterface t x => (match ← P.underlying t with | .interface _ => none | _ => do pure (.P (.ifc t (← L x))))
  | .typeAssert x _ t ok => (match ← P.underlying t with
    | .interface _ => none
    | _ => do pure (.P (.tas t ok (← zeroV P t) (← L x))))
  | .makeFunc (.func f) a c => pure (.P (.mkf f (← locsOf m e a) (← locsOf m e c)))
  | .makeMap _ none => pure (.W .mkm)
  | .makeSlice t l c =>
    let .slice el ← P.underlying t | none
    let b ← bytesV' P el
    if b > 4096 then none else
    let z ← zeroC P el
    if z.isEmpty then none else pure (.W (.mks el (← sizeV P el) b z (← L l) (← L c)))
  | .slice t x lo hi none =>
    let lo ← optL m e lo
    let hi ← optL m e hi
    match ← P.underlying t with
    | .string => pure (.P (.sls (← L x) lo hi))
    | .slice el => pure (.R (.sll el (← sizeV P el) (← L x) lo hi))
    | _ => none
  | .fieldAddr t x f =>
    let fd ← fieldOf P t f
    if (← sizeV P fd.type) == 0 then none else pure (.P (.fa fd.offset (← L x)))
  | .field t x f =>
    let fd ← fieldOf P t f
    let a ← aggV P fd.type
    let n ← partN P a fd.type
    let l ← L x
    pure (.P (.fld fd.offset n a l))
  | .indexAddr t x i =>
    match ← P.underlying t with
    | .slice el => pure (.P (.ia (← sizeV P el) (← L x) (← L i)))
    | .array n el => pure (.P (.iaa n (← sizeV P el) (← L x) (← L i)))
    | _ => none
  | .index t x i =>
    match ← P.underlying t with
    | .string => pure (.P (.idxs (← L x) (← L i)))
    | .array n el =>
      let a ← aggV P el
      let s ← sizeV P el
      if !a && s != 1 then none else pure (.P (.idxa n s a (← L x) (← L i)))
    | _ => none
  | .lookup t x i ok =>
    let .map k el ← P.underlying t | none
    pure (.R (.lk (← keyKind P k) ok (← zeroV P el) (← L x) (← L i)))
  | .mapUpdate t a k v =>
    let .map kt _ ← P.underlying t | none
    pure (.W (.mu (← keyKind P kt) (← L a) (← L k) (← L v)))
  | .range t x =>
    match ← P.underlying t with
    | .string => pure (.W (.rgs (← L x)))
    | .map _ _ => pure (.W (.rgm (← L x)))
    | _ => none
  | .next x true => pure (.W (.nxs (← L x)))
  | .next x false => pure (.W (.nxm (← L x)))
  | .entry x => pure (.R (.en (← L x)))
  | .extract x i => pure (.P (.ext i (← L x)))
  | .call c => callI P m e c
  | _ => none

/-- The temporaries that an operation names: its operands, its guard, its place. -/
def namesOf (ops : Array Oper) (o : Oper) : List Nat :=
  (o.op.operands.toList.filterMap fun | .tmp u => some u | _ => none) ++
  (match o.guard with | some (j, _) => ((ops[j]?).bind (·.dst)).toList | none => []) ++ o.dst.toList

/-- Does an operation of the list write the temporary? -/
def writes (t : Nat) (l : List Oper) : Bool := l.any fun o => o.dst == some t

def looks (ops : Array Oper) (t : Nat) (o : Oper) : Bool :=
  (o.op.operands.toList.any fun | .tmp u => u == t | _ => false) ||
  (match o.guard with | some (j, _) => ((ops[j]?).bind (·.dst)) == some t | none => false)

def dropSl (p : Pos) (l : List (Nat × EL)) : List (Nat × EL) := l.filter fun x => match x.2 with | .sl q => !(p.beq q) | _ => true

def dropT (d : Nat) (l : List (Nat × EL)) : List (Nat × EL) := l.filter fun x => !(x.1 == d)

/-- The place d stands at l. -/
def Env.set (e : Env) (d : Nat) (l : EL) : Env := { e with loc := (d, l) :: dropT d e.loc, gone := e.gone.filter fun x => !(x == d) }
/-- Nothing is known of the place d. -/
def Env.clear (e : Env) (d : Nat) : Env := { e with loc := dropT d e.loc, gone := d :: e.gone }
/-- A slot is written. -/
def Env.slot (e : Env) (d : Nat) (p : Pos) : Env := { e with loc := dropT d (dropSl p e.loc), gone := e.gone.filter fun x => !(x == d) }
/-- A value is pushed. -/
def Env.push (e : Env) (d : Nat) : Env := { (e.set d (.stk e.depth)) with depth := e.depth + 1 }

/-- What an operation becomes, its guard with it. -/
def guardI (m : SlotMap) (ops : Array Oper) (e : Env) (o : Oper) (i : I) : Option I :=
  match o.guard with
  | none => some i
  | some (j, want) =>
    match (ops[j]?).bind (·.dst) with
    | none => none
    | some d => match locOf m e (.tmp d) with | none => none | some l => some (.G l want i)

/-- Where an operation's value goes, and what is known behind it. -/
def place (m : SlotMap) (ops : Array Oper) (e : Env) (i : I) (dst : Option Nat) (rest : List Oper) : Option (CO × Env) :=
  match dst with
  | none => some (.op i false none, e)
  | some d =>
    if !(d < e.N) then none else
    match slotOf m d with
    | some p => some (.op i false (some p), e.slot d p)
    | none => if rest.any (looks ops d) then some (.op i true none, e.push d) else some (.op i false none, e.clear d)

/-- Is the operation a move of a value that already stands somewhere? Then it becomes nothing. -/
def aliasOf (m : SlotMap) (e : Env) (o : Oper) (rest : List Oper) : Option (Nat × EL) :=
  match o.op, o.guard, o.dst with
  | .move x, none, some d =>
    if (slotOf m d).isSome || !(d < e.N) then none else
    match elOf m e x with
    | none => none
    | some l => match x, l with
      | .tmp s, .sl _ => if writes s rest then none else some (d, l)
      | _, _ => some (d, l)
  | _, _, _ => none

/-- One operation: what it becomes, and what is known behind it. 'rest': the operations behind it. -/
def compOp (P : Program) (m : SlotMap) (ops : Array Oper) (e : Env) (o : Oper) (rest : List Oper) : Option (CO × Env) :=
  match aliasOf m e o rest with
  | some (d, l) => some (.el, e.set d l)
  | none =>
    match opI P m e o.op with
    | none => none
    | some i => match guardI m ops e o i with | none => none | some i => place m ops e i o.dst rest

/-- The same in a region that draws its order. -/
def compOpD (P : Program) (m : SlotMap) (ops : Array Oper) (e : Env) (o : Oper) (rest : List Oper) : Option (CO × Env) :=
  match opI P m { e with only := some (namesOf ops o) } o.op with
  | none => none
  | some i => match guardI m ops { e with only := some (namesOf ops o) } o i with | none => none | some i => place m ops e i o.dst rest

def compOps (P : Program) (m : SlotMap) (ops : Array Oper) : List Oper → Env → Option (List CO)
  | [], _ => some []
  | o :: l, e =>
    match compOp P m ops e o l with
    | none => none
    | some (c, e') => match compOps P m ops l e' with | none => none | some r => some (c :: r)

def compOpsD (P : Program) (m : SlotMap) (ops : Array Oper) : List Oper → Env → Option (List CO)
  | [], _ => some []
  | o :: l, e =>
    match compOpD P m ops e o l with
    | none => none
    | some (c, e') => match compOpsD P m ops l e' with | none => none | some r => some (c :: r)

def isHardI : I → Bool
  | .W _ | .C _ => true
  | .G _ _ i => isHardI i
  | _ => false
def isF : I → Bool
  | .F _ => true
  | .G _ _ i => isF i
  | _ => false
def isR : I → Bool
  | .R _ => true
  | .G _ _ i => isR i
  | _ => false

def isHard : CO → Bool
  | .op i _ _ => isHardI i
  | .el => false
def isFl : CO → Bool
  | .op i _ _ => isF i
  | .el => false
def isRd : CO → Bool
  | .op i _ _ => isR i
  | .el => false

/-- Is operation i ahead of operation j in every order? 'b': the bits of those ahead. -/
def befB (b : Array Nat) (i j : Nat) : Bool := (b.getD j 0).testBit i

/-- The bits are those that the edges say. -/
def edgesOk (ops : Array Oper) (b : Array Nat) : Bool :=
  (List.range ops.size).all fun j =>
    match ops[j]? with
    | none => false
    | some o => o.after.toList.all (fun e => !(Region.binds .any e) || Nat.blt e.on j) &&
        Nat.beq (b.getD j 0) (o.after.toList.foldl (fun s e => if Region.binds .any e then s ||| 2 ^ e.on ||| b.getD e.on 0 else s) 0)

/-- Whatever names a place is ordered against every other operation that writes it. -/
def namesOk (ops : Array Oper) (b : Array Nat) : Bool :=
  (List.range ops.size).all fun j =>
    match ops[j]? with
    | none => false
    | some o => (List.range ops.size).all fun i =>
      match ops[i]? with
      | none => false
      | some o' =>
        match o'.dst with
        | none => true
        | some t => Nat.beq i j || !(namesOf ops o).contains t || (if i < j then befB b i j else befB b j i)

def isHC : Cls → Bool
  | .h _ => true
  | _ => false
def isFC : Cls → Bool
  | .f => true
  | _ => false

/-- What is asked of the classes. -/
def classOk (ops : Array Oper) (b : Array Nat) (cs : Array Cls) : Bool :=
  let rng := List.range ops.size
  Nat.beq cs.size ops.size && rng.all fun j =>
    match cs.getD j .q with
    | .q => true
    | .f => rng.all fun k => !(befB b j k) || isHC (cs.getD k .q) || rng.any fun i => isHC (cs.getD i .q) && befB b j i && befB b i k
    | .r lo hi => Nat.ble lo (rng.filter fun i => isHC (cs.getD i .q) && befB b i j).length &&
        Nat.ble (rng.filter fun i => isHC (cs.getD i .q) && !(befB b j i)).length hi
    | .h fl => (rng.all fun i => !(isHC (cs.getD i .q)) || !(Nat.blt i j) || befB b i j) &&
        rng.all fun k => !(isFC (cs.getD k .q)) || (fl.contains k == befB b k j)

/-- The classes: an operation that makes memory of values may be free of the hard ones where only hard ones see it first. -/
def classesOf (n : Nat) (b : Array Nat) (cs : Array CO) : Array Cls :=
  let hard := (List.range n).filter fun i => isHard (cs.getD i .el)
  let free (j : Nat) : Bool := isFl (cs.getD j .el) && (List.range n).all fun k => !(befB b j k) || isHard (cs.getD k .el) || hard.any fun i => befB b j i && befB b i k
  let fl := (List.range n).filter free
  let hd := (List.range n).filter fun i => isHard (cs.getD i .el) || (isFl (cs.getD i .el) && !(free i))
  ((List.range n).map fun j =>
    let c := cs.getD j .el
    if isHard c || (isFl c && !(free j)) then .h (fl.filter fun k => befB b k j)
    else if isFl c then .f
    else if isRd c then .r (hd.filter fun i => befB b i j).length (hd.filter fun i => !(befB b j i)).length
    else .q).toArray

def classify (ops : Array Oper) (cs : List CO) : Option (List (Cls × CO)) :=
  let b := Region.before ops
  let k := classesOf ops.size b cs.toArray
  if edgesOk ops b && namesOk ops b && classOk ops b k then some (k.toList.zip cs) else none

def env0 (G N : Nat) : Env := ⟨[], [], 0, G, N, none⟩

def compRegion (P : Program) (m : SlotMap) (N : Nat) (ops : Array Oper) (draw : Bool) : Option VC :=
  if draw then
    match compOpsD P m ops ops.toList (env0 P.globals.size N) with
    | none => none
    | some cs => match classify ops cs with | none => none | some l => some (.dreg l)
  else
    match compOps P m ops ops.toList (env0 P.globals.size N) with
    | none => none
    | some cs => some (.reg cs)

def compCode (P : Program) (m : SlotMap) (N : Nat) : Code → VC
  | .skip => .skip
  | .region _ ops draw => match compRegion P m N ops draw with | some c => c | none => .fail
  | .seq a b => .seq (compCode P m N a) (compCode P m N b)
  | .cond c a b => match locOf m (env0 P.globals.size N) c with | some l => .cond l (compCode P m N a) (compCode P m N b) | none => .fail
  | .block id b => .block id (compCode P m N b)
  | .loop b => .loop (compCode P m N b)
  | .exit id => .exit id
  | .ret => .ret
  | _ => .fail

def compRes (P : Program) (m : SlotMap) (N : Nat) : ResultVar → Option RV
  | .tmp t => match locOf m (env0 P.globals.size N) (.tmp t) with | some l => some (.sl l) | none => none
  | .cell a t =>
    match locOf m (env0 P.globals.size N) (.tmp a), aggV P t with
    | some l, some ag => match partN P ag t with | some n => some (.cell l n ag) | none => none
    | _, _ => none

/-- Different temporaries stand in different slots. -/
def slotsOk : SlotMap → Bool
  | [] => true
  | x :: l => l.all (fun y => !(x.2.beq y.2)) && slotsOk l

def compFn (P : Program) (m : SlotMap) (fn : Func) : Option VFn :=
  match fn.body with
  | none => none
  | some c =>
    if !slotsOk m then none else
    match fn.results.toList.mapM (compRes P m fn.ntmps) with
    | none => none
    | some r => some { params := (List.range (fn.params.size + fn.nfree)).map (slotOf m), code := compCode P m fn.ntmps c, res := r }

end
end GoVm

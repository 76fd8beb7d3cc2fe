/- Regions that draw their order: facts of the run in the order of the text, and guards. -/
import Derived.Test.YtimknmaihfjdgaaGreatDoorVmF
namespace GoVm
open Go (Value World Program Oper Op Exit Obj yielded)

section
variable {P : Program} {m : SlotMap} {call : Caller} {ops : Array Oper} {k : Array Cls} {slots0 : T V} {val : Nat → V} {G N : Nat} {h0 : T O} {nx0 : Pos} {es : Nat → Env} {ds : Nat → DSt} {b : Array Nat}

theorem Run.calm (R : Run P m ops call k slots0 val G N h0 nx0 es ds) {i : Nat} : ∀ j, i ≤ j → j ≤ ops.size → (∀ x, i ≤ x → x < j → isHC (k.getD x .q) = false) → (ds j).heap = (ds i).heap
  | j, hij, hj, hx => by
    by_cases e : i = j
    · subst e; rfl
    · cases j with
      | zero => omega
      | succ j =>
        have a1 := R.calm (i := i) j (by omega) (by omega) (fun x h1 h2 => hx x h1 (by omega))
        obtain ⟨o, it, gi, q, d1, _, _, _, _, g, s1, s2, s3, s4, s5, s6⟩ := R.mem (i := j) (by omega)
        have hc := hx j (by omega) (by omega)
        rw [s1]
        generalize k.getD j .q = c at g hc
        generalize val j = v at g
        generalize (unG gi).2 = it2 at g
        cases g with
        | no _ => exact a1
        | p _ => exact a1
        | f _ => exact a1
        | r _ => split <;> exact a1
        | noh => cases hc
        | h _ => cases hc

theorem Run.pendp (R : Run P m ops call k slots0 val G N h0 nx0 es ds) : ∀ i, i ≤ ops.size → (∀ x ∈ (ds i).pend, x.1 < i) ∧ (ds i).pend.Pairwise (fun x y => y.1 < x.1)
  | 0, _ => by rw [R.zero]; exact ⟨fun x hx => (by cases hx), .nil⟩
  | i + 1, hi => by
    obtain ⟨a1, a2⟩ := R.pendp i (by omega)
    obtain ⟨o, it, gi, q, d1, _, _, _, _, g, s1, s2, s3, s4, s5, s6⟩ := R.mem (i := i) (by omega)
    have same : (∀ x ∈ (ds i).pend, x.1 < i + 1) ∧ (ds i).pend.Pairwise (fun x y => y.1 < x.1) := ⟨fun x hx => by have := a1 x hx; omega, a2⟩
    have sub : ∀ fl, (restP fl (ds i).pend).Sublist (ds i).pend := by
      intro fl
      generalize (ds i).pend = l
      induction l with
      | nil => exact .refl _
      | cons x l ih =>
        simp only [restP]
        split
        · exact ih.cons _
        · exact ih.cons_cons _
    have rest : ∀ fl, (∀ x ∈ restP fl (ds i).pend, x.1 < i + 1) ∧ (restP fl (ds i).pend).Pairwise (fun x y => y.1 < x.1) :=
      fun fl => ⟨fun x hx => by have := a1 x ((sub fl).subset hx); omega, a2.sublist (sub fl)⟩
    rw [s3]
    generalize k.getD i .q = c at g
    generalize val i = v at g
    generalize (unG gi).2 = it2 at g
    cases g with
    | no _ => exact same
    | p _ => exact same
    | r _ => split <;> exact same
    | noh => exact rest _
    | h _ => exact rest _
    | f _ =>
      refine ⟨fun x hx => ?_, ?_⟩
      · rcases List.mem_cons.1 hx with rfl | hx
        · exact Nat.lt_succ_self _
        · exact same.1 x hx
      · exact List.pairwise_cons.2 ⟨fun y hy => a1 y hy, a2⟩

theorem Run.numlt (R : Run P m ops call k slots0 val G N h0 nx0 es ds) (hm : CallMono call) {f : Nat} {p : Pos} {ob : O} (hf : Flo P m ops k val es ds f p ob) {g : Nat} (hg : f < g) (hg2 : g ≤ ops.size) : p.num < (ds g).next.num := by
  have h1 := (R.suf hm (i := f + 1) g hg hg2).2.2
  rw [hf.2.2.1, Pos.num_succ] at h1
  omega

theorem Run.nx0le (R : Run P m ops call k slots0 val G N h0 nx0 es ds) (hm : CallMono call) {g : Nat} (hg2 : g ≤ ops.size) : nx0.num ≤ (ds g).next.num := by
  have h1 := (R.suf hm (i := 0) g (Nat.zero_le _) hg2).2.2
  rw [R.zero] at h1
  exact h1

theorem Run.nle (R : Run P m ops call k slots0 val G N h0 nx0 es ds) (hm : CallMono call) {f g : Nat} (h1 : f ≤ g) (hg2 : g ≤ ops.size) : (ds f).next.num ≤ (ds g).next.num :=
  (R.suf hm (i := f) g h1 hg2).2.2

theorem want_sound {ρ : Nat → Int} {φ : Phi} {e : Env} {stk : List V} {slots : T V} {a : Go.Act} {o : Oper} {it gi : I} (hg : guardI m ops e o it = some gi) (hi : opI P m e o.op = some it) (hE : ER P ρ m e φ stk slots a) {q : Bool}
    (hw : wantAll (unG gi).1 stk slots = some q) : Go.Region.wanted o (yielded ops a.tmps) = q := by
  have hno : (unG it).1 = [] := by
    cases it with
    | G c w i =>
      obtain ⟨c', _, h2⟩ := opI_C hi rfl
      rcases callI_C h2 rfl with ⟨_, _, _, _, h⟩ | ⟨_, _, _, _, _, _, h⟩ | ⟨_, _, _, _, _, _, _, h⟩ <;> cases h
    | _ => rfl
  unfold guardI at hg
  split at hg
  · rename_i hn
    cases hg
    rw [hno] at hw
    cases hw
    simp [Go.Region.wanted, hn]
  · rename_i j want hgd
    split at hg
    · cases hg
    · rename_i d hd
      split at hg
      · cases hg
      · rename_i l hl
        cases hg
        change wantAll ((l, want) :: (unG it).1) stk slots = some q at hw
        rw [hno] at hw
        obtain ⟨u, h1, h2⟩ := ob_eq (show ob (loc l stk slots) (fun v => vGuard v (fun b => cnd (xorB b want) (some false) (some true)) (some false) none) = some q from hw)
        have hu := hE.lo hl h1
        change VR P ρ φ u (a.tmps.getD d Go.undef) at hu
        cases u <;> try (cases h2; done)
        case bool bb =>
          simp only [VR] at hu
          change cnd (xorB bb want) (some false) (some true) = some q at h2
          rw [xorB_eq] at h2
          simp only [Go.Region.wanted, hgd, yielded_bool hd hu]
          cases bb <;> cases want <;> (cases h2; rfl)
        case tup l =>
          cases l with
          | cons x l => cases h2
          | nil =>
            cases h2
            simp only [VR, VRs] at hu
            obtain ⟨x, hu, hx⟩ := hu
            have : x = #[] := by simpa using hx
            subst this
            simp [Go.Region.wanted, hgd, yielded_none hd hu]
end

end GoVm

/- Regions that draw their order: one operation, in any order. -/
namespace GoVm
open Go (Value World Program Oper Op Exit Obj yielded)

namespace Ctx
variable {C : Ctx} {D : Nat → Prop} {φ : Phi} {blk : Nat → Blk} {s : Nat} {a : Go.Act} {w : World}

theorem dst_lt (ok : C.Ok) {j t : Nat} (hj : j < C.ops.size) (h : dstAt C.ops j = some t) : t < C.N := (ok.R.step j hj).dst t h

theorem Inv.pre (I : C.Inv D φ blk s a w) (ok : C.Ok) {j : Nat} (hj : j < C.ops.size) (hr : ∀ o, C.ops[j]? = some o → ∀ e ∈ o.after, Go.Region.binds .any e = true → D e.on) : ∀ i, befB C.b i j = true → D i := by
  intro i hb
  obtain ⟨e, he, hbd, h1⟩ := ok.O.back j _ i (Array.getElem?_eq_getElem hj) hb
  have hD := hr _ (Array.getElem?_eq_getElem hj) e (by simpa using he) hbd
  have hlt := (ok.O.edge j _ (Array.getElem?_eq_getElem hj) e he hbd).1
  rcases h1 with rfl | h1
  · exact hD
  · exact I.clo i e.on (by omega) hD h1

/-- Whoever writes a place that a ready operation names and is done stands ahead of it. -/
theorem Inv.ahead (I : C.Inv D φ blk s a w) (ok : C.Ok) {j : Nat} (_ : j < C.ops.size) (hD : ¬ D j) {o : Oper} (ho : C.ops[j]? = some o) {t : Nat} (ht : t ∈ namesOf C.ops o) {x : Nat} (hx : x < C.ops.size) (hxD : D x) (hd : dstAt C.ops x = some t) : x < j := by
  have hne : x ≠ j := fun e => hD (e ▸ hxD)
  rcases Nat.lt_or_ge x j with h | h
  · exact h
  · have hjx : j < x := by omega
    have hox := Array.getElem?_eq_getElem hx
    have hdx : (C.ops[x]).dst = some t := by simpa [dstAt, hox] using hd
    have := (ok.O.name x j _ o t hox ho hne hdx ht).2 hjx
    exact absurd (I.clo j x hx hxD this) hD

theorem Inv.opnd (I : C.Inv D φ blk s a w) (ok : C.Ok) {j : Nat} (hj : j < C.ops.size) (hD : ¬ D j) (hp : ∀ i, befB C.b i j = true → D i) {φ1 : Phi} (hle : PhiLe φ φ1)
    (hfl : ∀ f p ob, f < C.ops.size → C.flo f p ob → befB C.b f j = true → φ1 p = some (blk f)) {o : Oper} (ho : C.ops[j]? = some o) {t : Nat} {v : V} (ht : t ∈ namesOf C.ops o)
    (hs : Stands C.ops C.m C.slots0 C.val j t v) : VR C.P C.ρ φ1 v (a.tmps.getD t Go.undef) := by
  rcases hs with ⟨i, h1, h2, h3, h4⟩ | ⟨h1, p, h2, h3⟩
  · have hi : i < C.ops.size := by omega
    have hoi := Array.getElem?_eq_getElem hi
    have hdi : (C.ops[i]).dst = some t := by simpa [dstAt, hoi] using h2
    have hb := (ok.O.name i j _ o t hoi ho (by omega) hdi ht).1 h1
    have := I.val i t hi (hp i hb) h2 (fun x hx hxD hd => by
      have hxj := I.ahead ok hj hD ho ht hx hxD hd
      rcases Nat.lt_or_ge i x with h | h
      · exact absurd hd (h4 x h hxj)
      · exact h)
    rw [← h3]
    exact this φ1 hle (fun p ob hf => hfl i p ob hi hf hb)
  · rw [I.old t (fun x hx hxD hd => h1 x (I.ahead ok hj hD ho ht hx hxD hd) hd)]
    exact (ok.beg.sr t p v h2 h3).mono (I.ext.le.trans hle)

theorem Inv.er (I : C.Inv D φ blk s a w) (ok : C.Ok) {j : Nat} (hj : j < C.ops.size) (hD : ¬ D j) (hp : ∀ i, befB C.b i j = true → D i) {φ1 : Phi} (hle : PhiLe φ φ1)
    (hfl : ∀ f p ob, f < C.ops.size → C.flo f p ob → befB C.b f j = true → φ1 p = some (blk f)) {o : Oper} (ho : C.ops[j]? = some o) :
    ER C.P C.ρ C.m { C.es j with only := some (namesOf C.ops o) } φ1 (C.ds j).stk (C.ds j).slots a := by
  have st := ok.R.step j hj
  refine er_of st.ix (fun t v ht hs => I.opnd ok hj hD hp hle hfl ho ht hs) (fun g hg => ?_)
  rw [st.eG] at hg
  obtain ⟨q, h1, h2⟩ := ok.beg.gok g hg
  exact ⟨q, hle _ _ (I.ext.le _ _ h1), h2⟩

/-- What is done grows by one. -/
def more (D : Nat → Prop) (j : Nat) : Nat → Prop := fun i => D i ∨ i = j

theorem Inv.writes (I : C.Inv D φ blk s a w) (ok : C.Ok) {j : Nat} (hj : j < C.ops.size) (hD : ¬ D j) {o : Oper} (ho : C.ops[j]? = some o) {φ' : Phi} {blk' : Nat → Blk} (hle : PhiLe φ φ')
    (hblk : ∀ i, D i → blk' i = blk i) {c : Value} (hc : C.holds blk' φ' j c) :
    (∀ i t, i < C.ops.size → more D j i → dstAt C.ops i = some t → (∀ x, x < C.ops.size → more D j x → dstAt C.ops x = some t → x ≤ i) → C.holds blk' φ' i ((a.put o.dst c).tmps.getD t Go.undef)) ∧
    (∀ t, (∀ x, x < C.ops.size → more D j x → dstAt C.ops x ≠ some t) → (a.put o.dst c).tmps.getD t Go.undef = C.a0.tmps.getD t Go.undef) := by
  have hdj : dstAt C.ops j = o.dst := by simp [dstAt, ho]
  have ne : ∀ t, o.dst ≠ some t → (a.put o.dst c).tmps.getD t Go.undef = a.tmps.getD t Go.undef := by
    intro t h
    cases hd : o.dst with
    | none => rfl
    | some d => exact put_ne (fun e => h (by rw [hd, e]))
  refine ⟨fun i t hi hDi hdi hmax => ?_, fun t hno => ?_⟩
  · rcases hDi with hDi | rfl
    · have hne : o.dst ≠ some t := by
        intro hd
        have h1 : j ≤ i := hmax j hj (.inr rfl) (by rw [hdj]; exact hd)
        have h2 : j < i := by
          rcases Nat.lt_or_ge j i with h | h
          · exact h
          · have : j = i := by omega
            exact absurd (this ▸ hDi) hD
        have hoi := Array.getElem?_eq_getElem hi
        have hdi' : (C.ops[i]).dst = some t := by simpa [dstAt, hoi] using hdi
        have hb := (ok.O.name j i o _ t ho hoi (by omega) hd (by simp [namesOf, hdi'])).1 h2
        exact hD (I.clo j i hi hDi hb)
      rw [ne t hne]
      intro φ'' h1 h2
      refine I.val i t hi hDi hdi (fun x hx hxD hd => hmax x hx (.inl hxD) hd) φ'' (hle.trans h1) (fun p ob hf => ?_)
      rw [← hblk i hDi]; exact h2 p ob hf
    · rw [hdj] at hdi
      have hlt : t < a.tmps.size := Nat.lt_of_lt_of_le (dst_lt ok hj (by rw [hdj]; exact hdi)) I.sz
      rw [hdi, put_same hlt]
      exact hc
  · have hne : o.dst ≠ some t := fun hd => hno j hj (.inr rfl) (by rw [hdj]; exact hd)
    rw [ne t hne]
    exact I.old t (fun x hx hxD => hno x hx (.inl hxD))

theorem Inv.noHard (I : C.Inv D φ blk s a w) (ok : C.Ok) {j : Nat} (hj : j < C.ops.size) (hD : ¬ D j) (hp : ∀ i, befB C.b i j = true → D i) (hh : isHC (C.k.getD j .q) = true) :
    s ≤ j ∧ ∀ x, s ≤ x → x < j → isHC (C.k.getD x .q) = false := by
  refine ⟨?_, fun x hx hxj => ?_⟩
  · rcases Nat.lt_or_ge j s with h | h
    · exact absurd ((I.at_ j hj hh).2 h) hD
    · exact h
  · cases hc : isHC (C.k.getD x .q) with
    | false => rfl
    | true =>
      have := (I.at_ x (by omega) hc).1 (hp x (ok.O.total x j hxj hj hc hh))
      omega

/-- In a closed set nothing behind an operation that isn't done is done. -/
theorem Inv.behind (I : C.Inv D φ blk s a w) {j y : Nat} (hD : ¬ D j) (hy : y < C.ops.size) (hyD : D y) : befB C.b j y = false := by
  cases hb : befB C.b j y with
  | false => rfl
  | true => exact absurd (I.clo j y hy hyD hb) hD

theorem more_clo (I : C.Inv D φ blk s a w) {j : Nat} (hp : ∀ i, befB C.b i j = true → D i) : ∀ i x, x < C.ops.size → more D j x → befB C.b i x = true → more D j i := by
  intro i x hx hxD hb
  rcases hxD with h | rfl
  · exact .inl (I.clo i x hx h hb)
  · exact .inl (hp i hb)

theorem reg_more_soft {j : Nat} (hh : isHC (C.k.getD j .q) = false) {f : Nat} : C.reg (more D j) f ↔ C.reg D f := by
  constructor
  · rintro ⟨y, h1, h2, h3, h4⟩
    rcases h2 with h2 | rfl
    · exact ⟨y, h1, h2, h3, h4⟩
    · rw [hh] at h3; cases h3
  · rintro ⟨y, h1, h2, h3, h4⟩
    exact ⟨y, h1, .inl h2, h3, h4⟩

theorem reg_more_hard {j : Nat} (hj : j < C.ops.size) (hh : isHC (C.k.getD j .q) = true) {f : Nat} : C.reg (more D j) f ↔ C.reg D f ∨ befB C.b f j = true := by
  constructor
  · rintro ⟨y, h1, h2, h3, h4⟩
    rcases h2 with h2 | rfl
    · exact .inl ⟨y, h1, h2, h3, h4⟩
    · exact .inr h4
  · rintro (⟨y, h1, h2, h3, h4⟩ | h)
    · exact ⟨y, h1, .inl h2, h3, h4⟩
    · exact ⟨j, hj, .inr rfl, hh, h⟩

theorem Row.mono {φ φ' : Phi} {w w' : World} {q : Blk} {ob : O} (hφ : PhiLe φ φ') (hw : w'.heap[q.B]? = w.heap[q.B]?) (r : C.Row φ w q ob) : C.Row φ' w' q ob := by
  obtain ⟨vs, cs, t, h1, h2, h3, h4⟩ := r
  exact ⟨vs, cs, t, h1, h2.mono hφ, hw.trans h3, h4⟩

theorem Row.lt {φ : Phi} {w : World} {q : Blk} {ob : O} (r : C.Row φ w q ob) : q.B < w.heap.size := by
  obtain ⟨vs, cs, t, h1, h2, h3, h4⟩ := r
  exact (Array.getElem?_eq_some_iff.1 h3).1

/-- An operation that turns nothing in the memory. -/
theorem Inv.soft (I : C.Inv D φ blk s a w) (ok : C.Ok) {j : Nat} (hj : j < C.ops.size) (hD : ¬ D j) (hp : ∀ i, befB C.b i j = true → D i) (hh : isHC (C.k.getD j .q) = false) (hnf : ∀ p ob, ¬ C.flo j p ob)
    {o : Oper} (ho : C.ops[j]? = some o) {c : Value} (hc : VR C.P C.ρ φ (C.val j) c) : C.Inv (more D j) φ blk s (a.put o.dst c) w := by
  obtain ⟨w1, w2⟩ := I.writes ok hj hD ho (.refl φ) (blk' := blk) (fun _ _ => rfl) (c := c) (fun φ' h1 _ => hc.mono h1)
  have hreg := fun {f} => reg_more_soft (C := C) (D := D) hh (f := f)
  have nj : ∀ {f p ob}, C.flo f p ob → more D j f → D f := fun hf h => by
    rcases h with h | rfl
    · exact h
    · exact absurd hf (hnf _ _)
  refine ⟨more_clo I hp, I.sle, fun i hi hc' => ?_, I.rel, I.ext, I.grow, by rw [put_size]; exact I.sz, by rw [put_defers]; exact I.defers, w1, w2, fun f p ob hf hfl hr => ?_, fun f p ob hf hfl hr hd => ?_, fun f p ob hf hfl hr => ?_,
    fun f g p q ob ob' hf hg hfl hgl hd1 hd2 hr1 hr2 hne => ?_⟩
  · constructor
    · rintro (h | rfl)
      · exact (I.at_ i hi hc').1 h
      · rw [hh] at hc'; cases hc'
    · exact fun h => .inl ((I.at_ i hi hc').2 h)
  · exact I.none f p ob hf hfl (fun h => hr (hreg.2 h))
  · exact I.row f p ob hf hfl (fun h => hr (hreg.2 h)) (nj hfl hd)
  · exact I.regd f p ob hf hfl (hreg.1 hr)
  · exact I.diff f g p q ob ob' hf hg hfl hgl (nj hfl hd1) (nj hgl hd2) (fun h => hr1 (hreg.2 h)) (fun h => hr2 (hreg.2 h)) hne

/-- An operation that makes a free row. -/
theorem Inv.float (I : C.Inv D φ blk s a w) (ok : C.Ok) {j : Nat} (hj : j < C.ops.size) (hD : ¬ D j) (hp : ∀ i, befB C.b i j = true → D i) {p : Pos} {ob : O} (hf : C.flo j p ob)
    {o : Oper} (ho : C.ops[j]? = some o) {c : Value} {vs : List V} {cs : Array Value} {t : Nat} (hob : ob = .cells vs t true true) (hv : VRc C.P C.ρ φ vs cs.toList)
    (hc : ∀ φ' : Phi, φ' p = some ⟨w.heap.size, 0, cs.size, t⟩ → VR C.P C.ρ φ' (C.val j) c) :
    C.Inv (more D j) φ (fun i => if i = j then ⟨w.heap.size, 0, cs.size, t⟩ else blk i) s (a.put o.dst c) (w.alloc (.cells cs t)) := by
  have hh : isHC (C.k.getD j .q) = false := by rw [hf.1]; rfl
  have hblk : ∀ i, D i → (if i = j then ⟨w.heap.size, 0, cs.size, t⟩ else blk i) = blk i := fun i hi => by
    have hne : i ≠ j := fun e => hD (e ▸ hi)
    simp only [if_neg hne]
  obtain ⟨w1, w2⟩ := I.writes ok hj hD ho (.refl φ) (blk' := fun i => if i = j then ⟨w.heap.size, 0, cs.size, t⟩ else blk i) hblk (c := c) (fun φ' h1 h2 => hc φ' (by have := h2 p ob hf; simpa using this))
  have hreg := fun {f} => reg_more_soft (C := C) (D := D) hh (f := f)
  have hs : w.heap.size ≤ (w.alloc (.cells cs t)).heap.size := by simp
  have hk : ∀ B, B < w.heap.size → (w.alloc (.cells cs t)).heap[B]? = w.heap[B]? := by
    intro B hB
    simp only [World.alloc, Array.getElem?_push]
    rw [if_neg (by omega)]
  have nreg : ¬ C.reg D j := by
    rintro ⟨y, h1, h2, h3, h4⟩
    rw [I.behind hD h1 h2] at h4; cases h4
  refine ⟨more_clo I hp, I.sle, fun i hi hc' => ?_, I.rel.wider hs hk, I.ext.trans (.wider _ _ hs hk rfl rfl rfl), I.grow, by rw [put_size]; exact I.sz, by rw [put_defers]; exact I.defers, w1, w2, fun f p ob hf hfl hr => ?_, fun f p' ob' hf' hfl hr hd => ?_,
    fun f p' ob' hf' hfl hr => ?_, fun f g p1 q1 ob1 ob' hf1 hg hfl hgl hd1 hd2 hr1 hr2 hne => ?_⟩
  · constructor
    · rintro (h | rfl)
      · exact (I.at_ i hi hc').1 h
      · rw [hh] at hc'; cases hc'
    · exact fun h => .inl ((I.at_ i hi hc').2 h)
  · exact I.none f p ob hf hfl (fun h => hr (hreg.2 h))
  · by_cases e : f = j
    · subst e
      obtain ⟨rfl, rfl⟩ := Flo.eq hf hfl
      simp only [if_true]
      refine ⟨⟨vs, cs, t, hob, hv, alloc_at w _, rfl⟩, I.ext.size, fun x q hx => ?_⟩
      have := I.rel.bnd x q hx
      show q.B ≠ w.heap.size
      omega
    · have hd' : D f := hd.resolve_right e
      obtain ⟨r1, r2, r3⟩ := I.row f p' ob' hf' hfl (fun h => hr (hreg.2 h)) hd'
      simp only [if_neg e]
      exact ⟨r1.mono (.refl φ) (hk _ r1.lt), r2, r3⟩
  · by_cases e : f = j
    · subst e; exact absurd (hreg.1 hr) nreg
    · simp only [if_neg e]
      exact I.regd f p' ob' hf' hfl (hreg.1 hr)
  · by_cases e1 : f = j
    · subst e1
      have e2 : g ≠ f := fun e => hne e.symm
      have hd' : D g := hd2.resolve_right e2
      have := (I.row g q1 ob' hg hgl (fun h => hr2 (hreg.2 h)) hd').1.lt
      simp only [if_true, if_neg e2]
      omega
    · have hd1' : D f := hd1.resolve_right e1
      by_cases e2 : g = j
      · subst e2
        have := (I.row f p1 ob1 hf1 hfl (fun h => hr1 (hreg.2 h)) hd1').1.lt
        simp only [if_true, if_neg e1]
        omega
      · simp only [if_neg e1, if_neg e2]
        exact I.diff f g p1 q1 ob1 ob' hf1 hg hfl hgl hd1' (hd2.resolve_right e2) (fun h => hr1 (hreg.2 h)) (fun h => hr2 (hreg.2 h)) hne

end Ctx
end GoVm

/- Regions that draw their order: hard operations and reads, in any order. -/
namespace GoVm
open Go (Value World Program Oper Op Exit Obj yielded)

namespace Ctx
variable {C : Ctx} {D : Nat → Prop} {φ : Phi} {blk : Nat → Blk} {s : Nat} {a : Go.Act} {w : World}

theorem flo_one (ok : C.Ok) {f g : Nat} {p : Pos} {ob ob' : O} (hf : f < C.ops.size) (hg : g < C.ops.size) (h1 : C.flo f p ob) (h2 : C.flo g p ob') : f = g := by
  rcases Nat.lt_trichotomy f g with h | h | h
  · have := ok.R.numlt ok.hm h1 h (by omega)
    rw [← h2.2.1] at this; omega
  · exact h
  · have := ok.R.numlt ok.hm h2 h (by omega)
    rw [← h1.2.1] at this; omega

/-- What a hard operation finds when what it needs is laid. -/
structure Laid (C : Ctx) (D : Nat → Prop) (φ : Phi) (blk : Nat → Blk) (j : Nat) (h1 : T O) (φ1 : Phi) (w : World) : Prop where
  rel : Rel C.P C.ρ φ1 h1 (C.ds j).next w
  ext : Ext C.h0 C.φ0 C.w0 h1 φ1 w
  grow : Grow C.φ0 C.nx0 φ1 (C.ds j).next
  le : PhiLe φ φ1
  has : ∀ f p ob, f < C.ops.size → C.flo f p ob → C.reg D f ∨ befB C.b f j = true → φ1 p = some (blk f)
  new : ∀ p q, φ1 p = some q → φ p = some q ∨ ∃ f ob, f < C.ops.size ∧ C.flo f p ob ∧ befB C.b f j = true ∧ ¬ C.reg D f ∧ q = blk f

theorem Inv.lays (I : C.Inv D φ blk s a w) (ok : C.Ok) {j : Nat} (hj : j < C.ops.size) (hD : ¬ D j) (hp : ∀ i, befB C.b i j = true → D i) {fl : List Nat} (hk : C.k.getD j .q = .h fl) :
    ∃ φ1, C.Laid D φ blk j (layP fl (C.ds j).pend (C.ds j).heap) φ1 w := by
  have hh : isHC (C.k.getD j .q) = true := by rw [hk]; rfl
  obtain ⟨hsj, hno⟩ := I.noHard ok hj hD hp hh
  have hheap := ok.R.calm (i := s) j hsj (by omega) hno
  have hnext := ok.R.nle ok.hm hsj (Nat.le_of_lt hj)
  have r0 : Rel C.P C.ρ φ (C.ds j).heap (C.ds j).next w := by rw [hheap]; exact I.rel.skipTo hnext
  have e0 : Ext C.h0 C.φ0 C.w0 (C.ds j).heap φ w := by rw [hheap]; exact I.ext
  have g0 : Grow C.φ0 C.nx0 φ (C.ds j).next := ⟨Nat.le_trans I.grow.1 hnext, I.grow.2⟩
  obtain ⟨p1, p2⟩ := ok.R.pend ok.O j (by omega)
  obtain ⟨p3, p4⟩ := ok.R.pendp j (by omega)
  have hardD : ∀ y, y < j → isHC (C.k.getD y .q) = true → D y := fun y hy hc => hp y (ok.O.total y j hy hj hc hh)
  have facts : ∀ x ∈ (C.ds j).pend, x.1 ∈ fl → x.1 < C.ops.size ∧ C.flo x.1 x.2.1 x.2.2 ∧ D x.1 ∧ ¬ C.reg D x.1 ∧ befB C.b x.1 j = true := by
    intro x hx hxf
    obtain ⟨h1, h2, h3⟩ := p1 x hx
    have hb := (ok.O.fl j fl x.1 hj (by omega) hk (by rw [h2.1]; rfl)).1 hxf
    refine ⟨by omega, h2, hp _ hb, ?_, hb⟩
    rintro ⟨y, y1, y2, y3, y4⟩
    have : y < j := by have := (I.at_ y y1 y3).1 y2; omega
    rw [h3 y this y3] at y4; cases y4
  obtain ⟨φ1, r1, e1, g1, le1, a1, b1⟩ := lay_sound (P := C.P) (ρ := C.ρ) blk fl (C.ds j).pend (C.ds j).heap φ r0 e0 g0 (fun x hx hxf => by
    obtain ⟨h1, h2, h3, h4, h5⟩ := facts x hx hxf
    obtain ⟨⟨vs, cs, t, q1, q2, q3, q4⟩, r2, r3⟩ := I.row x.1 x.2.1 x.2.2 h1 h2 h4 h3
    refine ⟨I.none _ _ _ h1 h2 h4, ok.R.numlt ok.hm h2 (p3 x hx) (by omega), ?_, r2, r3, vs, cs, t, q1, q2, q3, q4⟩
    rw [h2.2.1]; exact ok.R.nx0le ok.hm (by omega)) (by
    refine List.Pairwise.imp_of_mem ?_ p4
    intro x y hx hy hlt hxf hyf
    obtain ⟨h1, h2, h3, h4, h5⟩ := facts x hx hxf
    obtain ⟨g1, g2, g3, g4, g5⟩ := facts y hy hyf
    refine ⟨fun e => ?_, I.diff _ _ _ _ _ _ h1 g1 h2 g2 h3 g3 h4 g4 (by omega)⟩
    have := ok.R.numlt ok.hm g2 hlt (by omega)
    rw [← h2.2.1, e] at this; omega)
  refine ⟨φ1, r1, e1, g1, le1, fun f p ob hf hfl hor => ?_, fun p q hpq => ?_⟩
  · by_cases hr : C.reg D f
    · exact le1 _ _ (I.regd f p ob hf hfl hr)
    · have hb := hor.resolve_left hr
      have hfj := ok.O.lt j f hj hb
      have hfl' := hfl
      rw [hfl.2.1] at hfl'
      have hm := p2 f ob hfj hfl' (fun y hy hc => by
        cases hby : befB C.b f y with
        | false => rfl
        | true => exact absurd ⟨y, by omega, hardD y hy hc, hc, hby⟩ hr)
      have hin := (ok.O.fl j fl f hj hf hk (by rw [hfl.1]; rfl)).2 hb
      rw [hfl.2.1]
      exact a1 _ hm hin
  · rcases b1 p q hpq with h | ⟨x, hx, hxf, rfl, rfl⟩
    · exact .inl h
    · obtain ⟨h1, h2, h3, h4, h5⟩ := facts x hx hxf
      exact .inr ⟨x.1, x.2.2, h1, h2, h5, h4, rfl⟩

theorem Inv.hard (I : C.Inv D φ blk s a w) (ok : C.Ok) {j : Nat} (hj : j < C.ops.size) (hD : ¬ D j) (hp : ∀ i, befB C.b i j = true → D i) (hh : isHC (C.k.getD j .q) = true)
    {h1 : T O} {φ1 : Phi} (L : C.Laid D φ blk j h1 φ1 w) {o : Oper} (ho : C.ops[j]? = some o) {φ2 : Phi} {w' : World} {c : Value} (r2 : Rel C.P C.ρ φ2 (C.ds (j + 1)).heap (C.ds (j + 1)).next w')
    (e2 : Ext h1 φ1 w (C.ds (j + 1)).heap φ2 w') (g2 : Grow φ1 (C.ds j).next φ2 (C.ds (j + 1)).next) (hv : VR C.P C.ρ φ2 (C.val j) c) : C.Inv (more D j) φ2 blk (j + 1) (a.put o.dst c) w' := by
  obtain ⟨hsj, hno⟩ := I.noHard ok hj hD hp hh
  obtain ⟨w1, w2⟩ := I.writes ok hj hD ho (L.le.trans e2.le) (blk' := blk) (fun _ _ => rfl) (c := c) (fun φ' h1 _ => hv.mono h1)
  have hreg := fun {f} => reg_more_hard (C := C) (D := D) hj hh (f := f)
  have nj : ∀ {f p ob}, C.flo f p ob → more D j f → D f := fun hf h => by
    rcases h with h | rfl
    · exact h
    · rw [hf.1] at hh; cases hh
  have un : ∀ {f}, ¬ C.reg (more D j) f → ¬ C.reg D f ∧ befB C.b f j = false := fun h => by
    refine ⟨fun h1 => h (hreg.2 (.inl h1)), ?_⟩
    cases hb : befB C.b _ j with
    | false => rfl
    | true => exact absurd (hreg.2 (.inr hb)) h
  -- blocks that stand for something are not the free rows
  have far : ∀ f p ob, f < C.ops.size → C.flo f p ob → ¬ C.reg (more D j) f → more D j f → ∀ x q, φ1 x = some q → q.B ≠ (blk f).B := by
    intro f p ob hf hfl hr hd x q hx
    obtain ⟨u1, u2⟩ := un hr
    rcases L.new x q hx with h | ⟨g, ob', hg, hgl, hgb, hgr, rfl⟩
    · exact (I.row f p ob hf hfl u1 (nj hfl hd)).2.2 x q h
    · refine I.diff g f x p ob' ob hg hf hgl hfl (hp g hgb) (nj hfl hd) hgr u1 (fun e => ?_)
      subst e; rw [hgb] at u2; cases u2
  refine ⟨more_clo I hp, by omega, fun i hi hc' => ?_, r2, L.ext.trans e2, L.grow.trans g2, by rw [put_size]; exact I.sz, by rw [put_defers]; exact I.defers, w1, w2, fun f p ob hf hfl hr => ?_, fun f p ob hf hfl hr hd => ?_,
    fun f p ob hf hfl hr => ?_, fun f g p q ob ob' hf hg hfl hgl hd1 hd2 hr1 hr2 hne => ?_⟩
  · constructor
    · rintro (h | rfl)
      · have := (I.at_ i hi hc').1 h; omega
      · omega
    · intro h
      by_cases e : i = j
      · exact .inr e
      · exact .inl (hp i (ok.O.total i j (by omega) hj hc' hh))
  · obtain ⟨u1, u2⟩ := un hr
    cases hq : φ2 p with
    | none => rfl
    | some q =>
      exfalso
      cases hq1 : φ1 p with
      | none =>
        have h3 := g2.2 p hq1 (by rw [hq]; simp)
        have h4 := r2.low p q hq
        rcases Nat.lt_trichotomy f j with h | h | h
        · have := ok.R.numlt ok.hm hfl h (by omega); omega
        · subst h; rw [hfl.1] at hh; cases hh
        · have h5 := ok.R.nle ok.hm (f := j + 1) (g := f) h (by omega)
          rw [hfl.2.1] at h4; omega
      | some q1 =>
        rcases L.new p q1 hq1 with h | ⟨g, ob', hg, hgl, hgb, hgr, rfl⟩
        · rw [I.none f p ob hf hfl u1] at h; cases h
        · have := flo_one ok hf hg hfl hgl
          subst this
          rw [hgb] at u2; cases u2
  · obtain ⟨u1, u2⟩ := un hr
    obtain ⟨r3, r4, r5⟩ := I.row f p ob hf hfl u1 (nj hfl hd)
    refine ⟨r3.mono (L.le.trans e2.le) (e2.keep _ r3.lt fun x q _ hx _ _ => far f p ob hf hfl hr hd x q hx), r4, fun x q hx => ?_⟩
    cases hx1 : φ1 x with
    | some q1 =>
      have := e2.le x q1 hx1
      rw [hx] at this; cases this
      exact far f p ob hf hfl hr hd x q hx1
    | none =>
      rcases e2.new x q hx hx1 with h | ⟨b', r', o', h3, h4, h5, h6⟩
      · have := r3.lt; omega
      · rw [← h6]; exact far f p ob hf hfl hr hd b' r' h3
  · exact e2.le _ _ (L.has f p ob hf hfl (hreg.1 hr))
  · exact I.diff f g p q ob ob' hf hg hfl hgl (nj hfl hd1) (nj hgl hd2) (un hr1).1 (un hr2).1 hne

/-! ## Reads -/

theorem cnt_filter (k : Array Cls) {s n : Nat} (h : s ≤ n) : cnt k s = ((List.range n).filter fun i => isHC (k.getD i .q) && decide (i < s)).length := by
  induction n with
  | zero =>
    have : s = 0 := by omega
    subst this; rfl
  | succ n ih =>
    rw [List.range_succ, List.filter_append, List.length_append]
    by_cases e : s = n + 1
    · subst e
      rw [cnt_succ]
      congr 1
      · unfold cnt
        congr 1
        refine List.filter_congr fun x hx => ?_
        have : x < n + 1 := by have := List.mem_range.1 hx; omega
        simp [this]
      · simp only [List.filter_cons, List.filter_nil, Nat.lt_succ_self, decide_true, Bool.and_true]
        split <;> rfl
    · rw [← ih (by omega)]
      have : ¬ n < s := by omega
      simp [this]

theorem filter_le (n : Nat) {p q : Nat → Bool} (h : ∀ i, i < n → p i = true → q i = true) : ((List.range n).filter p).length ≤ ((List.range n).filter q).length := by
  rw [← List.countP_eq_length_filter, ← List.countP_eq_length_filter]
  exact List.countP_mono_left fun x hx => h x (List.mem_range.1 hx)

theorem cnt_le (k : Array Cls) {i j : Nat} (h : i ≤ j) : cnt k i ≤ cnt k j := by
  induction j with
  | zero => have : i = 0 := by omega
            subst this; exact Nat.le_refl _
  | succ j ih =>
    by_cases e : i = j + 1
    · subst e; exact Nat.le_refl _
    · have := ih (by omega)
      rw [cnt_succ]; omega

theorem sameHeap (ok : C.Ok) {i j : Nat} (hij : i ≤ j) (hj : j ≤ C.ops.size) (hc : cnt C.k i = cnt C.k j) : (C.ds j).heap = (C.ds i).heap := by
  refine ok.R.calm j hij hj fun x h1 h2 => ?_
  cases hx : isHC (C.k.getD x .q) with
  | false => rfl
  | true =>
    have a1 := cnt_le C.k h1
    have a2 := cnt_le C.k (show x + 1 ≤ j from h2)
    rw [cnt_succ, hx] at a2
    simp at a2; omega

theorem Inv.read (I : C.Inv D φ blk s a w) (ok : C.Ok) {j : Nat} (hj : j < C.ops.size) (hD : ¬ D j) (hp : ∀ i, befB C.b i j = true → D i) {lo hi : Nat} (hk : C.k.getD j .q = .r lo hi) {ri : RI}
    (hv : evR ri (C.ds j).stk (C.ds j).slots (C.ds j).heap = some (C.val j)) (hrd : lo ≠ hi → ⟨lo, hi, ri, (C.ds j).stk, (C.ds j).slots, C.val j⟩ ∈ (C.ds (j + 1)).rds) :
    evR ri (C.ds j).stk (C.ds j).slots (C.ds s).heap = some (C.val j) := by
  obtain ⟨hlo, hhi⟩ := ok.O.rd j lo hi hj hk
  have c1 := cnt_filter C.k I.sle
  have c2 := cnt_filter C.k (Nat.le_of_lt hj)
  have s1 : lo ≤ cnt C.k s := by
    rw [c1]; refine Nat.le_trans hlo (filter_le _ fun i hi' h => ?_)
    simp only [Bool.and_eq_true, decide_eq_true_eq] at h ⊢
    exact ⟨h.1, (I.at_ i hi' h.1).1 (hp i h.2)⟩
  have s2 : cnt C.k s ≤ hi := by
    rw [c1]; refine Nat.le_trans (filter_le _ fun i hi' h => ?_) hhi
    simp only [Bool.and_eq_true, decide_eq_true_eq, Bool.not_eq_true'] at h ⊢
    exact ⟨h.1, I.behind hD hi' ((I.at_ i hi' h.1).2 h.2)⟩
  by_cases e : lo = hi
  · have t1 : lo ≤ cnt C.k j := by
      rw [c2]; refine Nat.le_trans hlo (filter_le _ fun i hi' h => ?_)
      simp only [Bool.and_eq_true, decide_eq_true_eq] at h ⊢
      exact ⟨h.1, ok.O.lt j i hj h.2⟩
    have t2 : cnt C.k j ≤ hi := by
      rw [c2]; refine Nat.le_trans (filter_le _ fun i hi' h => ?_) hhi
      simp only [Bool.and_eq_true, decide_eq_true_eq, Bool.not_eq_true'] at h ⊢
      refine ⟨h.1, ?_⟩
      cases hb : befB C.b j i with
      | false => rfl
      | true => have := ok.O.lt i j hi' hb; omega
    have hc : cnt C.k s = cnt C.k j := by omega
    rcases Nat.le_total s j with h | h
    · rw [← sameHeap ok h (by omega) hc]; exact hv
    · rw [sameHeap ok h I.sle hc.symm]; exact hv
  · have hm := (ok.R.suf ok.hm (i := j + 1) C.ops.size hj (Nat.le_refl _)).2.1 _ (hrd e)
    have hs := allSame_mem ok.all _ hm
    obtain ⟨⟨l, hl⟩, _, _⟩ := ok.R.suf ok.hm (i := s) C.ops.size I.sle (Nat.le_refl _)
    obtain ⟨a1, a2, a3⟩ := ok.R.hard C.ops.size (Nat.le_refl _)
    obtain ⟨b1, b2, b3⟩ := ok.R.hard s I.sle
    have hlen := congrArg List.length hl
    rw [List.length_append, a2, b2] at hlen
    rw [a1] at hs
    refine sameIn_sound _ _ _ hs l.length (C.ds s).heap ?_ (by omega) (by show lo ≤ _; omega) (by show _ ≤ hi; omega)
    rw [hl, List.getElem?_append_right (Nat.le_refl _), Nat.sub_self, ← List.head?_eq_getElem?]
    exact b3

end Ctx
end GoVm

/- Regions that draw their order run as the virtual machine says. -/
namespace GoVm
open Go (Value World Program Oper Op Exit Obj yielded Code wpOp wpAny)

namespace Ctx
variable {C : Ctx} {D : Nat → Prop} {φ : Phi} {blk : Nat → Blk} {s : Nat} {a : Go.Act} {w : World}

/-- What every order keeps, without its parts. -/
def Keeps (C : Ctx) (D : Nat → Prop) (a : Go.Act) (w : World) : Prop := ∃ φ blk s, C.Inv D φ blk s a w

theorem step (ok : C.Ok) {Q : Exit → Go.Act → World → Prop} (I : C.Inv D φ blk s a w) {j : Nat} (hj : j < C.ops.size) (hD : ¬ D j)
    (hr : ∀ o, C.ops[j]? = some o → ∀ e ∈ o.after, Go.Region.binds .any e = true → D e.on) : wpOp C.P C.ops Q j (C.Keeps (more D j)) a w := by
  have hp := I.pre ok hj hr
  obtain ⟨o, it, gi, q, d1, ho, hit, hgi, hwant, g, s1, s2, s3, s4, s5, s6⟩ := ok.R.mem hj
  rw [unG_guard hgi hit] at g
  -- the operands where nothing is laid
  have softEr : isHC (C.k.getD j .q) = false → ER C.P C.ρ C.m { C.es j with only := some (namesOf C.ops o) } φ (C.ds j).stk (C.ds j).slots a := by
    intro hh
    refine I.er ok hj hD hp (.refl φ) (fun f p ob hf hfl hb => ?_) ho
    rcases ok.O.free f j hf hj (by rw [hfl.1]; rfl) hb with h | ⟨x, hx, h1, h2, h3⟩
    · rw [hh] at h; cases h
    · exact I.regd f p ob hf hfl ⟨x, hx, hp x h3, h1, h2⟩
  -- not wanted
  have notW : Go.Region.wanted o (yielded C.ops a.tmps) = false → C.Keeps (more D j) (a.put o.dst Go.undef) w → wpOp C.P C.ops Q j (C.Keeps (more D j)) a w := by
    intro h1 h2
    simp only [wpOp, ho, h1]
    exact h2
  have yesW : Go.Region.wanted o (yielded C.ops a.tmps) = true → ∀ {R : Value → World → Prop}, Op1 C.P a o w R → (∀ c w', R c w' → C.Keeps (more D j) (a.put o.dst c) w') → wpOp C.P C.ops Q j (C.Keeps (more D j)) a w := by
    intro h1 R h2 h3
    simp only [wpOp, ho, h1, if_true]
    exact .inl (h2 _ _ h3)
  have gok : ∀ {φ1 : Phi}, PhiLe φ φ1 → Gok C.P φ1 := fun h => ok.beg.gok.mono (I.ext.le.trans h)
  have hitop := hit
  cases hc : C.k.getD j .q with
  | q =>
    have hh : isHC (C.k.getD j .q) = false := by rw [hc]; rfl
    have hE := softEr hh
    have hw := want_sound hgi hit hE hwant
    have hnf : ∀ p ob, ¬ C.flo j p ob := fun p ob h => by have := h.1; rw [hc] at this; cases this
    rw [hc] at g
    generalize hv : C.val j = v at g
    cases g with
    | no _ => exact notW hw ⟨φ, blk, s, I.soft ok hj hD hp hh hnf ho (by rw [hv]; exact VR.undef)⟩
    | p hev =>
      refine yesW hw (R := fun c w' => VR C.P C.ρ φ (C.val j) c ∧ w' = w) ?_ (fun c w' hcw => ?_)
      · obtain ⟨c, y, hvr⟩ := (opP_sound hE hit (by rw [← hv] at hev; exact hev) w).yields
        exact y.op ⟨hvr, rfl⟩
      · obtain ⟨h1, rfl⟩ := hcw
        exact ⟨φ, blk, s, I.soft ok hj hD hp hh hnf ho h1⟩
  | r lo hi =>
    have hh : isHC (C.k.getD j .q) = false := by rw [hc]; rfl
    have hE := softEr hh
    have hw := want_sound hgi hit hE hwant
    have hnf : ∀ p ob, ¬ C.flo j p ob := fun p ob h => by have := h.1; rw [hc] at this; cases this
    rw [hc] at g
    generalize hv : C.val j = v at g
    cases g with
    | no _ => exact notW hw ⟨φ, blk, s, I.soft ok hj hD hp hh hnf ho (by rw [hv]; exact VR.undef)⟩
    | r hev =>
      have hev' := I.read ok hj hD hp hc (by rw [hv]; exact hev) (fun hne => by
        rw [s5, if_neg hne, hv]; exact List.mem_cons_self)
      refine yesW hw (R := fun c w' => VR C.P C.ρ φ (C.val j) c ∧ w' = w) ?_ (fun c w' hcw => ?_)
      · obtain ⟨c, y, hvr⟩ := (opR_sound hE I.rel hit hev').yields
        exact y.op ⟨hvr, rfl⟩
      · obtain ⟨h1, rfl⟩ := hcw
        exact ⟨φ, blk, s, I.soft ok hj hD hp hh hnf ho h1⟩
  | f =>
    have hh : isHC (C.k.getD j .q) = false := by rw [hc]; rfl
    have hE := softEr hh
    have hw := want_sound hgi hit hE hwant
    rw [hc] at g
    generalize hv : C.val j = v at g
    cases g with
    | no _ =>
      have hnf : ∀ p ob, ¬ C.flo j p ob := fun p ob h => by
        have h1 := h.2.2.1
        rw [s2, h.2.1] at h1
        have := congrArg Pos.num h1
        rw [Pos.num_succ] at this; omega
      exact notW hw ⟨φ, blk, s, I.soft ok hj hD hp hh hnf ho (by rw [hv]; exact VR.undef)⟩
    | f hev =>
      rename_i fi ob
      have hfl : C.flo j (C.ds j).next ob := ⟨hc, rfl, s2, o, fi, ho, hit, by rw [hv]; exact hev⟩
      obtain ⟨c, vs, cs, t, m1, m2, m3, m4⟩ := opF_sound (w := w) hE hit (C.ds j).next hev
      refine yesW hw (R := fun c' w' => c' = c ∧ w' = w.alloc (.cells cs t)) (Yields.op (.inl m1) ⟨rfl, rfl⟩) (fun c' w' hcw => ?_)
      obtain ⟨rfl, rfl⟩ := hcw
      exact ⟨φ, _, s, I.float ok hj hD hp hfl ho m2 m3 (by rw [hv]; exact m4)⟩
  | h fl =>
    have hh : isHC (C.k.getD j .q) = true := by rw [hc]; rfl
    obtain ⟨φ1, L⟩ := I.lays ok hj hD hp hc
    have hE := I.er ok hj hD hp L.le (fun f p ob hf hfl hb => L.has f p ob hf hfl (.inr hb)) ho
    have hw := want_sound hgi hit hE hwant
    rw [hc] at g
    generalize hv : C.val j = v at g
    cases g with
    | no h => cases h
    | noh =>
      refine notW hw ⟨φ1, blk, j + 1, I.hard ok hj hD hp hh L ho ?_ ?_ ?_ (by rw [hv]; exact VR.undef)⟩
      · rw [s1, s2]; exact L.rel
      · rw [s1]; exact .refl _ _ _
      · rw [s2]; exact .refl _ _
    | h hev =>
      rename_i h' nx'
      refine yesW hw (evI_sound ok.hc hE L.rel (gok L.le) hit hev) (fun c w' hcw => ?_)
      obtain ⟨φ2, v2, r2, e2, g2⟩ := hcw
      refine ⟨φ2, blk, j + 1, I.hard ok hj hD hp hh L ho ?_ ?_ ?_ (by rw [hv]; exact v2)⟩
      · rw [s1, s2]; exact r2
      · rw [s1]; exact e2
      · rw [s2]; exact g2

theorem start (ok : C.Ok) {d : Nat} : C.Inv (fun _ => False) C.φ0 (fun _ => ⟨0, 0, 0, 0⟩) 0 C.a0 { C.w0 with drawn := d } := by
  have h0 : C.ds 0 = ⟨[], C.slots0, C.h0, C.nx0, [], [C.h0], [], 0⟩ := ok.R.zero
  have nr : ∀ f, ¬ C.reg (fun _ => False) f := fun f ⟨y, _, h, _⟩ => h
  refine ⟨fun i j _ h _ => h, Nat.zero_le _, fun i _ _ => ⟨fun h => h.elim, fun h => by omega⟩, ?_, ?_, ?_, ok.beg.sz, rfl, fun i t _ h => h.elim, fun t _ => rfl, fun f p ob hf hfl hr => ?_, fun f p ob hf hfl hr h => h.elim,
    fun f p ob hf hfl hr => absurd hr (nr f), fun f g p q ob ob' hf hg hfl hgl h => h.elim⟩
  · rw [h0]; exact ok.beg.rel.same rfl
  · rw [h0]; exact .same _ _ rfl rfl rfl rfl
  · rw [h0]; exact .refl _ _
  · cases hq : C.φ0 p with
    | none => rfl
    | some q =>
      have h1 := ok.beg.rel.low p q hq
      have h2 := ok.R.nx0le ok.hm (g := f) (by omega)
      rw [hfl.2.1] at h1; omega

/-- At the end. -/
theorem done (ok : C.Ok) (I : C.Inv D φ blk s a w) (hall : ∀ i, i < C.ops.size → D i)
    (hfin : ∀ t p v, slotOf C.m t = some p → (C.ds C.ops.size).slots.get p = some v → Stands C.ops C.m C.slots0 C.val C.ops.size t v) :
    Left C.P C.ρ C.m C.N C.φ0 C.h0 C.nx0 C.a0 C.w0 (C.ds C.ops.size).slots (layAll (C.ds C.ops.size).pend (C.ds C.ops.size).heap) (C.ds C.ops.size).next a w := by
  have hno : ∀ x, s ≤ x → x < C.ops.size → isHC (C.k.getD x .q) = false := by
    intro x h1 h2
    cases hc : isHC (C.k.getD x .q) with
    | false => rfl
    | true => have := (I.at_ x h2 hc).1 (hall x h2); omega
  have hheap := ok.R.calm (i := s) C.ops.size I.sle (Nat.le_refl _) hno
  have hnext := ok.R.nle ok.hm I.sle (Nat.le_refl _)
  have r0 : Rel C.P C.ρ φ (C.ds C.ops.size).heap (C.ds C.ops.size).next w := by rw [hheap]; exact I.rel.skipTo hnext
  have e0 : Ext C.h0 C.φ0 C.w0 (C.ds C.ops.size).heap φ w := by rw [hheap]; exact I.ext
  have g0 : Grow C.φ0 C.nx0 φ (C.ds C.ops.size).next := ⟨Nat.le_trans I.grow.1 hnext, I.grow.2⟩
  obtain ⟨p1, p2⟩ := ok.R.pend ok.O C.ops.size (Nat.le_refl _)
  obtain ⟨p3, p4⟩ := ok.R.pendp C.ops.size (Nat.le_refl _)
  have facts : ∀ x ∈ (C.ds C.ops.size).pend, x.1 < C.ops.size ∧ C.flo x.1 x.2.1 x.2.2 ∧ D x.1 ∧ ¬ C.reg D x.1 := by
    intro x hx
    obtain ⟨h1, h2, h3⟩ := p1 x hx
    refine ⟨h1, h2, hall _ h1, ?_⟩
    rintro ⟨y, y1, y2, y3, y4⟩
    rw [h3 y y1 y3] at y4; cases y4
  obtain ⟨φ1, r1, e1, g1, le1, a1, b1⟩ := lay_sound (P := C.P) (ρ := C.ρ) blk ((C.ds C.ops.size).pend.map (·.1)) (C.ds C.ops.size).pend (C.ds C.ops.size).heap φ r0 e0 g0 (fun x hx _ => by
    obtain ⟨h1, h2, h3, h4⟩ := facts x hx
    obtain ⟨⟨vs, cs, t, q1, q2, q3, q4⟩, r2, r3⟩ := I.row x.1 x.2.1 x.2.2 h1 h2 h4 h3
    refine ⟨I.none _ _ _ h1 h2 h4, ok.R.numlt ok.hm h2 (p3 x hx) (Nat.le_refl _), ?_, r2, r3, vs, cs, t, q1, q2, q3, q4⟩
    rw [h2.2.1]; exact ok.R.nx0le ok.hm (by omega)) (by
    refine List.Pairwise.imp_of_mem ?_ p4
    intro x y hx hy hlt _ _
    obtain ⟨h1, h2, h3, h4⟩ := facts x hx
    obtain ⟨g1, g2, g3, g4⟩ := facts y hy
    refine ⟨fun e => ?_, I.diff _ _ _ _ _ _ h1 g1 h2 g2 h3 g3 h4 g4 (by omega)⟩
    have := ok.R.numlt ok.hm g2 hlt (by omega)
    rw [← h2.2.1, e] at this; omega)
  rw [layAll_layP ((C.ds C.ops.size).pend.map (·.1)) _ _ (fun x hx => List.mem_map_of_mem hx)]
  have has : ∀ f p ob, f < C.ops.size → C.flo f p ob → φ1 p = some (blk f) := by
    intro f p ob hf hfl
    by_cases hr : C.reg D f
    · exact le1 _ _ (I.regd f p ob hf hfl hr)
    · have hfl' := hfl
      rw [hfl.2.1] at hfl'
      have hm := p2 f ob hf hfl' (fun y hy hc => by
        cases hby : befB C.b f y with
        | false => rfl
        | true => exact absurd ⟨y, hy, hall y hy, hc, hby⟩ hr)
      rw [hfl.2.1]
      exact a1 _ hm (List.mem_map_of_mem hm)
  refine ⟨⟨φ1, fun t p v h1 h2 => ?_, r1, e1, g1⟩, I.sz, I.defers⟩
  rcases hfin t p v h1 h2 with ⟨i, q1, q2, q3, q4⟩ | ⟨q1, p', q2, q3⟩
  · have := I.val i t q1 (hall i q1) q2 (fun x hx _ hd => by
      rcases Nat.lt_or_ge i x with h | h
      · exact absurd hd (q4 x h hx)
      · exact h)
    rw [← q3]
    exact this φ1 le1 (fun p ob hf => has i p ob q1 hf)
  · rw [I.old t (fun x hx _ hd => q1 x hx hd)]
    exact (ok.beg.sr t p' v q2 q3).mono (I.ext.le.trans le1)

end Ctx

theorem befB_classify {ops : Array Oper} {cs : List CO} {l : List (Cls × CO)} (h : classify ops cs = some l) : ∃ k : Array Cls, OrdOk ops (Go.Region.before ops) k ∧ l = k.toList.zip cs := by
  unfold classify at h
  simp only at h
  split at h
  · rename_i hh
    simp only [Bool.and_eq_true] at hh
    cases h
    exact ⟨_, ordOk hh.1.1 hh.1.2 hh.2, rfl⟩
  · cases h

theorem draw_ok {P : Program} {ρ : Nat → Int} {call : Caller} (hmix : P.follows .mixedOrders = true) (hc : CallOk P ρ call) (hm : CallMono call) {m : SlotMap} (hI : Inj m) (N : Nat) : DrawOk P ρ m N call := by
  intro id ops vc hvc l hl slots h nx slots' h' nx' hr φ a w B Q hQ
  simp only [compRegion, if_true] at hvc
  split at hvc
  · cases hvc
  · rename_i cs hcs
    split at hvc
    · cases hvc
    · rename_i l' hl'
      cases hvc
      cases hl
      obtain ⟨k, O, rfl⟩ := befB_classify hl'
      change (Option.rec St.no (fun d : DSt => cnd (allSame d.hard d.vers d.rds) (.ok d.slots (layAll d.pend d.heap) d.next) .no) (runD call (k.toList.zip cs) 0 ⟨[], slots, h, nx, [], [h], [], 0⟩) : St) = _ at hr
      cases hd : runD call (k.toList.zip cs) 0 ⟨[], slots, h, nx, [], [h], [], 0⟩ with
      | none => rw [hd] at hr; cases hr
      | some d =>
        rw [hd] at hr
        change cnd (allSame d.hard d.vers d.rds) (St.ok d.slots (layAll d.pend d.heap) d.next) .no = _ at hr
        cases ha : allSame d.hard d.vers d.rds with
        | false => rw [ha] at hr; cases hr
        | true =>
          rw [ha] at hr
          cases hr
          obtain ⟨val, ds, es, t1, t2, t3, t4, t5⟩ := trace (P := P) (m := m) (call := call) (ops := ops) hI (k := k) (slots0 := slots) (G := P.globals.size) (N := N) O.size ops.toList 0 (fun _ => undefV)
            (e := env0 P.globals.size N) (cs := cs) (d := ⟨[], slots, h, nx, [], [h], [], 0⟩) (dfin := d) (by simp) (by simp) hcs (by simpa using hd)
            ⟨rfl, (fun x hx => by cases hx), fun t p v h1 h2 => .inr ⟨fun i hi => by omega, p, h1, h2⟩⟩ rfl rfl
          let C : Ctx := ⟨P, ρ, m, ops, call, k, Go.Region.before ops, slots, val, N, h, nx, es, ds, φ, a, w⟩
          have ok : C.Ok := ⟨hI, O, ⟨t2, fun i hi => t4 i (Nat.zero_le _) hi⟩, hc, hm, by show allSame (ds ops.size).hard (ds ops.size).vers (ds ops.size).rds = true; rw [t3]; exact ha, B⟩
          refine Go.wp_region_any hmix (any_sound O (Ctx.Keeps C) ?_ ?_ ?_ ops.size _ a _ (by simp) ?_ ?_)
          · intro D D' a w hiff
            rintro ⟨φ, blk, s, I⟩
            have he : ∀ i, i < C.ops.size → (D i ↔ D' i) := hiff
            have rg : ∀ f, C.reg D f ↔ C.reg D' f := fun f => ⟨fun ⟨y, y1, y2, y3⟩ => ⟨y, y1, (he y y1).1 y2, y3⟩, fun ⟨y, y1, y2, y3⟩ => ⟨y, y1, (he y y1).2 y2, y3⟩⟩
            refine ⟨φ, blk, s, fun i j hj hD hb => ?_, I.sle, fun i hi hh => (he i hi).symm.trans (I.at_ i hi hh), I.rel, I.ext, I.grow, I.sz, I.defers, fun i t hi hD hd hmax => ?_, fun t hno => ?_, fun f p ob hf hfl hrg => ?_,
              fun f p ob hf hfl hrg hD => ?_, fun f p ob hf hfl hrg => ?_, fun f g p q ob ob' hf hg hfl hgl h1 h2 h3 h4 hne => ?_⟩
            · have hlt := O.lt j i hj hb
              exact (he i (by omega)).1 (I.clo i j hj ((he j hj).2 hD) hb)
            · exact I.val i t hi ((he i hi).2 hD) hd (fun x hx hxD hdx => hmax x hx ((he x hx).1 hxD) hdx)
            · exact I.old t (fun x hx hxD => hno x hx ((he x hx).1 hxD))
            · exact I.none f p ob hf hfl (fun h => hrg ((rg f).1 h))
            · exact I.row f p ob hf hfl (fun h => hrg ((rg f).1 h)) ((he f hf).2 hD)
            · exact I.regd f p ob hf hfl ((rg f).2 hrg)
            · exact I.diff f g p q ob ob' hf hg hfl hgl ((he f hf).2 h1) ((he g hg).2 h2) (fun h => h3 ((rg f).1 h)) (fun h => h4 ((rg g).1 h)) hne
          · rintro D a w j ⟨φ, blk, s, I⟩ hj hD hrd
            exact Ctx.step ok I hj hD hrd
          · rintro D a' w' hall ⟨φ', blk, s, I⟩
            refine hQ a' w' ?_
            have := Ctx.done ok I hall (by
              intro t p v h1 h2
              refine t5 t p v h1 ?_
              have h3 : (ds ops.size).slots.get p = some v := h2
              rw [t3] at h3; exact h3)
            have hds : C.ds C.ops.size = d := t3
            rw [hds] at this
            exact this
          · have : ∀ n, left n (Array.replicate ops.size false) ≤ n := fun n => by
              unfold left
              have := List.length_filter_le (fun i => !((Array.replicate ops.size false).getD i true)) (List.range n)
              simpa using this
            exact this _
          · refine ⟨φ, fun _ => ⟨0, 0, 0, 0⟩, 0, ?_⟩
            have h0 := Ctx.start (d := w.drawn + 1) ok
            have e : (fun i => (Array.replicate ops.size false).getD i false = true) = (fun _ => False) := by
              funext i
              simp only [Array.getD_eq_getD_getElem?, Array.getElem?_replicate, eq_iff_iff, iff_false]
              split <;> simp
            rw [e]
            exact h0

/-- All calls are right. -/
theorem calls_ok {P : Program} {ρ : Nat → Int} (hmix : P.follows .mixedOrders = true) {fns : Nat → Option VFn} {prims : Caller} (hp : CallOk P ρ prims) (hpm : CallMono prims) (hf : ∀ f vf, fns f = some vf → FnOk P f vf) (n : Nat) :
    CallOk P ρ (callN fns prims n) :=
  callN_sound hp hf (fun n hc _ N hI => draw_ok hmix hc (callN_mono hpm n) hI N) n

end GoVm

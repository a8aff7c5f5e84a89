/- As the text Region (a region that draws its order, walked once in the text's order); here an operation may be a store. Printed from Region's template by a small program. -/
import Derived.Test.YtaeppaaolkcbbaaGreatDoorMg02
namespace Go.Proofs.YtaeppaaolkcbbaaGreatDoor.St
open Go Go.RowKit

inductive OKind where
 | det
 | rel (Fp : List Value → Value → Prop) (Fw : List Value → Value → World → Prop)

def OpVal (P : Program) (o : Oper) (a : Act) (w : World) (ψ : Value → World → Prop) : Prop :=
 match (execOp a.eval o).run P w with
 | .ok (.value v) w' => ψ v w'
 | .ok .skip w' => ψ undef w'
 | .ok (.enter f args) w' => Calls P f args w' (fun e w'' => ∃ v, e = .returned v ∧ ψ v w'')
 | _ => False

abbrev Vals := Nat → Option (Value × Option (World → Prop))
def Vals.set (val : Vals) (i : Nat) (x : Value × Option (World → Prop)) : Vals := fun j => if j = i then some x else val j
theorem Vals.set_same (val : Vals) (i : Nat) (x : Value × Option (World → Prop)) : val.set i x i = some x := by simp [Vals.set]
theorem Vals.set_ne (val : Vals) {i j : Nat} (x : Value × Option (World → Prop)) (h : j ≠ i) : val.set i x j = val j := by simp [Vals.set, h]

def opArgs (o : Oper) (a : Act) : List Value := o.op.operands.toList.map a.eval
def pushF (i : Nat) (φ : Option (World → Prop)) (H : List (Nat × (World → Prop))) : List (Nat × (World → Prop)) :=
 match φ with | some f => (i, f) :: H | none => H

section
variable (P : Program) (ops : Array Oper) (G : World → World → Prop) (w0 : World) (kind : Nat → OKind) (bef : Nat → Nat → Bool) (T : Act → World → Prop)

def rvc : List Oper → Nat → Vals → Act → List (Nat × (World → Prop)) → Prop
 | [], _, _, a, H => ∀ w, G w0 w → (∀ p ∈ H, p.2 w) → T a w
 | o :: rest, i, val, a, H =>
  match val i with
  | some (v, φ) => rvc rest (i + 1) val (a.put o.dst v) (pushF i φ H)
  | none =>
   if Region.wanted o (yielded ops a.tmps) = true then
    match kind i with
    | .det => ∃ v, (∀ w, G w0 w → (∀ p ∈ H, bef i p.1 = true → p.2 w) → (execOp a.eval o).run P w = .ok (.value v) w) ∧ rvc rest (i + 1) val (a.put o.dst v) H
    | .rel Fp Fw => (∃ v, Fp (opArgs o a) v) ∧
      (∀ w, G w0 w → (∀ p ∈ H, bef i p.1 = true → p.2 w) → OpVal P o a w (fun v w' => Fp (opArgs o a) v ∧ G w w' ∧ Fw (opArgs o a) v w')) ∧
      ∀ v, Fp (opArgs o a) v → rvc rest (i + 1) val (a.put o.dst v) ((i, Fw (opArgs o a) v) :: H)
   else rvc rest (i + 1) val (a.put o.dst undef) H

def realF : List Oper → Nat → Vals → Act → Act
 | [], _, _, a => a
 | o :: rest, i, val, a => realF rest (i + 1) val (match val i with | some (v, _) => a.put o.dst v | none => a)
end

def Agree (T : List Tmp) (a b : Act) : Prop := ∀ t ∈ T, a.tmps[t]? = b.tmps[t]?
theorem Agree.refl (T : List Tmp) (a : Act) : Agree T a a := fun _ _ => rfl
theorem Agree.symm {T : List Tmp} {a b : Act} (h : Agree T a b) : Agree T b a := fun t ht => (h t ht).symm
theorem Agree.trans {T : List Tmp} {a b c : Act} (h : Agree T a b) (k : Agree T b c) : Agree T a c := fun t ht => (h t ht).trans (k t ht)
theorem agree_put {T : List Tmp} {a : Act} {dst : Option Tmp} {v : Value} (h : ∀ d, dst = some d → d ∉ T) : Agree T (a.put dst v) a := by
 intro t ht
 cases dst with
 | none => rfl
 | some d =>
  have hne : d ≠ t := fun e => h d rfl (e ▸ ht)
  simp [Act.put, Array.getElem?_setIfInBounds_ne hne]
theorem agree_put2 {T : List Tmp} {a b : Act} (dst : Option Tmp) (v : Value) (h : Agree T a b) : Agree T (a.put dst v) (b.put dst v) := by
 intro t ht
 have hab := h t ht
 cases dst with
 | none => exact hab
 | some d =>
  by_cases e : d = t
  ·subst e
   simp only [Act.put, Array.getElem?_setIfInBounds_self]
   have h2 : (a.tmps.size ≤ d) ↔ (b.tmps.size ≤ d) := by
    rw [← Array.getElem?_eq_none_iff, ← Array.getElem?_eq_none_iff, hab]
   have h3 : (d < a.tmps.size) ↔ (d < b.tmps.size) := by rw [← Nat.not_le, ← Nat.not_le, h2]
   simp [h3]
  ·simp [Act.put, Array.getElem?_setIfInBounds_ne e, hab]
theorem realF_agree2 {T : List Tmp} {val : Vals} : ∀ (rest : List Oper) (k : Nat) (a b : Act), Agree T a b → Agree T (realF rest k val a) (realF rest k val b)
 | [], _, _, _, h => h
 | o :: rest, k, a, b, h => by
  simp only [realF]
  cases val k with
  | none => exact realF_agree2 rest (k + 1) a b h
  | some x => obtain ⟨v, _⟩ := x; exact realF_agree2 rest (k + 1) _ _ (agree_put2 _ v h)
theorem realF_agree {T : List Tmp} {val : Vals} : ∀ (rest : List Oper) (k : Nat) (a : Act),
  (∀ m om, rest[m]? = some om → (val (k + m)).isSome = true → ∀ d, om.dst = some d → d ∉ T) → Agree T (realF rest k val a) a
 | [], _, _, _ => Agree.refl _ _
 | o :: rest, k, a, h => by
  have hr := fun b => realF_agree (T := T) (val := val) rest (k + 1) b (fun m om hm hv => h (m + 1) om (by simpa using hm) (by rw [show k + (m + 1) = k + 1 + m by omega]; exact hv))
  simp only [realF]
  cases hk : val k with
  | none => exact hr a
  | some x =>
   obtain ⟨v, φ⟩ := x
   exact (hr _).trans (agree_put (h 0 o rfl (by simp [hk])))

theorem agree_eval {ops : Array Oper} {o : Oper} {a b : Act} (h : Agree (o.looksAt ops) a b) : ∀ x ∈ o.op.operands, a.eval x = b.eval x := by
 intro x hx
 cases x with
 | tmp t =>
  have := h t (List.mem_append_left _ (List.mem_filterMap.2 ⟨.tmp t, by simpa using hx, rfl⟩))
  simp only [Act.eval, Array.getD_eq_getD_getElem?, this]
 | _ => rfl
theorem agree_args {ops : Array Oper} {o : Oper} {a b : Act} (h : Agree (o.looksAt ops) a b) : opArgs o a = opArgs o b :=
 List.map_congr_left fun x hx => agree_eval h x (by simpa using hx)
theorem agree_wanted {ops : Array Oper} {o : Oper} {a b : Act} (h : Agree (o.looksAt ops) a b) :
  Region.wanted o (yielded ops a.tmps) = Region.wanted o (yielded ops b.tmps) := by
 unfold Region.wanted
 cases hg : o.guard with
 | none => rfl
 | some gw =>
  obtain ⟨g, want⟩ := gw
  have hy : yielded ops a.tmps g = yielded ops b.tmps g := by
   unfold yielded
   cases ht : (ops[g]?).bind (·.dst) with
   | none => rfl
   | some t =>
    have := h t (by simp [Oper.looksAt, hg, ht])
    simp [this]
  simp only [hy]

section
variable {P : Program} {ops : Array Oper} {G : World → World → Prop} {w0 : World} {kind : Nat → OKind} {bef : Nat → Nat → Bool} {T : Act → World → Prop}

theorem rvc_congr {val val' : Vals} : ∀ (rest : List Oper) (k : Nat) (a : Act) (H : List (Nat × (World → Prop))), (∀ j, k ≤ j → val j = val' j) →
  rvc P ops G w0 kind bef T rest k val a H → rvc P ops G w0 kind bef T rest k val' a H
 | [], _, _, _, _, h => h
 | o :: rest, k, a, H, he, h => by
  have ih := fun a H => rvc_congr (val := val) (val' := val') rest (k + 1) a H (fun j hj => he j (by omega))
  simp only [rvc] at h ⊢
  rw [← he k (Nat.le_refl _)]
  cases hv : val k with
  | some x => obtain ⟨v, φ⟩ := x; simp only [hv] at h; exact ih _ _ h
  | none =>
   simp only [hv] at h
   by_cases hw : Region.wanted o (yielded ops a.tmps) = true
   ·simp only [hw, if_true] at h ⊢
    cases hkd : kind k with
    | det => simp only [hkd] at h; obtain ⟨v, h1, h2⟩ := h; exact ⟨v, h1, ih _ _ h2⟩
    | rel Fp Fw => simp only [hkd] at h; obtain ⟨h0, h1, h2⟩ := h; exact ⟨h0, h1, fun v hv => ih _ _ (h2 v hv)⟩
   ·simp only [hw] at h ⊢; exact ih _ _ h

def StepOK (P : Program) (ops : Array Oper) (G : World → World → Prop) (kind : Nat → OKind) (i : Nat) (o : Oper) (ar : Act) (w : World) (R : Value × Option (World → Prop) → Prop) : Prop :=
 if Region.wanted o (yielded ops ar.tmps) = true then
  match kind i with
  | .det => ∃ v, (execOp ar.eval o).run P w = .ok (.value v) w ∧ R (v, none)
  | .rel Fp Fw => OpVal P o ar w (fun v w' => Fp (opArgs o ar) v ∧ G w w' ∧ Fw (opArgs o ar) v w') ∧ ∀ v, Fp (opArgs o ar) v → R (v, some (Fw (opArgs o ar) v))
 else R (undef, none)

theorem StepOK.and {i : Nat} {o : Oper} {ar : Act} {w : World} {α : Type} {p : α → Prop} {R : α → Value × Option (World → Prop) → Prop} (hx : ∃ x, p x)
  (h : ∀ x, p x → StepOK P ops G kind i o ar w (R x)) : StepOK P ops G kind i o ar w (fun y => ∀ x, p x → R x y) := by
 unfold StepOK at *
 by_cases hw : Region.wanted o (yielded ops ar.tmps) = true
 ·simp only [hw, if_true] at h ⊢
  cases hk : kind i with
  | det =>
   simp only [hk] at h ⊢
   obtain ⟨x0, hx0⟩ := hx
   obtain ⟨v, hv, _⟩ := h x0 hx0
   refine ⟨v, hv, fun x px => ?_⟩
   obtain ⟨v', hv', hr⟩ := h x px
   rw [hv] at hv'
   cases hv'
   exact hr
  | rel Fp Fw =>
   simp only [hk] at h ⊢
   obtain ⟨x0, hx0⟩ := hx
   exact ⟨(h x0 hx0).1, fun v hv x px => (h x px).2 v hv⟩
 ·simp only [hw] at h ⊢
  exact fun x px => h x px

theorem StepOK.mono {i : Nat} {o : Oper} {ar : Act} {w : World} {R R' : Value × Option (World → Prop) → Prop} (hr : ∀ y, R y → R' y)
  (h : StepOK P ops G kind i o ar w R) : StepOK P ops G kind i o ar w R' := by
 unfold StepOK at *
 by_cases hw : Region.wanted o (yielded ops ar.tmps) = true
 ·simp only [hw, if_true] at h ⊢
  cases hk : kind i with
  | det => simp only [hk] at h ⊢; obtain ⟨v, hv, h2⟩ := h; exact ⟨v, hv, hr _ h2⟩
  | rel Fp Fw => simp only [hk] at h ⊢; exact ⟨h.1, fun v hv => hr _ (h.2 v hv)⟩
 ·simp only [hw] at h ⊢; exact hr _ h

theorem rvc_step (hsel : ∀ (j : Nat) (o : Oper) cs b, ops[j]? = some o → o.op ≠ .select cs b) {i : Nat} {o : Oper} {ar : Act} {w : World} {val : Vals} (hoi : ops[i]? = some o) (hw : G w0 w) (hval : val i = none)
  (hfacts : ∀ j v φ, val j = some (v, some φ) → φ w) (hbef : ∀ j, bef i j = true → (val j).isSome = true) :
  ∀ (rest : List Oper) (k : Nat) (a : Act) (H : List (Nat × (World → Prop))), rvc P ops G w0 kind bef T rest k val a H → k ≤ i → rest[i - k]? = some o →
   (∀ m om, rest[m]? = some om → k + m < i → val (k + m) = none → ∀ d, om.dst = some d → d ∉ o.looksAt ops) →
   (∀ m om, rest[m]? = some om → i < k + m → (val (k + m)).isSome = true → ∀ d, om.dst = some d → d ∉ o.looksAt ops) →
   Agree (o.looksAt ops) (realF rest k val a) ar → (∀ p ∈ H, bef i p.1 = true → p.2 w) →
   StepOK P ops G kind i o ar w (fun y => rvc P ops G w0 kind bef T rest k (val.set i y) a H)
 | [], k, a, H, _, _, ho, _, _, _, _ => by simp at ho
 | ok :: rest, k, a, H, h, hk, ho, hc1, hc2, hag, hH => by
  by_cases hki : k = i
  ·subst hki
   obtain rfl : ok = o := by simpa using ho
   have hag' : Agree (ok.looksAt ops) a ar := by
    refine Agree.trans (Agree.symm (realF_agree (ok :: rest) k a (val := val) ?_)) hag
    intro m om hm hs
    cases m with
    | zero => simp [hval] at hs
    | succ m => exact hc2 (m + 1) om hm (by omega) hs
   have hcg : ∀ (y : Value × Option (World → Prop)) (b : Act) (H' : List (Nat × (World → Prop))), rvc P ops G w0 kind bef T rest (k + 1) val b H' → rvc P ops G w0 kind bef T rest (k + 1) (val.set k y) b H' :=
    fun y b H' hh => rvc_congr rest (k + 1) b H' (fun j hj => (Vals.set_ne val y (by omega)).symm) hh
   have hex : execOp a.eval ok = execOp ar.eval ok := execOp_congr ok (fun cs b => hsel k ok cs b hoi) (agree_eval hag')
   unfold StepOK
   simp only [rvc, hval] at h
   simp only [rvc, Vals.set_same, ← agree_wanted hag']
   by_cases hwt : Region.wanted ok (yielded ops a.tmps) = true
   ·simp only [hwt, if_true] at h ⊢
    cases hkd : kind k with
    | det =>
     simp only [hkd] at h ⊢
     obtain ⟨v, h1, h2⟩ := h
     exact ⟨v, by rw [← hex]; exact h1 w hw hH, hcg _ _ _ h2⟩
    | rel Fp Fw =>
     simp only [hkd] at h ⊢
     obtain ⟨_, h1, h2⟩ := h
     rw [← agree_args hag']
     refine ⟨?_, fun v hv => hcg _ _ _ (h2 v hv)⟩
     have := h1 w hw hH
     unfold OpVal at this ⊢
     rw [← hex]; exact this
   ·simp only [hwt] at h ⊢
    exact hcg _ _ _ h
  ·have hlt : k < i := by omega
   have ho' : rest[i - (k + 1)]? = some o := by
    rw [show i - k = (i - (k + 1)) + 1 by omega] at ho; simpa using ho
   have ih := fun (b : Act) (H' : List (Nat × (World → Prop))) hb hag'' hH' => rvc_step (ar := ar) hsel hoi hw hval hfacts hbef rest (k + 1) b H' hb (by omega) ho'
    (fun m om hm hlt' hn => hc1 (m + 1) om (by simpa using hm) (by omega) (by rw [show k + (m + 1) = k + 1 + m by omega]; exact hn))
    (fun m om hm hlt' hn => hc2 (m + 1) om (by simpa using hm) (by omega) (by rw [show k + (m + 1) = k + 1 + m by omega]; exact hn)) hag'' hH'
   simp only [rvc] at h
   simp only [realF] at hag
   simp only [rvc, Vals.set_ne val _ hki]
   cases hv : val k with
   | some x =>
    obtain ⟨v, φ⟩ := x
    simp only [hv] at h hag ⊢
    refine ih _ _ h hag ?_
    intro p hp hb
    cases φ with
    | none => exact hH p hp hb
    | some f =>
     rcases List.mem_cons.1 hp with rfl | hp
     ·exact hfacts k v f hv
     ·exact hH p hp hb
   | none =>
    simp only [hv] at h hag ⊢
    have hdn : ∀ d, ok.dst = some d → d ∉ o.looksAt ops := hc1 0 ok rfl (by omega) hv
    have hnb : bef i k = true → False := fun hb => by have := hbef k hb; simp [hv] at this
    have hagp : ∀ v, Agree (o.looksAt ops) (realF rest (k + 1) val (a.put ok.dst v)) ar := fun v =>
     (realF_agree2 rest (k + 1) _ _ (agree_put hdn)).trans hag
    by_cases hwt : Region.wanted ok (yielded ops a.tmps) = true
    ·simp only [hwt, if_true] at h ⊢
     cases hkd : kind k with
     | det =>
      simp only [hkd] at h ⊢
      obtain ⟨v, h1, h2⟩ := h
      exact (ih _ _ h2 (hagp v) hH).mono fun y hy => ⟨v, h1, hy⟩
     | rel Fp Fw =>
      simp only [hkd] at h ⊢
      obtain ⟨h0, h1, h2⟩ := h
      refine (StepOK.and (p := fun v => Fp (opArgs ok a) v) h0 (fun v hv => ih _ _ (h2 v hv) (hagp v) ?_)).mono (fun y hy => ⟨h0, h1, hy⟩)
      intro p hp hb
      rcases List.mem_cons.1 hp with rfl | hp
      ·exact (hnb hb).elim
      ·exact hH p hp hb
    ·simp only [hwt] at h ⊢
     exact ih _ _ h (hagp undef) hH
end

/-! ### Which operations come before which -/
def befMask (acc : List Nat) (o : Oper) : Nat := o.after.toList.foldl (fun s e => if Region.binds .any e then s ||| 2 ^ e.on ||| acc.getD e.on 0 else s) 0
def befMasks : List Oper → List Nat → List Nat
 | [], acc => acc
 | o :: rest, acc => befMasks rest (acc ++ [befMask acc o])
def befOf (ops : Array Oper) : Nat → Nat → Bool := fun i j => ((befMasks ops.toList []).getD i 0).testBit j

inductive Reach (ops : Array Oper) : Nat → Nat → Prop
 | base {i : Nat} {o : Oper} {e : Edge} (ho : ops[i]? = some o) (he : e ∈ o.after) (hb : Region.binds .any e = true) : Reach ops i e.on
 | step {i j : Nat} {o : Oper} {e : Edge} (ho : ops[i]? = some o) (he : e ∈ o.after) (hb : Region.binds .any e = true) (h : Reach ops e.on j) : Reach ops i j

theorem befMask_reach {ops : Array Oper} {acc : List Nat} {i : Nat} {o : Oper} (ho : ops[i]? = some o) (hacc : ∀ k j, (acc.getD k 0).testBit j = true → Reach ops k j) :
  ∀ (es : List Edge) (s : Nat), (∀ e ∈ es, e ∈ o.after) → (∀ j, s.testBit j = true → Reach ops i j) →
   ∀ j, (es.foldl (fun s e => if Region.binds .any e then s ||| 2 ^ e.on ||| acc.getD e.on 0 else s) s).testBit j = true → Reach ops i j
 | [], s, _, hs, j, h => hs j h
 | e :: es, s, hes, hs, j, h => by
  simp only [List.foldl_cons] at h
  refine befMask_reach ho hacc es _ (fun x hx => hes x (List.mem_cons_of_mem _ hx)) ?_ j h
  intro k hk
  by_cases hb : Region.binds .any e = true
  ·simp only [hb, if_true, Nat.testBit_or, Bool.or_eq_true] at hk
   rcases hk with (hk | hk) | hk
   ·exact hs k hk
   ·rw [Nat.testBit_two_pow] at hk
    obtain rfl : e.on = k := by simpa using hk
    exact .base ho (hes e List.mem_cons_self) hb
   ·exact .step ho (hes e List.mem_cons_self) hb (hacc _ _ hk)
  ·simp only [hb] at hk
   exact hs k hk

theorem befMasks_reach {ops : Array Oper} : ∀ (rest : List Oper) (acc : List Nat), (∀ m om, rest[m]? = some om → ops[acc.length + m]? = some om) →
  (∀ k j, (acc.getD k 0).testBit j = true → Reach ops k j) → ∀ k j, ((befMasks rest acc).getD k 0).testBit j = true → Reach ops k j
 | [], acc, _, hacc, k, j, h => hacc k j h
 | o :: rest, acc, ho, hacc, k, j, h => by
  refine befMasks_reach rest (acc ++ [befMask acc o]) (fun m om hm => ?_) ?_ k j h
  ·have := ho (m + 1) om (by simpa using hm)
   simpa [Nat.add_assoc, Nat.add_comm 1 m] using this
  ·intro k j hkj
   rcases Nat.lt_trichotomy k acc.length with hk | hk | hk
   ·rw [List.getD_eq_getElem?_getD, List.getElem?_append_left hk, ← List.getD_eq_getElem?_getD] at hkj; exact hacc k j hkj
   ·subst hk
    rw [List.getD_eq_getElem?_getD, List.getElem?_append_right (Nat.le_refl _)] at hkj
    simp at hkj
    exact befMask_reach (ho 0 o rfl) hacc o.after.toList 0 (fun e he => by simpa using he) (fun j hj => by simp at hj) j hkj
   ·rw [List.getD_eq_getElem?_getD, List.getElem?_eq_none (by simp; omega)] at hkj
    simp at hkj

theorem bef_reach {ops : Array Oper} {i j : Nat} (h : befOf ops i j = true) : Reach ops i j :=
 befMasks_reach ops.toList [] (fun m om hm => by simpa using hm) (fun k j h => by simp at h) i j h

def regOK (ops : Array Oper) (t : Nat) : Bool :=
 let B := befMasks ops.toList []
 let n := ops.size
 decide (t ≤ n) && Region.noSelect ops &&
 (List.range n).all fun i => match ops[i]? with
  | none => true
  | some o => o.after.all (fun e => !Region.binds .any e || decide (e.on < i)) &&
   (List.range i).all fun j => (B.getD i 0).testBit j || (decide (i < t) && match ops[j]? with | none => true | some oj => oj.apart ops o)

structure RegOK (ops : Array Oper) (t : Nat) : Prop where
 le : t ≤ ops.size
 sel : Region.noSelect ops = true
 edge : ∀ i o, ops[i]? = some o → ∀ e ∈ o.after, Region.binds .any e = true → e.on < i
 conf : ∀ i o, ops[i]? = some o → i < t → ∀ j oj, j < i → ops[j]? = some oj → befOf ops i j = true ∨ oj.apart ops o = true
 tail : ∀ i, i < ops.size → t ≤ i → ∀ j, j < i → befOf ops i j = true

theorem regOK_spec {ops : Array Oper} {t : Nat} (h : regOK ops t = true) : RegOK ops t := by
 unfold regOK at h
 simp only [Bool.and_eq_true, decide_eq_true_eq, List.all_eq_true, List.mem_range] at h
 obtain ⟨⟨h1, h2⟩, h3⟩ := h
 have lt : ∀ {i o}, ops[i]? = some o → i < ops.size := fun h => (Array.getElem?_eq_some_iff.1 h).1
 refine ⟨h1, h2, ?_, ?_, ?_⟩
 ·intro i o ho e he hb
  have := h3 i (lt ho)
  simp only [ho, Bool.and_eq_true] at this
  have := Array.all_eq_true_iff_forall_mem.1 this.1 e he
  simpa [hb] using this
 ·intro i o ho hi j oj hj hoj
  have := h3 i (lt ho)
  simp only [ho, Bool.and_eq_true, List.all_eq_true, List.mem_range] at this
  have := this.2 j hj
  simp only [hoj, Bool.or_eq_true, Bool.and_eq_true] at this
  exact this.imp id (fun x => x.2)
 ·intro i hi ht j hj
  have := h3 i hi
  obtain ⟨o, ho⟩ : ∃ o, ops[i]? = some o := ⟨ops[i], Array.getElem?_eq_getElem hi⟩
  simp only [ho, Bool.and_eq_true, List.all_eq_true, List.mem_range] at this
  have := this.2 j hj
  simp only [Bool.or_eq_true, Bool.and_eq_true, decide_eq_true_eq] at this
  exact this.resolve_right (fun x => by omega)

/-! ### The region -/
section
variable {P : Program} {ops : Array Oper} {G : World → World → Prop} {w0 : World} {kind : Nat → OKind} {Q : Exit → Act → World → Prop} {t : Nat}

structure Listed (ops : Array Oper) (listed : Array Bool) (done : Nat → Bool) : Prop where
 size : listed.size = ops.size
 eq : ∀ j, j < ops.size → listed.getD j true = done j
 closed : ∀ j o, ops[j]? = some o → done j = true → ∀ e ∈ o.after, Region.binds .any e = true → done e.on = true

theorem Listed.getD {listed : Array Bool} {done : Nat → Bool} (h : Listed ops listed done) {j : Nat} (hj : j < ops.size) (d : Bool) : listed.getD j d = done j := by
 rw [← h.eq j hj]
 simp [Array.getD_eq_getD_getElem?, Array.getElem?_eq_getElem (show j < listed.size by rw [h.size]; exact hj)]

theorem Listed.ready {listed : Array Bool} {done : Nat → Bool} (h : Listed ops listed done) (hok : RegOK ops t) {i : Nat} :
  i ∈ Region.ready .any ops listed ↔ ∃ o, ops[i]? = some o ∧ done i = false ∧ ∀ e ∈ o.after, Region.binds .any e = true → done e.on = true := by
 rw [mem_ready]
 constructor
 ·rintro ⟨h0, o, ho, hall⟩
  have hi := (Array.getElem?_eq_some_iff.1 ho).1
  exact ⟨o, ho, by rw [← h.eq i hi]; exact h0, fun e he hb => by
   rw [← h.getD (Nat.lt_trans (hok.edge i o ho e he hb) hi) false]; exact hall e he hb⟩
 ·rintro ⟨o, ho, h0, hall⟩
  have hi := (Array.getElem?_eq_some_iff.1 ho).1
  exact ⟨by rw [h.eq i hi]; exact h0, o, ho, fun e he hb => by
   rw [h.getD (Nat.lt_trans (hok.edge i o ho e he hb) hi) false]; exact hall e he hb⟩

theorem Listed.set {listed : Array Bool} {done : Nat → Bool} (h : Listed ops listed done) (hok : RegOK ops t) {i : Nat} (hi : i ∈ Region.ready .any ops listed) :
  Listed ops (listed.setIfInBounds i true) (fun j => if j = i then true else done j) := by
 obtain ⟨o, ho, h0, hall⟩ := (h.ready hok).1 hi
 have hlt := (Array.getElem?_eq_some_iff.1 ho).1
 refine ⟨by simpa using h.size, fun j hj => ?_, fun j oj hoj hd e he hb => ?_⟩
 ·by_cases e : j = i
  ·subst e; simp [h.size, hlt]
  ·simp only [e, if_false]; rw [getD_set_ne true (fun x => e x.symm)]; exact h.eq j hj
 ·by_cases e1 : e.on = i
  ·simp [e1]
  ·simp only [e1, if_false]
   by_cases e2 : j = i
   ·subst e2
    obtain rfl : oj = o := by rw [hoj] at ho; exact Option.some.inj ho
    exact hall e he hb
   ·simp only [e2, if_false] at hd
    exact h.closed j oj hoj hd e he hb

theorem reach_done {listed : Array Bool} {done : Nat → Bool} (h : Listed ops listed done) {i j : Nat} (hr : Reach ops i j) :
  ∀ o, ops[i]? = some o → (∀ e ∈ o.after, Region.binds .any e = true → done e.on = true) → done j = true := by
 induction hr with
 | base ho he hb => intro o ho' hall; rw [ho] at ho'; cases ho'; exact hall _ he hb
 | @step i j o e ho he hb hr ih =>
  intro o' ho' hall
  rw [ho] at ho'; cases ho'
  have hd := hall _ he hb
  have : ∃ o2, ops[e.on]? = some o2 := by
   cases hr with
   | base h1 _ _ => exact ⟨_, h1⟩
   | step h1 _ _ _ => exact ⟨_, h1⟩
  obtain ⟨o2, ho2⟩ := this
  exact ih o2 ho2 (fun e2 he2 hb2 => h.closed _ _ ho2 hd e2 he2 hb2)

theorem region_tail (hok : RegOK ops t) : ∀ (fuel k : Nat) (listed : Array Bool) (a : Act) (w : World), t ≤ k → ops.size ≤ fuel + k →
  Listed ops listed (fun j => decide (j < k)) → k ≤ ops.size → wpList P ops Q (ops.toList.drop k) a w → wpAny P .any ops Q fuel listed a w := by
 intro fuel
 induction fuel with
 | zero =>
  intro k listed a w htk hf hl hk h
  obtain rfl : k = ops.size := by omega
  have hnil : Region.ready .any ops listed = [] := by
   apply List.eq_nil_iff_forall_not_mem.2
   intro i hi
   obtain ⟨o, ho, h0, _⟩ := (hl.ready hok).1 hi
   have := (Array.getElem?_eq_some_iff.1 ho).1
   simp at h0; omega
  rw [List.drop_of_length_le (by simp)] at h
  exact ⟨hnil, h⟩
 | succ fuel ih =>
  intro k listed a w htk hf hl hk h
  by_cases hlt : k < ops.size
  ·have hmem : k ∈ Region.ready .any ops listed := (hl.ready hok).2 ⟨ops[k], Array.getElem?_eq_getElem hlt, by simp, fun e he hb => by
    simpa using hok.edge k ops[k] (Array.getElem?_eq_getElem hlt) e he hb⟩
   refine ⟨fun h0 => (by rw [h0] at hmem; cases hmem), fun i hi => ?_⟩
   obtain rfl : i = k := by
    obtain ⟨o, ho, h0, hall⟩ := (hl.ready hok).1 hi
    have hi' := (Array.getElem?_eq_some_iff.1 ho).1
    simp at h0
    rcases Nat.lt_or_eq_of_le h0 with h1 | h1
    ·have := reach_done hl (bef_reach (hok.tail i hi' (by omega) k h1)) o ho hall
     simp at this
    ·exact h1.symm
   have hd : ops.toList.drop i = ops[i] :: ops.toList.drop (i + 1) := by
    rw [List.drop_eq_getElem_cons (by simpa using hlt)]; simp
   rw [hd] at h
   have hset := hl.set hok hi
   have hset' : Listed ops (listed.setIfInBounds i true) (fun j => decide (j < i + 1)) := by
    have e : (fun j => if j = i then true else decide (j < i)) = (fun j => decide (j < i + 1)) := by
     funext j
     by_cases h1 : j = i
     ·simp [h1]
     ·by_cases h2 : j < i
      ·simp [h1, h2]; omega
      ·simp [h1, h2]; omega
    rw [← e]; exact hset
   unfold wpOp
   rw [Array.getElem?_eq_getElem hlt]
   simp only [wpList] at h
   by_cases hwt : Region.wanted ops[i] (yielded ops a.tmps) = true
   ·simp only [hwt, if_true] at h ⊢
    exact h.imp (Oper.wp_mono fun a' w' h' => ih (i + 1) _ a' w' (by omega) (by omega) hset' (by omega) h') id
   ·simp only [hwt] at h ⊢
    exact ih (i + 1) _ _ w (by omega) (by omega) hset' (by omega) h
  ·obtain rfl : k = ops.size := by omega
   have hnil : Region.ready .any ops listed = [] := by
    apply List.eq_nil_iff_forall_not_mem.2
    intro i hi
    obtain ⟨o, ho, h0, _⟩ := (hl.ready hok).1 hi
    have := (Array.getElem?_eq_some_iff.1 ho).1
    simp at h0; omega
   rw [List.drop_of_length_le (by simp)] at h
   exact ⟨fun _ => h, by rw [hnil]; intro i hi; cases hi⟩

theorem realF_set {val : Vals} {i : Nat} {o : Oper} {v : Value} {φ : Option (World → Prop)} (hval : val i = none) :
  ∀ (rest : List Oper) (k : Nat) (a : Act), k ≤ i → rest[i - k]? = some o →
   (∀ m om, rest[m]? = some om → i < k + m → (val (k + m)).isSome = true → ∀ d, o.dst = some d → om.dst ≠ some d) →
   realF rest k (val.set i (v, φ)) a = (realF rest k val a).put o.dst v
 | [], k, a, _, ho, _ => by simp at ho
 | ok :: rest, k, a, hk, ho, hc => by
  simp only [realF]
  by_cases hki : k = i
  ·subst hki
   obtain rfl : ok = o := by simpa using ho
   rw [Vals.set_same, hval]
   have hcg : ∀ (r : List Oper) (m : Nat) (b : Act), k < m → realF r m (val.set k (v, φ)) b = realF r m val b := by
    intro r
    induction r with
    | nil => intro m b _; rfl
    | cons x r ih => intro m b hm; simp only [realF]; rw [Vals.set_ne _ _ (by omega)]; exact ih (m + 1) _ (by omega)
   simp only
   rw [hcg rest (k + 1) _ (by omega)]
   have hcomm : ∀ (r : List Oper) (m : Nat) (b : Act), (∀ j om, r[j]? = some om → (val (m + j)).isSome = true → ∀ d, ok.dst = some d → om.dst ≠ some d) →
     realF r m val (b.put ok.dst v) = (realF r m val b).put ok.dst v := by
    intro r
    induction r with
    | nil => intro m b _; rfl
    | cons x r ih =>
     intro m b h
     have h' : ∀ j om, r[j]? = some om → (val (m + 1 + j)).isSome = true → ∀ d, ok.dst = some d → om.dst ≠ some d := fun j om hj hv =>
      h (j + 1) om (by simpa using hj) (by rw [show m + (j + 1) = m + 1 + j by omega]; exact hv)
     simp only [realF]
     cases hm : val m with
     | none => exact ih (m + 1) b h'
     | some y =>
      obtain ⟨u, _⟩ := y
      simp only
      rw [← ih (m + 1) _ h', Act.put_comm b v u (fun d hd => h 0 x rfl (by simp [hm]) d hd)]
   exact hcomm rest (k + 1) a (fun j om hj hv => hc (j + 1) om (by simpa using hj) (by omega) (by rw [show k + (j + 1) = k + 1 + j by omega]; exact hv))
  ·rw [Vals.set_ne _ _ hki]
   exact realF_set hval rest (k + 1) _ (by omega) (by rw [show i - k = (i - (k + 1)) + 1 by omega] at ho; simpa using ho)
    (fun m om hm hlt hv => hc (m + 1) om (by simpa using hm) (by omega) (by rw [show k + (m + 1) = k + 1 + m by omega]; exact hv))

end

section
variable {P : Program} {ops : Array Oper} {G : World → World → Prop} {w0 : World} {kind : Nat → OKind} {bef : Nat → Nat → Bool} {T : Act → World → Prop}
 {o : Oper} {rest : List Oper} {i : Nat} {a : Act} {H : List (Nat × (World → Prop))}

theorem opVal_call {f : FuncId} {vs : Array Value} {w w1 : World} {ψ : Value → World → Prop} (hr : (execOp a.eval o).run P w = .ok (.enter f vs) w1)
  (h : Calls P f vs w1 (fun e w'' => ∃ v, e = .returned v ∧ ψ v w'')) : OpVal P o a w ψ := by
 unfold OpVal; rw [hr]; exact h
theorem opVal_value {v : Value} {w w' : World} {ψ : Value → World → Prop} (hr : (execOp a.eval o).run P w = .ok (.value v) w') (h : ψ v w') : OpVal P o a w ψ := by
 unfold OpVal; rw [hr]; exact h
end

theorem opVal_skip {P : Program} {o : Oper} {a : Act} {w w' : World} {ψ : Value → World → Prop} (hr : (execOp a.eval o).run P w = .ok .skip w') (h : ψ undef w') : OpVal P o a w ψ := by
 unfold OpVal; rw [hr]; exact h
section
variable {P : Program} {ops : Array Oper} {G : World → World → Prop} {w0 : World} {kind : Nat → OKind} {bef : Nat → Nat → Bool} {T : Act → World → Prop}
 {o : Oper} {rest : List Oper} {i : Nat} {a : Act} {H : List (Nat × (World → Prop))}
end

section
variable {P : Program} {ops : Array Oper} {G : World → World → Prop} {w0 : World} {kind : Nat → OKind} {Q : Exit → Act → World → Prop} {F : Fence} {n : Nat}
end
end Go.Proofs.YtaeppaaolkcbbaaGreatDoor.St

/- As the text RegSt (a region that draws its order, walked once in the text's order); here each operation that is met by a relation has an interval of new blocks, and two such intervals lie apart. The latter half is printed out of RegSt's template by a small program. Drawn regions that store a struct of one type in a new cell: each new block of that type is kept, or holds what is wanted. -/
import Derived.Test.YtaeppaaolkcbbaaGreatDoorMg21
import Derived.Test.YtaeppaaolkcbbaaGreatDoorMg02
namespace Go.Proofs.YtaeppaaolkcbbaaGreatDoor.St
open Go Go.RowKit

inductive OKindN where
 | det
 | rel (Fp : List Value → Value → Prop) (Fw : List Value → Value → Nat × Nat → World → Prop)
abbrev ValsN := Nat → Option (Value × Option ((Nat × Nat) × (World → Prop)))
def ValsN.set (val : ValsN) (i : Nat) (x : Value × Option ((Nat × Nat) × (World → Prop))) : ValsN := fun j => if j = i then some x else val j
theorem ValsN.set_same (val : ValsN) (i : Nat) (x : Value × Option ((Nat × Nat) × (World → Prop))) : val.set i x i = some x := by simp [ValsN.set]
theorem ValsN.set_ne (val : ValsN) {i j : Nat} (x : Value × Option ((Nat × Nat) × (World → Prop))) (h : j ≠ i) : val.set i x j = val j := by simp [ValsN.set, h]
def pr (val : ValsN) : Vals := fun j => (val j).map fun x => (x.1, x.2.map fun y => y.2)
theorem pr_set (val : ValsN) (i : Nat) (v : Value) (φ : Option ((Nat × Nat) × (World → Prop))) : pr (val.set i (v, φ)) = (pr val).set i (v, φ.map (fun x => x.2)) := by
 funext j
 unfold pr ValsN.set Vals.set
 by_cases h : j = i <;> simp [h]
def Dis (x y : Nat × Nat) : Prop := x.2 ≤ y.1 ∨ y.2 ≤ x.1
theorem Dis.symm {x y : Nat × Nat} (h : Dis x y) : Dis y x := Or.symm h
def pushI (φ : Option ((Nat × Nat) × (World → Prop))) (N : List (Nat × Nat)) : List (Nat × Nat) := match φ with | some x => x.1 :: N | none => N
def pushG (i : Nat) (φ : Option ((Nat × Nat) × (World → Prop))) (H : List (Nat × (World → Prop))) : List (Nat × (World → Prop)) :=
 match φ with | some f => (i, f.2) :: H | none => H
def ApartN (val : ValsN) (g : Nat × Nat) (N : List (Nat × Nat)) : Prop := (∀ x ∈ N, Dis x g) ∧ ∀ j v' g' φ, val j = some (v', some (g', φ)) → Dis g' g
theorem bound (N : List (Nat × Nat)) : ∃ M, ∀ x ∈ N, x.2 ≤ M := by
 induction N with
 | nil => exact ⟨0, fun x hx => by cases hx⟩
 | cons a N ih =>
  obtain ⟨M, hM⟩ := ih
  refine ⟨M + a.2, fun x hx => ?_⟩
  rcases List.mem_cons.1 hx with rfl | hx
  ·omega
  ·have := hM x hx; omega

section
variable (P : Program) (ops : Array Oper) (G : World → World → Prop) (w0 : World) (kind : Nat → OKindN) (bef : Nat → Nat → Bool) (T : Act → World → Prop)

def rvn : List Oper → Nat → ValsN → Act → List (Nat × (World → Prop)) → List (Nat × Nat) → Prop
 | [], _, _, a, H, _ => ∀ w, G w0 w → (∀ p ∈ H, p.2 w) → T a w
 | o :: rest, i, val, a, H, N =>
  match val i with
  | some (v, φ) => rvn rest (i + 1) val (a.put o.dst v) (pushG i φ H) (pushI φ N)
  | none =>
   if Region.wanted o (yielded ops a.tmps) = true then
    match kind i with
    | .det => ∃ v, (∀ w, G w0 w → (∀ p ∈ H, bef i p.1 = true → p.2 w) → (execOp a.eval o).run P w = .ok (.value v) w) ∧ rvn rest (i + 1) val (a.put o.dst v) H N
    | .rel Fp Fw => (∃ v, Fp (opArgs o a) v) ∧
      (∀ w, G w0 w → (∀ p ∈ H, bef i p.1 = true → p.2 w) → OpVal P o a w (fun v w' => ∃ g : Nat × Nat, Fp (opArgs o a) v ∧ G w w' ∧ Fw (opArgs o a) v g w' ∧ w.heap.size ≤ g.1 ∧ g.1 ≤ g.2 ∧ g.2 ≤ w'.heap.size)) ∧
      ∀ v g, Fp (opArgs o a) v → g.1 ≤ g.2 → ApartN val g N → rvn rest (i + 1) val (a.put o.dst v) ((i, Fw (opArgs o a) v g) :: H) (g :: N)
   else rvn rest (i + 1) val (a.put o.dst undef) H N
end

section
variable {P : Program} {ops : Array Oper} {G : World → World → Prop} {w0 : World} {kind : Nat → OKindN} {bef : Nat → Nat → Bool} {T : Act → World → Prop}

theorem rvn_congr {val val' : ValsN} : ∀ (rest : List Oper) (k : Nat) (a : Act) (H : List (Nat × (World → Prop))) (N : List (Nat × Nat)), (∀ j, k ≤ j → val j = val' j) →
  (∀ g N, ApartN val' g N → ApartN val g N) →
  rvn P ops G w0 kind bef T rest k val a H N → rvn P ops G w0 kind bef T rest k val' a H N
 | [], _, _, _, _, _, _, h => h
 | o :: rest, k, a, H, N, he, hp, h => by
  have ih := fun a H N => rvn_congr (val := val) (val' := val') rest (k + 1) a H N (fun j hj => he j (by omega)) hp
  simp only [rvn] at h ⊢
  rw [← he k (Nat.le_refl _)]
  cases hv : val k with
  | some x => obtain ⟨v, φ⟩ := x; simp only [hv] at h; exact ih _ _ _ h
  | none =>
   simp only [hv] at h
   by_cases hw : Region.wanted o (yielded ops a.tmps) = true
   ·simp only [hw, if_true] at h ⊢
    cases hkd : kind k with
    | det => simp only [hkd] at h; obtain ⟨v, h1, h2⟩ := h; exact ⟨v, h1, ih _ _ _ h2⟩
    | rel Fp Fw => simp only [hkd] at h; obtain ⟨h0, h1, h2⟩ := h; exact ⟨h0, h1, fun v g hv hl ha => ih _ _ _ (h2 v g hv hl (hp g N ha))⟩
   ·simp only [hw] at h ⊢; exact ih _ _ _ h

def StepN (P : Program) (ops : Array Oper) (G : World → World → Prop) (kind : Nat → OKindN) (i : Nat) (o : Oper) (ar : Act) (w : World) (R : Value × Option ((Nat × Nat) × (World → Prop)) → Prop) : Prop :=
 if Region.wanted o (yielded ops ar.tmps) = true then
  match kind i with
  | .det => ∃ v, (execOp ar.eval o).run P w = .ok (.value v) w ∧ R (v, none)
  | .rel Fp Fw => OpVal P o ar w (fun v w' => ∃ g : Nat × Nat, Fp (opArgs o ar) v ∧ G w w' ∧ Fw (opArgs o ar) v g w' ∧ w.heap.size ≤ g.1 ∧ g.1 ≤ g.2 ∧ g.2 ≤ w'.heap.size) ∧
    ∀ v g, Fp (opArgs o ar) v → w.heap.size ≤ g.1 → g.1 ≤ g.2 → R (v, some (g, Fw (opArgs o ar) v g))
 else R (undef, none)

theorem StepN.and {i : Nat} {o : Oper} {ar : Act} {w : World} {α : Type} {p : α → Prop} {R : α → Value × Option ((Nat × Nat) × (World → Prop)) → Prop} (hx : ∃ x, p x)
  (h : ∀ x, p x → StepN P ops G kind i o ar w (R x)) : StepN P ops G kind i o ar w (fun y => ∀ x, p x → R x y) := by
 unfold StepN at *
 by_cases hw : Region.wanted o (yielded ops ar.tmps) = true
 ·simp only [hw, if_true] at h ⊢
  cases hk : kind i with
  | det =>
   simp only [hk] at h ⊢
   obtain ⟨x0, hx0⟩ := hx
   obtain ⟨v, hv, _⟩ := h x0 hx0
   refine ⟨v, hv, fun x px => ?_⟩
   obtain ⟨v', hv', hr⟩ := h x px
   rw [hv] at hv'
   cases hv'
   exact hr
  | rel Fp Fw =>
   simp only [hk] at h ⊢
   obtain ⟨x0, hx0⟩ := hx
   exact ⟨(h x0 hx0).1, fun v g hv hn hl x px => (h x px).2 v g hv hn hl⟩
 ·simp only [hw] at h ⊢
  exact fun x px => h x px

theorem StepN.mono {i : Nat} {o : Oper} {ar : Act} {w : World} {R R' : Value × Option ((Nat × Nat) × (World → Prop)) → Prop}
  (hr : ∀ y, (∀ g ψ, y.2 = some (g, ψ) → w.heap.size ≤ g.1) → R y → R' y)
  (h : StepN P ops G kind i o ar w R) : StepN P ops G kind i o ar w R' := by
 unfold StepN at *
 by_cases hw : Region.wanted o (yielded ops ar.tmps) = true
 ·simp only [hw, if_true] at h ⊢
  cases hk : kind i with
  | det => simp only [hk] at h ⊢; obtain ⟨v, hv, h2⟩ := h; exact ⟨v, hv, hr _ (fun g ψ h => by cases h) h2⟩
  | rel Fp Fw => simp only [hk] at h ⊢; exact ⟨h.1, fun v g hv hn hl => hr _ (fun g' ψ h => by cases h; exact hn) (h.2 v g hv hn hl)⟩
 ·simp only [hw] at h ⊢; exact hr _ (fun g ψ h => by cases h) h

theorem rvn_step (hsel : ∀ (j : Nat) (o : Oper) cs b, ops[j]? = some o → o.op ≠ .select cs b) {i : Nat} {o : Oper} {ar : Act} {w : World} {val : ValsN} (hoi : ops[i]? = some o) (hw : G w0 w) (hval : val i = none)
  (hfacts : ∀ j v g φ, val j = some (v, some (g, φ)) → φ w) (hbef : ∀ j, bef i j = true → (val j).isSome = true)
  (hst : ∀ j v g φ, val j = some (v, some (g, φ)) → g.2 ≤ w.heap.size) :
  ∀ (rest : List Oper) (k : Nat) (a : Act) (H : List (Nat × (World → Prop))) (N : List (Nat × Nat)), rvn P ops G w0 kind bef T rest k val a H N → k ≤ i → rest[i - k]? = some o →
   (∀ m om, rest[m]? = some om → k + m < i → pr val (k + m) = none → ∀ d, om.dst = some d → d ∉ o.looksAt ops) →
   (∀ m om, rest[m]? = some om → i < k + m → (pr val (k + m)).isSome = true → ∀ d, om.dst = some d → d ∉ o.looksAt ops) →
   Agree (o.looksAt ops) (realF rest k (pr val) a) ar → (∀ p ∈ H, bef i p.1 = true → p.2 w) →
   StepN P ops G kind i o ar w (fun y => (∀ g ψ, y.2 = some (g, ψ) → ∀ x ∈ N, Dis x g) → rvn P ops G w0 kind bef T rest k (val.set i y) a H N)
 | [], k, a, H, _, _, _, ho, _, _, _, _ => by simp at ho
 | ok :: rest, k, a, H, N, h, hk, ho, hc1, hc2, hag, hH => by
  have hapS : ∀ (y : Value × Option ((Nat × Nat) × (World → Prop))) g N, ApartN (val.set i y) g N → ApartN val g N := by
   intro y g N ha
   refine ⟨ha.1, fun j v' g' φ hj => ha.2 j v' g' φ ?_⟩
   rw [ValsN.set_ne _ _ (by intro e; subst e; rw [hval] at hj; cases hj)]; exact hj
  by_cases hki : k = i
  ·subst hki
   obtain rfl : ok = o := by simpa using ho
   have hag' : Agree (ok.looksAt ops) a ar := by
    refine Agree.trans (Agree.symm (realF_agree (ok :: rest) k a (val := pr val) ?_)) hag
    intro m om hm hs
    cases m with
    | zero => simp [pr, hval] at hs
    | succ m => exact hc2 (m + 1) om hm (by omega) hs
   have hcg : ∀ (y : Value × Option ((Nat × Nat) × (World → Prop))) (b : Act) (H' : List (Nat × (World → Prop))) (N : List (Nat × Nat)), rvn P ops G w0 kind bef T rest (k + 1) val b H' N → rvn P ops G w0 kind bef T rest (k + 1) (val.set k y) b H' N :=
    fun y b H' N hh => rvn_congr rest (k + 1) b H' N (fun j hj => (ValsN.set_ne val y (by omega)).symm) (fun g N => hapS y g N) hh
   have hex : execOp a.eval ok = execOp ar.eval ok := execOp_congr ok (fun cs b => hsel k ok cs b hoi) (agree_eval hag')
   unfold StepN
   simp only [rvn, hval] at h
   simp only [rvn, ValsN.set_same, ← agree_wanted hag']
   by_cases hwt : Region.wanted ok (yielded ops a.tmps) = true
   ·simp only [hwt, if_true] at h ⊢
    cases hkd : kind k with
    | det =>
     simp only [hkd] at h ⊢
     obtain ⟨v, h1, h2⟩ := h
     exact ⟨v, by rw [← hex]; exact h1 w hw hH, fun _ => hcg _ _ _ _ h2⟩
    | rel Fp Fw =>
     simp only [hkd] at h ⊢
     obtain ⟨_, h1, h2⟩ := h
     rw [← agree_args hag']
     refine ⟨?_, fun v g hv hn hl hN => hcg _ _ _ _ (h2 v g hv hl ⟨hN _ _ rfl, fun j v' g' φ hj => Or.inl ?_⟩)⟩
     ·have := h1 w hw hH
      unfold OpVal at this ⊢
      rw [← hex]; exact this
     ·exact Nat.le_trans (hst j v' g' φ hj) hn
   ·simp only [hwt] at h ⊢
    exact fun _ => hcg _ _ _ _ h
  ·have hlt : k < i := by omega
   have ho' : rest[i - (k + 1)]? = some o := by
    rw [show i - k = (i - (k + 1)) + 1 by omega] at ho; simpa using ho
   have ih := fun (b : Act) (H' : List (Nat × (World → Prop))) (N' : List (Nat × Nat)) hb hag'' hH' => rvn_step (ar := ar) hsel hoi hw hval hfacts hbef hst rest (k + 1) b H' N' hb (by omega) ho'
    (fun m om hm hlt' hn => hc1 (m + 1) om (by simpa using hm) (by omega) (by rw [show k + (m + 1) = k + 1 + m by omega]; exact hn))
    (fun m om hm hlt' hn => hc2 (m + 1) om (by simpa using hm) (by omega) (by rw [show k + (m + 1) = k + 1 + m by omega]; exact hn)) hag'' hH'
   simp only [rvn] at h
   simp only [realF] at hag
   simp only [rvn, ValsN.set_ne val _ hki]
   cases hv : val k with
   | some x =>
    obtain ⟨v, φ⟩ := x
    have hpv : pr val k = some (v, φ.map (fun x => x.2)) := by simp [pr, hv]
    simp only [hv] at h ⊢
    simp only [hpv] at hag
    refine (ih _ _ _ h hag ?_).mono ?_
    ·intro p hp hb
     cases φ with
     | none => exact hH p hp hb
     | some f =>
      rcases List.mem_cons.1 hp with rfl | hp
      ·exact hfacts k v f.1 f.2 hv
      ·exact hH p hp hb
    ·intro y hy hr hN
     refine hr (fun g ψ hψ x hm => ?_)
     cases φ with
     | none => exact hN g ψ hψ x hm
     | some f =>
      rcases List.mem_cons.1 hm with rfl | hm
      ·exact Or.inl (Nat.le_trans (hst k v f.1 f.2 hv) (hy g ψ hψ))
      ·exact hN g ψ hψ x hm
   | none =>
    have hpv : pr val k = none := by simp [pr, hv]
    simp only [hv] at h ⊢
    simp only [hpv] at hag
    have hdn : ∀ d, ok.dst = some d → d ∉ o.looksAt ops := hc1 0 ok rfl (by omega) hpv
    have hnb : bef i k = true → False := fun hb => by have := hbef k hb; simp [hv] at this
    have hagp : ∀ v, Agree (o.looksAt ops) (realF rest (k + 1) (pr val) (a.put ok.dst v)) ar := fun v =>
     (realF_agree2 rest (k + 1) _ _ (agree_put hdn)).trans hag
    by_cases hwt : Region.wanted ok (yielded ops a.tmps) = true
    ·simp only [hwt, if_true] at h ⊢
     cases hkd : kind k with
     | det =>
      simp only [hkd] at h ⊢
      obtain ⟨v, h1, h2⟩ := h
      exact (ih _ _ _ h2 (hagp v) hH).mono fun y _ hy hN => ⟨v, h1, hy hN⟩
     | rel Fp Fw =>
      simp only [hkd] at h ⊢
      obtain ⟨h0, h1, h2⟩ := h
      refine (StepN.and (p := fun x : Value × (Nat × Nat) => Fp (opArgs ok a) x.1 ∧ x.2.1 ≤ x.2.2 ∧ ApartN val x.2 N) ?_ (fun x hx => ih _ _ _ (h2 x.1 x.2 hx.1 hx.2.1 hx.2.2) (hagp x.1) ?_)).mono (fun y hy hr hN => ⟨h0, h1, fun v g hfp hl hap => hr (v, g) ⟨hfp, hl, hapS y g N hap⟩ (fun g' ψ hψ x hm => ?_)⟩)
      ·obtain ⟨M, hM⟩ := bound N
       obtain ⟨v, hv1⟩ := h0
       refine ⟨(v, (M + w.heap.size, M + w.heap.size)), hv1, Nat.le_refl _, fun x hx => Or.inl ?_, fun j v' g' φ hj => Or.inl ?_⟩
       ·have := hM x hx; show x.2 ≤ M + w.heap.size; omega
       ·have := hst j v' g' φ hj; show g'.2 ≤ M + w.heap.size; omega
      ·intro p hp hb
       rcases List.mem_cons.1 hp with rfl | hp
       ·exact (hnb hb).elim
       ·exact hH p hp hb
      ·rcases List.mem_cons.1 hm with rfl | hm
       ·obtain ⟨y1, y2⟩ := y
        simp only at hψ
        subst hψ
        exact (hap.2 i y1 g' ψ (ValsN.set_same _ _ _)).symm
       ·exact hN g' ψ hψ x hm
    ·simp only [hwt] at h ⊢
     exact (ih _ _ _ h (hagp undef) hH).mono fun y _ hy hN => hy hN
end

section
variable {P : Program} {ops : Array Oper} {G : World → World → Prop} {w0 : World} {kind : Nat → OKindN} {Q : Exit → Act → World → Prop} {t : Nat}

theorem rvn_all_done {T : Act → World → Prop} {bef : Nat → Nat → Bool} {val : ValsN} {w : World} (hw : G w0 w) : ∀ (rest : List Oper) (k : Nat) (a : Act) (H : List (Nat × (World → Prop))) (N : List (Nat × Nat)),
  (∀ m, m < rest.length → ∃ v φ, val (k + m) = some (v, φ) ∧ ∀ g f, φ = some (g, f) → f w) → (∀ p ∈ H, p.2 w) →
  rvn P ops G w0 kind bef T rest k val a H N → T (realF rest k (pr val) a) w
 | [], k, a, H, _, _, hH, h => h w hw hH
 | o :: rest, k, a, H, N, hd, hH, h => by
  obtain ⟨v, φ, hv, hf⟩ := hd 0 (by simp)
  simp only [Nat.add_zero] at hv
  have hpv : pr val k = some (v, φ.map (fun x => x.2)) := by simp [pr, hv]
  simp only [rvn, hv] at h
  simp only [realF, hpv]
  refine rvn_all_done hw rest (k + 1) _ _ _ (fun m hm => ?_) ?_ h
  ·obtain ⟨v', φ', h1, h2⟩ := hd (m + 1) (by simpa using hm)
   exact ⟨v', φ', by rw [show k + 1 + m = k + (m + 1) by omega]; exact h1, h2⟩
  ·intro p hp
   cases φ with
   | none => exact hH p hp
   | some f =>
    rcases List.mem_cons.1 hp with rfl | hp
    ·exact hf f.1 f.2 rfl
    ·exact hH p hp

theorem region_mainN (hok : RegOK ops t) (hG : ∀ a b c, G a b → G b c → G a c) (hGr : ∀ a, G a a)
  (hGs : ∀ a b, G a b → a.heap.size ≤ b.heap.size) (hmono : ∀ i Fp Fw, kind i = .rel Fp Fw → ∀ xs v g a b, G a b → Fw xs v g a → Fw xs v g b) (a0 : Act) :
  ∀ (fuel : Nat) (listed : Array Bool) (val : ValsN) (w : World), ((List.range ops.size).filter (fun j => (val j).isNone)).length ≤ fuel →
   Listed ops listed (fun j => (val j).isSome) → (∀ j, t ≤ j → val j = none) →
   G w0 w → (∀ j v g φ, val j = some (v, some (g, φ)) → (φ w ∧ g.2 ≤ w.heap.size) ∧ ∀ a b, G a b → φ a → φ b) →
   rvn P ops G w0 kind (befOf ops) (wpList P ops Q (ops.toList.drop t)) (ops.toList.take t) 0 val a0 [] [] →
   wpAny P .any ops Q fuel listed (realF (ops.toList.take t) 0 (pr val) a0) w := by
 intro fuel
 induction fuel with
 | zero =>
  intro listed val w hf hl hnt hw hfacts h
  by_cases hall : ∀ j, j < t → (val j).isSome = true
  ·refine region_tail (Q := Q) hok 0 t listed _ w (Nat.le_refl _) ?_ ?_ hok.le ?_
   ·rcases Nat.lt_or_ge t ops.size with h1 | h1
    ·have : t ∈ (List.range ops.size).filter (fun j => (val j).isNone) := by simp [h1, hnt t (Nat.le_refl _)]
     have := List.length_pos_of_mem this
     omega
    ·omega
   ·have e : (fun j => (val j).isSome) = (fun j => decide (j < t)) := by
     funext j
     by_cases hj : j < t
     ·simp [hj, hall j hj]
     ·simp [hj, hnt j (by omega)]
    rw [← e]; exact hl
   ·refine rvn_all_done hw _ 0 a0 [] [] (fun m hm => ?_) (fun p hp => by cases hp) h
    have := hall m (by simp at hm; omega)
    rw [Nat.zero_add]
    obtain ⟨⟨v, φ⟩, hv⟩ := Option.isSome_iff_exists.1 this
    exact ⟨v, φ, hv, fun g f hf => (hfacts m v g f (hf ▸ hv)).1.1⟩
  ·exfalso
   apply hall
   intro j hj
   cases hv : val j with
   | some x => rfl
   | none =>
    have : j ∈ (List.range ops.size).filter (fun j => (val j).isNone) := by simp [hv]; have := hok.le; omega
    have := List.length_pos_of_mem this
    omega
 | succ fuel ih =>
  intro listed val w hf hl hnt hw hfacts h
  by_cases hall : ∀ j, j < t → (val j).isSome = true
  ·refine region_tail (Q := Q) hok (fuel + 1) t listed _ w (Nat.le_refl _) ?_ ?_ hok.le ?_
   ·refine Nat.le_trans ?_ (Nat.add_le_add_right hf t)
    have hsub : ((List.range' t (ops.size - t))).length ≤ ((List.range ops.size).filter (fun j => (val j).isNone)).length := by
     apply List.Sublist.length_le
     have h1 : (List.range ops.size) = List.range t ++ List.range' t (ops.size - t) := by
      have h2 := List.range'_append_1 (s := 0) (m := t) (n := ops.size - t)
      rw [List.range_eq_range', List.range_eq_range', Nat.zero_add, show t + (ops.size - t) = ops.size by have := hok.le; omega] at *
      exact h2.symm
     rw [h1, List.filter_append]
     refine List.Sublist.trans ?_ (List.sublist_append_right _ _)
     rw [List.filter_eq_self.2 (fun x hx => by rw [hnt x (by simp at hx; omega)]; rfl)]
     exact List.Sublist.refl _
    simp at hsub; omega
   ·have e : (fun j => (val j).isSome) = (fun j => decide (j < t)) := by
     funext j
     by_cases hj : j < t
     ·simp [hj, hall j hj]
     ·simp [hj, hnt j (by omega)]
    rw [← e]; exact hl
   ·refine rvn_all_done hw _ 0 a0 [] [] (fun m hm => ?_) (fun p hp => by cases hp) h
    have := hall m (by simp at hm; omega)
    rw [Nat.zero_add]
    obtain ⟨⟨v, φ⟩, hv⟩ := Option.isSome_iff_exists.1 this
    exact ⟨v, φ, hv, fun g f hf => (hfacts m v g f (hf ▸ hv)).1.1⟩
  ·-- an operation of the first t has not come up yet
   obtain ⟨j0, hj0, hv0⟩ : ∃ j, j < t ∧ val j = none := by
    apply Classical.byContradiction
    intro hne
    apply hall
    intro j hj
    cases hv : val j with
    | some x => rfl
    | none => exact (hne ⟨j, hj, hv⟩).elim
   have hmin : ∃ j, j < t ∧ val j = none ∧ ∀ k, k < j → (val k).isSome = true := by
    induction j0 using Nat.strongRecOn with
    | _ j0 ihj =>
     by_cases hk : ∀ k, k < j0 → (val k).isSome = true
     ·exact ⟨j0, hj0, hv0, hk⟩
     ·have : ∃ k, k < j0 ∧ val k = none := by
       apply Classical.byContradiction
       intro hne
       apply hk
       intro k hkl
       cases hv : val k with
       | some x => rfl
       | none => exact (hne ⟨k, hkl, hv⟩).elim
      obtain ⟨k, hkl, hkv⟩ := this
      exact ihj k hkl (by omega) hkv
   obtain ⟨jm, hjm, hvm, hbelow⟩ := hmin
   have hjs : jm < ops.size := by have := hok.le; omega
   have hmem : jm ∈ Region.ready .any ops listed := (hl.ready hok).2 ⟨ops[jm], Array.getElem?_eq_getElem hjs, by simp [hvm], fun e he hb =>
    hbelow _ (hok.edge jm ops[jm] (Array.getElem?_eq_getElem hjs) e he hb)⟩
   refine ⟨fun h0 => (by rw [h0] at hmem; cases hmem), fun i hi => ?_⟩
   obtain ⟨o, ho, h0, hedge⟩ := (hl.ready hok).1 hi
   have hio : i < ops.size := (Array.getElem?_eq_some_iff.1 ho).1
   have hdone : ∀ j, befOf ops i j = true → (val j).isSome = true := fun j hb => reach_done hl (bef_reach hb) o ho hedge
   have hit : i < t := by
    apply Classical.byContradiction
    intro hge
    have := hdone jm (hok.tail i hio (by omega) jm (by omega))
    simp [hvm] at this
   have hvi : val i = none := by simpa using h0
   have htake : (ops.toList.take t)[i - 0]? = some o := by
    rw [Nat.sub_zero, List.getElem?_take_of_lt hit]; simpa using ho
   have hget : ∀ {m om}, (ops.toList.take t)[m]? = some om → ops[m]? = some om ∧ m < t := by
    intro m om hm
    rcases Nat.lt_or_ge m t with h1 | h1
    ·rw [List.getElem?_take_of_lt h1] at hm; exact ⟨by simpa using hm, h1⟩
    ·rw [List.getElem?_take_eq_none h1] at hm; cases hm
   -- those that come later in the text and have come up are apart
   have hlater : ∀ m om, (ops.toList.take t)[m]? = some om → i < m → (val m).isSome = true → o.apart ops om = true := by
    intro m om hm him hvm'
    obtain ⟨hm1, hm2⟩ := hget hm
    rcases hok.conf m om hm1 hm2 i o him ho with hb | hb
    ·have := reach_done hl (bef_reach hb) om hm1 (hl.closed m om hm1 hvm')
     simp [hvi] at this
    ·exact hb
   have hstep := rvn_step (kind := kind) (G := G) (w0 := w0) (bef := befOf ops) (T := wpList P ops Q (ops.toList.drop t)) (P := P)
    (Region.noSelect_spec hok.sel) ho hw hvi (fun j v g φ hv => (hfacts j v g φ hv).1.1) hdone (fun j v g φ hv => (hfacts j v g φ hv).1.2) (ar := realF (ops.toList.take t) 0 (pr val) a0)
    (ops.toList.take t) 0 a0 [] [] h (Nat.zero_le _) htake
    (fun m om hm hlt hn d hd => by
     rw [Nat.zero_add] at hlt hn
     obtain ⟨hm1, hm2⟩ := hget hm
     rcases hok.conf i o ho hit m om hlt hm1 with hb | hb
     ·have := hdone m hb; simp [show val m = none by simpa [pr] using hn] at this
     ·exact (Oper.apart_spec hb).1 d hd)
    (fun m om hm hlt hv d hd => by
     rw [Nat.zero_add] at hlt hv
     exact (Oper.apart_spec (hlater m om hm hlt (by simpa [pr] using hv))).2.2 d hd)
    (Agree.refl _ _) (fun p hp => by cases hp)
   have hnext : ∀ (v : Value) (φ : Option ((Nat × Nat) × (World → Prop))) (w' : World), G w w' → (∀ g f, φ = some (g, f) → (f w' ∧ g.2 ≤ w'.heap.size) ∧ ∀ a b, G a b → f a → f b) →
     rvn P ops G w0 kind (befOf ops) (wpList P ops Q (ops.toList.drop t)) (ops.toList.take t) 0 (val.set i (v, φ)) a0 [] [] →
     wpAny P .any ops Q fuel (listed.setIfInBounds i true) ((realF (ops.toList.take t) 0 (pr val) a0).put o.dst v) w' := by
    intro v φ w' hww hφ hr
    rw [← realF_set (val := pr val) (φ := φ.map (fun x => x.2)) (by simp [pr, hvi]) (ops.toList.take t) 0 a0 (Nat.zero_le _) htake (fun m om hm hlt hv d hd => by
     rw [Nat.zero_add] at hlt hv
     intro hom
     exact (Oper.apart_spec (hlater m om hm hlt (by simpa [pr] using hv))).2.1 d hd hom), ← pr_set]
    refine ih _ (val.set i (v, φ)) w' ?_ ?_ ?_ (hG _ _ _ hw hww) ?_ hr
    ·have hlen : ((List.range ops.size).filter (fun j => ((val.set i (v, φ)) j).isNone)).length < ((List.range ops.size).filter (fun j => (val j).isNone)).length := by
      have hperm : ∀ l : List Nat, l.Nodup → i ∈ l → (l.filter (fun j => ((val.set i (v, φ)) j).isNone)).length < (l.filter (fun j => (val j).isNone)).length := by
       intro l
       induction l with
       | nil => intro _ h; cases h
       | cons x l ihl =>
        intro hnd hm
        rw [List.nodup_cons] at hnd
        by_cases hx : x = i
        ·subst hx
         have hs : (val.set x (v, φ) x).isNone = false := by simp [ValsN.set_same]
         have hs' : (val x).isNone = true := by simp [hvi]
         rw [List.filter_cons, List.filter_cons, if_neg (by simp [hs]), if_pos hs']
         have : l.filter (fun j => ((val.set x (v, φ)) j).isNone) = l.filter (fun j => (val j).isNone) :=
          List.filter_congr fun y hy => by rw [ValsN.set_ne _ _ (by intro e; subst e; exact hnd.1 hy)]
         rw [this]; simp
        ·have hm' : i ∈ l := by
          rcases List.mem_cons.1 hm with h1 | h1
          ·exact (hx h1.symm).elim
          ·exact h1
         have := ihl hnd.2 hm'
         by_cases hn : (val x).isNone = true
         ·rw [List.filter_cons, List.filter_cons, if_pos (by rw [ValsN.set_ne _ _ hx]; exact hn), if_pos hn]
          simpa using this
         ·rw [List.filter_cons, List.filter_cons, if_neg (by rw [ValsN.set_ne _ _ hx]; exact hn), if_neg hn]
          exact this
      exact hperm _ List.nodup_range (by simpa using hio)
     omega
    ·have hs := hl.set hok hi
     have e : (fun j => if j = i then true else (val j).isSome) = (fun j => ((val.set i (v, φ)) j).isSome) := by
      funext j
      by_cases hj : j = i
      ·simp [hj, ValsN.set_same]
      ·simp [hj, ValsN.set_ne _ _ hj]
     rw [← e]; exact hs
    ·intro j hj
     rw [ValsN.set_ne _ _ (by omega)]; exact hnt j hj
    ·intro j u g f hj
     by_cases hji : j = i
     ·subst hji
      rw [ValsN.set_same] at hj
      have h2 := Prod.mk.inj (Option.some.inj hj)
      exact hφ g f h2.2
     ·rw [ValsN.set_ne _ _ hji] at hj
      obtain ⟨h1, h2⟩ := hfacts j u g f hj
      exact ⟨⟨h2 _ _ hww h1.1, Nat.le_trans h1.2 (hGs _ _ hww)⟩, h2⟩
   unfold wpOp
   rw [ho]
   unfold StepN at hstep
   show if Region.wanted o (yielded ops _) = true then _ else _
   by_cases hwt : Region.wanted o (yielded ops (realF (ops.toList.take t) 0 (pr val) a0).tmps) = true
   ·simp only [hwt, if_true] at hstep ⊢
    refine .inl ?_
    unfold Oper.wp
    cases hk : kind i with
    | det =>
     simp only [hk] at hstep
     obtain ⟨v, hrun, hr⟩ := hstep
     rw [hrun]
     exact hnext v none w (hGr w) (fun g f hf => by cases hf) (hr (fun _ _ h => by cases h))
    | rel Fp Fw =>
     simp only [hk] at hstep
     obtain ⟨hov, hr⟩ := hstep
     unfold OpVal at hov
     generalize (execOp (realF (ops.toList.take t) 0 (pr val) a0).eval o).run P w = r at hov ⊢
     cases r with
     | halt x w' => exact hov.elim
     | ok n w' =>
      cases n with
      | value v => obtain ⟨g, h1, h2, h3, h4⟩ := hov; exact hnext v (some (g, Fw (opArgs o _) v g)) w' h2 (fun g f hf => by cases hf; exact ⟨⟨h3, h4.2.2⟩, fun a b => hmono i Fp Fw hk _ _ _ a b⟩) (hr v g h1 h4.1 h4.2.1 (fun _ _ _ _ h => by cases h))
      | skip => obtain ⟨g, h1, h2, h3, h4⟩ := hov; exact hnext undef (some (g, Fw (opArgs o _) undef g)) w' h2 (fun g f hf => by cases hf; exact ⟨⟨h3, h4.2.2⟩, fun a b => hmono i Fp Fw hk _ _ _ a b⟩) (hr undef g h1 h4.1 h4.2.1 (fun _ _ _ _ h => by cases h))
      | enter f args =>
       refine Calls.mono hov ?_
       rintro e w'' ⟨v, rfl, g, h1, h2, h3, h4⟩
       exact hnext v (some (g, Fw (opArgs o _) v g)) w'' h2 (fun g f hf => by cases hf; exact ⟨⟨h3, h4.2.2⟩, fun a b => hmono i Fp Fw hk _ _ _ a b⟩) (hr v g h1 h4.1 h4.2.1 (fun _ _ _ _ h => by cases h))
      | _ => exact hov.elim
   ·simp only [hwt] at hstep ⊢
    exact hnext undef none w (hGr w) (fun g f hf => by cases hf) (hstep (fun _ _ h => by cases h))

theorem wp_region_textN {id : Nat} {a : Act} (t : Nat) (G : World → World → Prop) (kind : Nat → OKindN) (hm : P.follows .mixedOrders = true) (hok : regOK ops t = true)
  (hG : ∀ a b c, G a b → G b c → G a c) (hGr : ∀ a, G a a) (hd : G w0 w0.drew) (hGs : ∀ a b, G a b → a.heap.size ≤ b.heap.size) (hmono : ∀ i Fp Fw, kind i = .rel Fp Fw → ∀ xs v g a b, G a b → Fw xs v g a → Fw xs v g b)
  (h : rvn P ops G w0 kind (befOf ops) (wpList P ops Q (ops.toList.drop t)) (ops.toList.take t) 0 (fun _ => none) a [] []) :
  (Code.region id ops true).wp P Q a w0 := by
 have hok' := regOK_spec hok
 refine wp_region_any hm ?_
 have hre : ∀ (l : List Oper) (k : Nat), realF l k (fun _ => none) a = a := by
  intro l
  induction l with
  | nil => intro k; rfl
  | cons x l ih => intro k; simp only [realF]; exact ih (k + 1)
 have := region_mainN (P := P) (Q := Q) (w0 := w0) (G := G) (kind := kind) hok' hG hGr hGs hmono a ops.size (Array.replicate ops.size false) (fun _ => none) w0.drew
  (Nat.le_trans (List.length_filter_le _ _) (by simp)) ⟨by simp, fun j hj => by simp [hj], fun j o ho hd => by simp at hd⟩ (fun _ _ => rfl) hd (fun j v g φ hv => by cases hv) h
 rw [show pr (fun _ => none) = (fun _ => none) from rfl, hre] at this
 exact this
end

structure RN (P : Program) (ops : Array Oper) (G : World → World → Prop) (w0 : World) (kind : Nat → OKindN) (bef : Nat → Nat → Bool) (T : Act → World → Prop)
  (rest : List Oper) (i : Nat) (a : Act) (H : List (Nat × (World → Prop))) (N : List (Nat × Nat)) : Prop where
 out : rvn P ops G w0 kind bef T rest i (fun _ => none) a H N

section
variable {P : Program} {ops : Array Oper} {G : World → World → Prop} {w0 : World} {kind : Nat → OKindN} {bef : Nat → Nat → Bool} {T : Act → World → Prop}
 {o : Oper} {rest : List Oper} {i : Nat} {a : Act} {H : List (Nat × (World → Prop))} {N : List (Nat × Nat)}
theorem rn_nil (h : ∀ w, G w0 w → (∀ p ∈ H, p.2 w) → T a w) : RN P ops G w0 kind bef T [] i a H N := ⟨h⟩
theorem rn_det {v : Value} (hw : Region.wanted o (yielded ops a.tmps) = true) (hk : kind i = .det)
  (hrun : ∀ w, G w0 w → (∀ p ∈ H, bef i p.1 = true → p.2 w) → (execOp a.eval o).run P w = .ok (.value v) w)
  (h : RN P ops G w0 kind bef T rest (i + 1) (a.put o.dst v) H N) : RN P ops G w0 kind bef T (o :: rest) i a H N :=
 ⟨by simp only [rvn, hw, if_true, hk]; exact ⟨v, hrun, h.out⟩⟩
theorem rn_skip (hw : Region.wanted o (yielded ops a.tmps) = false)
  (h : RN P ops G w0 kind bef T rest (i + 1) (a.put o.dst undef) H N) : RN P ops G w0 kind bef T (o :: rest) i a H N :=
 ⟨by simp only [rvn, hw]; exact h.out⟩
theorem rn_rel {Fp : List Value → Value → Prop} {Fw : List Value → Value → Nat × Nat → World → Prop} (hw : Region.wanted o (yielded ops a.tmps) = true) (hk : kind i = .rel Fp Fw)
  (hex : ∃ v, Fp (opArgs o a) v)
  (hrun : ∀ w, G w0 w → (∀ p ∈ H, bef i p.1 = true → p.2 w) → OpVal P o a w (fun v w' => ∃ g : Nat × Nat, Fp (opArgs o a) v ∧ G w w' ∧ Fw (opArgs o a) v g w' ∧ w.heap.size ≤ g.1 ∧ g.1 ≤ g.2 ∧ g.2 ≤ w'.heap.size))
  (h : ∀ v g, Fp (opArgs o a) v → g.1 ≤ g.2 → (∀ x ∈ N, Dis x g) → RN P ops G w0 kind bef T rest (i + 1) (a.put o.dst v) ((i, Fw (opArgs o a) v g) :: H) (g :: N)) :
  RN P ops G w0 kind bef T (o :: rest) i a H N := by
 refine ⟨?_⟩
 simp only [rvn, hw, if_true, hk]
 exact ⟨hex, hrun, fun v g hv hl ha => (h v g hv hl ha.1).out⟩
theorem rn_plain {Fp : List Value → Value → Prop} {Fw : List Value → Value → Nat × Nat → World → Prop} (hw : Region.wanted o (yielded ops a.tmps) = true) (hk : kind i = .rel Fp Fw)
  (hex : ∃ v, Fp (opArgs o a) v) (hGs : ∀ a b, G a b → a.heap.size ≤ b.heap.size)
  (hrun : ∀ w, G w0 w → (∀ p ∈ H, bef i p.1 = true → p.2 w) → OpVal P o a w (fun v w' => Fp (opArgs o a) v ∧ G w w' ∧ ∀ g, Fw (opArgs o a) v g w'))
  (h : ∀ v g, Fp (opArgs o a) v → RN P ops G w0 kind bef T rest (i + 1) (a.put o.dst v) ((i, Fw (opArgs o a) v g) :: H) (g :: N)) :
  RN P ops G w0 kind bef T (o :: rest) i a H N := by
 refine rn_rel hw hk hex (fun w h1 h2 => ?_) (fun v g hv _ _ => h v g hv)
 have h3 := hrun w h1 h2
 unfold OpVal at h3 ⊢
 generalize (execOp a.eval o).run P w = r at h3 ⊢
 cases r with
 | halt x w' => exact h3.elim
 | ok n w' =>
  cases n with
  | value v => exact ⟨(w.heap.size, w.heap.size), h3.1, h3.2.1, h3.2.2 _, Nat.le_refl _, Nat.le_refl _, hGs _ _ h3.2.1⟩
  | skip => exact ⟨(w.heap.size, w.heap.size), h3.1, h3.2.1, h3.2.2 _, Nat.le_refl _, Nat.le_refl _, hGs _ _ h3.2.1⟩
  | enter f args => exact h3.mono (fun e w'' ⟨v, e1, e2, e3, e4⟩ => ⟨v, e1, (w.heap.size, w.heap.size), e2, e3, e4 _, Nat.le_refl _, Nat.le_refl _, hGs _ _ e3⟩)
  | _ => exact h3.elim
end

def kindS (l : List (Nat × (Value → Prop) × (Value → Nat × Nat → World → Prop))) (i : Nat) : OKindN :=
 match l.find? (fun p => p.1 == i) with
 | some p => .rel (fun _ v => p.2.1 v) (fun _ v g w => p.2.2 v g w)
 | none => .det
theorem kindS_mono {G : World → World → Prop} (l : List (Nat × (Value → Prop) × (Value → Nat × Nat → World → Prop))) (hl : ∀ p ∈ l, ∀ v g a b, G a b → p.2.2 v g a → p.2.2 v g b) :
  ∀ i Fp Fw, kindS l i = .rel Fp Fw → ∀ xs v g a b, G a b → Fw xs v g a → Fw xs v g b := by
 intro i Fp Fw h xs v g a b hG hf
 unfold kindS at h
 split at h
 ·rename_i p hp
  cases h
  exact hl p (List.mem_of_find?_eq_some hp) v g a b hG hf
 ·cases h
def IsPtr (v : Value) : Prop := ∃ n, v = .pointer (some ⟨n, 0, none⟩)
def NewAt (B : Nat) (cs : Array Value) (t : TypeId) (v : Value) (g : Nat × Nat) (w : World) : Prop := ∀ n, v = .pointer (some ⟨n, 0, none⟩) → B ≤ n ∧ g = (n, n + 1) ∧ w.heap[n]? = some (.cells cs t (0, 0))
theorem newAt_kb {B : Nat} {cs : Array Value} {t : TypeId} : ∀ v g a b, KB (fun _ => False) a b → NewAt B cs t v g a → NewAt B cs t v g b := fun _ _ _ _ hG h n e => ⟨(h n e).1, (h n e).2.1, hG.heap (fun x => x) (h n e).2.2⟩
theorem isPtr_ex : ∃ v, IsPtr v := ⟨.pointer (some ⟨0, 0, none⟩), _, rfl⟩
theorem opVal_new {P : Program} {o : Oper} {a : Act} {w w0 : World} {cs : Array Value} {t : TypeId} (hG : KB (fun _ => False) w0 w)
  (hr : (execOp a.eval o).run P w = .ok (.value (.pointer (some ⟨w.heap.size, 0, none⟩))) (w.alloc (.cells cs t))) :
  OpVal P o a w (fun v w' => ∃ g : Nat × Nat, IsPtr v ∧ KB (fun _ => False) w w' ∧ NewAt w0.heap.size cs t v g w' ∧ w.heap.size ≤ g.1 ∧ g.1 ≤ g.2 ∧ g.2 ≤ w'.heap.size) :=
 opVal_value hr ⟨(w.heap.size, w.heap.size + 1), ⟨_, rfl⟩, (KB.refl _ w).alloc _, fun n e => by
  simp only [Value.pointer.injEq, Option.some.injEq, Addr.mk.injEq, and_true] at e
  subst e; exact ⟨hG.size, rfl, alloc_new w _⟩, Nat.le_refl _, Nat.le_succ _, by simp⟩
theorem newAt_ne {B C : Nat} {cs ds : Array Value} {t u : TypeId} {n m : Nat} {g h : Nat × Nat} {w : World} (h1 : NewAt B cs t (.pointer (some ⟨n, 0, none⟩)) g w) (h2 : NewAt C ds u (.pointer (some ⟨m, 0, none⟩)) h w) (hd : Dis g h) : n ≠ m := by
 have e1 := (h1 n rfl).2.1
 have e2 := (h2 m rfl).2.1
 subst e1 e2
 unfold Dis at hd
 simp only at hd
 omega
section
variable {P : Program} {ops : Array Oper} {G : World → World → Prop} {w0 : World} {kind : Nat → OKindN} {Q : Exit → Act → World → Prop}
theorem wp_region_rn {id : Nat} {a : Act} (t : Nat) (G : World → World → Prop) (kind : Nat → OKindN) (hm : P.follows .mixedOrders = true) (hok : regOK ops t = true)
  (hG : ∀ a b c, G a b → G b c → G a c) (hGr : ∀ a, G a a) (hd : G w0 w0.drew) (hGs : ∀ a b, G a b → a.heap.size ≤ b.heap.size) (hmono : ∀ i Fp Fw, kind i = .rel Fp Fw → ∀ xs v g a b, G a b → Fw xs v g a → Fw xs v g b)
  (h : RN P ops G w0 kind (befOf ops) (wpList P ops Q (ops.toList.drop t)) (ops.toList.take t) 0 a [] []) :
  (Code.region id ops true).wp P Q a w0 := wp_region_textN t G kind hm hok hG hGr hd hGs hmono h.out
end
end Go.Proofs.YtaeppaaolkcbbaaGreatDoor.St

namespace Go.Proofs.YtaeppaaolkcbbaaGreatDoor.St
open Go Go.RowKit

def GY (T : TypeId) (Z : Nat) (Wt : Array Value → Prop) (B : Nat) (a b : World) : Prop :=
 KB (fun k => B ≤ k ∧ ∃ cs, a.heap[k]? = some (.cells cs T (0, 0))) a b ∧
 ∀ k cs, B ≤ k → cs.size = Z → a.heap[k]? = some (.cells cs T (0, 0)) → ∃ cs', cs'.size = Z ∧ b.heap[k]? = some (.cells cs' T (0, 0)) ∧ (Wt cs → Wt cs')
section
variable {T : TypeId} {Z : Nat} {Wt : Array Value → Prop} {B : Nat}
theorem gy_kbF {a b : World} (h : KB (fun _ => False) a b) : GY T Z Wt B a b :=
 ⟨h.mono (fun _ _ x => x.elim), fun k cs _ hz hc => ⟨cs, hz, h.heap (fun x => x) hc, fun x => x⟩⟩
theorem gy_refl (a : World) : GY T Z Wt B a a := gy_kbF (KB.refl _ _)
theorem gy_trans (a b c : World) (h : GY T Z Wt B a b) (k : GY T Z Wt B b c) : GY T Z Wt B a c := by
 refine ⟨⟨k.1.os.trans h.1.os, k.1.tape.trans h.1.tape, k.1.output.trans h.1.output, Nat.le_trans h.1.size k.1.size, fun i hi hn => ?_⟩, fun i cs hB hz hc => ?_⟩
 ·rw [k.1.block i (Nat.lt_of_lt_of_le hi h.1.size) (fun ⟨h1, cs, h2⟩ => hn ⟨h1, cs, by rw [← h.1.block i hi hn]; exact h2⟩), h.1.block i hi hn]
 ·obtain ⟨c1, z1, h1, w1⟩ := h.2 i cs hB hz hc
  obtain ⟨c2, z2, h2, w2⟩ := k.2 i c1 hB z1 h1
  exact ⟨c2, z2, h2, fun x => w2 (w1 x)⟩
theorem gy_start (w : World) : GY T Z Wt w.heap.size w w.drew := gy_kbF (KB.refl _ _).drew
theorem GY.kb {a b : World} (h : GY T Z Wt B a b) (hB : a.heap.size ≤ B) : KB (fun _ => False) a b := h.1.mono (fun k hk x => by have := x.1; omega)
theorem GY.size {a b : World} (h : GY T Z Wt B a b) : a.heap.size ≤ b.heap.size := h.1.size
def kindXn (l : List (Nat × (List Value → Value → Prop) × (List Value → Value → Nat × Nat → World → Prop))) (i : Nat) : OKindN :=
 match l.find? (fun p => p.1 == i) with
 | some p => .rel p.2.1 p.2.2
 | none => .det
theorem kindXn_mono {G : World → World → Prop} (l : List (Nat × (List Value → Value → Prop) × (List Value → Value → Nat × Nat → World → Prop)))
  (hl : ∀ p ∈ l, ∀ xs v g a b, G a b → p.2.2 xs v g a → p.2.2 xs v g b) : ∀ i Fp Fw, kindXn l i = .rel Fp Fw → ∀ xs v g a b, G a b → Fw xs v g a → Fw xs v g b := by
 intro i Fp Fw h xs v g a b hG hf
 unfold kindXn at h
 split at h
 ·rename_i p hp
  cases h
  exact hl p (List.mem_of_find?_eq_some hp) xs v g a b hG hf
 ·cases h
def NewT (T : TypeId) (Z B : Nat) (_ : List Value) (v : Value) (_ : Nat × Nat) (w : World) : Prop := ∀ n, v = .pointer (some ⟨n, 0, none⟩) → B ≤ n ∧ ∃ cs, cs.size = Z ∧ w.heap[n]? = some (.cells cs T (0, 0))
theorem newT_gy : ∀ (xs : List Value) (v : Value) (g : Nat × Nat) (a b : World), GY T Z Wt B a b → NewT T Z B xs v g a → NewT T Z B xs v g b := fun _ _ _ _ _ hG h n e => by
 obtain ⟨h1, cs, h2, h3⟩ := h n e
 obtain ⟨c1, z1, h4, -⟩ := hG.2 n cs h1 h2 h3
 exact ⟨h1, c1, z1, h4⟩
def HasT (T : TypeId) (Z B : Nat) (Wt : Array Value → Prop) (xs : List Value) (_ : Value) (_ : Nat × Nat) (w : World) : Prop := ∀ n, xs[0]? = some (.pointer (some ⟨n, 0, none⟩)) → B ≤ n ∧ ∃ cs, cs.size = Z ∧ w.heap[n]? = some (.cells cs T (0, 0)) ∧ Wt cs
theorem hasT_gy : ∀ (xs : List Value) (v : Value) (g : Nat × Nat) (a b : World), GY T Z Wt B a b → HasT T Z B Wt xs v g a → HasT T Z B Wt xs v g b := fun _ _ _ _ _ hG h n e => by
 obtain ⟨h1, cs, h2, h3, h4⟩ := h n e
 obtain ⟨c1, z1, h5, h6⟩ := hG.2 n cs h1 h2 h3
 exact ⟨h1, c1, z1, h5, h6 h4⟩
theorem opVal_newT {P : Program} {o : Oper} {a : Act} {w w0 : World} {cs : Array Value} (hz : cs.size = Z) (hG : GY T Z Wt w0.heap.size w0 w)
  (hr : (execOp a.eval o).run P w = .ok (.value (.pointer (some ⟨w.heap.size, 0, none⟩))) (w.alloc (.cells cs T))) :
  OpVal P o a w (fun v w' => IsPtr v ∧ GY T Z Wt w0.heap.size w w' ∧ ∀ g, NewT T Z w0.heap.size (opArgs o a) v g w') :=
 opVal_value hr ⟨⟨_, rfl⟩, gy_kbF ((KB.refl _ w).alloc _), fun _ n e => by
  simp only [Value.pointer.injEq, Option.some.injEq, Addr.mk.injEq, and_true] at e
  subst e; exact ⟨hG.size, cs, hz, alloc_new w _⟩⟩
theorem opVal_storeT {P : Program} {o : Oper} {a : Act} {w w' w0 : World} {n : Nat} {cs ds : Array Value} (hn : w0.heap.size ≤ n) (hc : w.heap[n]? = some (.cells cs T (0, 0))) (hz : ds.size = Z) (hW : Wt ds)
  (hk : KB (fun k => k = n) w w') (hd : w'.heap[n]? = some (.cells ds T (0, 0))) (hx : (opArgs o a)[0]? = some (.pointer (some ⟨n, 0, none⟩))) (hr : (execOp a.eval o).run P w = .ok .skip w') :
  OpVal P o a w (fun v w' => v = undef ∧ GY T Z Wt w0.heap.size w w' ∧ ∀ g, HasT T Z w0.heap.size Wt (opArgs o a) v g w') := by
 refine opVal_skip hr ⟨rfl, ⟨hk.mono (fun k _ e => by subst e; exact ⟨hn, cs, hc⟩), fun k es hB hz' he => ?_⟩, fun _ m e => ?_⟩
 ·by_cases e : k = n
  ·subst e; exact ⟨ds, hz, hd, fun _ => hW⟩
  ·exact ⟨es, hz', hk.heap e he, fun x => x⟩
 ·rw [hx] at e
  simp only [Option.some.injEq, Value.pointer.injEq, Addr.mk.injEq, and_true] at e
  subst e
  exact ⟨hn, ds, hz, hd, hW⟩
end
end Go.Proofs.YtaeppaaolkcbbaaGreatDoor.St

/- The steps of 'wp_region_text', one lemma each. 'wp_region_text' (a region that draws its order, in the text's order) within the wide fence, in a round's frame or not. -/
import Derived.Test.YtoophdcagpfmpaaGreatDoorRegion
import Derived.OrdersIn
import Derived.TacticsIn
import Derived.RangeFuncCalls
namespace Go.Proofs.YtoophdcagpfmpaaGreatDoor
open Go Go.RowKit

section
variable {P : Program} {ops : Array Oper} {G : World → World → Prop} {w0 : World} {kind : Nat → OKind} {bef : Nat → Nat → Bool} {T : Act → World → Prop}
  {o : Oper} {rest : List Oper} {i : Nat} {a : Act} {H : List (Nat × (World → Prop))}

theorem rvc_nil (h : ∀ w, G w0 w → (∀ p ∈ H, p.2 w) → T a w) : rvc P ops G w0 kind bef T [] i (fun _ => none) a H := h
theorem rvc_det {v : Value} (hw : Region.wanted o (yielded ops a.tmps) = true) (hk : kind i = .det)
    (hrun : ∀ w, G w0 w → (∀ p ∈ H, bef i p.1 = true → p.2 w) → (execOp a.eval o).run P w = .ok (.value v) w)
    (h : rvc P ops G w0 kind bef T rest (i + 1) (fun _ => none) (a.put o.dst v) H) : rvc P ops G w0 kind bef T (o :: rest) i (fun _ => none) a H := by
  simp only [rvc, hw, if_true, hk]; exact ⟨v, hrun, h⟩
theorem rvc_skip (hw : Region.wanted o (yielded ops a.tmps) = false)
    (h : rvc P ops G w0 kind bef T rest (i + 1) (fun _ => none) (a.put o.dst undef) H) : rvc P ops G w0 kind bef T (o :: rest) i (fun _ => none) a H := by
  simp only [rvc, hw]; exact h
theorem rvc_rel {Fp : List Value → Value → Prop} {Fw : List Value → Value → World → Prop} (hw : Region.wanted o (yielded ops a.tmps) = true) (hk : kind i = .rel Fp Fw)
    (hex : ∃ v, Fp (opArgs o a) v)
    (hrun : ∀ w, G w0 w → (∀ p ∈ H, bef i p.1 = true → p.2 w) → OpVal P o a w (fun v w' => Fp (opArgs o a) v ∧ G w w' ∧ Fw (opArgs o a) v w'))
    (h : ∀ v, Fp (opArgs o a) v → rvc P ops G w0 kind bef T rest (i + 1) (fun _ => none) (a.put o.dst v) ((i, Fw (opArgs o a) v) :: H)) :
    rvc P ops G w0 kind bef T (o :: rest) i (fun _ => none) a H := by
  simp only [rvc, hw, if_true, hk]; exact ⟨hex, hrun, h⟩

/-- A call of a Go function, by its contract. -/
theorem opVal_call {f : FuncId} {vs : Array Value} {w w1 : World} {ψ : Value → World → Prop} (hr : (execOp a.eval o).run P w = .ok (.enter f vs) w1)
    (h : Calls P f vs w1 (fun e w'' => ∃ v, e = .returned v ∧ ψ v w'')) : OpVal P o a w ψ := by
  unfold OpVal; rw [hr]; exact h
theorem opVal_value {v : Value} {w w' : World} {ψ : Value → World → Prop} (hr : (execOp a.eval o).run P w = .ok (.value v) w') (h : ψ v w') : OpVal P o a w ψ := by
  unfold OpVal; rw [hr]; exact h
end

/-- Only draws. -/
def GQ (w w' : World) : Prop := ∃ n, w' = w.drewN n
theorem drewN_drewN (w : World) (n m : Nat) : (w.drewN n).drewN m = w.drewN (n + m) := by simp [World.drewN, Nat.add_assoc]
theorem GQ.trans : ∀ a b c, GQ a b → GQ b c → GQ a c := fun _ _ _ ⟨n, hn⟩ ⟨m, hm⟩ => ⟨n + m, by rw [hm, hn, drewN_drewN]⟩
theorem GQ.refl : ∀ a, GQ a a := fun _ => ⟨0, rfl⟩
theorem GQ.start (w : World) : GQ w w.drew := ⟨1, rfl⟩
theorem gq_le {W : World} {a b : Nat} (h : a ≤ b) : GQ (W.drewN a) (W.drewN b) := ⟨b - a, by rw [drewN_drewN]; congr 1; omega⟩
theorem drew_eq1 (w : World) : w.drew = w.drewN 1 := rfl
theorem setCell_drewN (w : World) (n : Nat) (a : Addr) (v : Value) : (w.drewN n).setCell a v = (w.setCell a v).drewN n := rfl
theorem GQ.cell {w w' : World} (h : GQ w w') (a : Addr) : w'.cell? a = w.cell? a := by obtain ⟨n, rfl⟩ := h; rfl
theorem GQ.frozen {w w' : World} (h : GQ w w') (a : Addr) : w'.frozen? a = w.frozen? a := by obtain ⟨n, rfl⟩ := h; rfl

theorem KB.gq {S : Nat → Prop} {w w' : World} (h : GQ w w') : KB S w w' := by obtain ⟨n, rfl⟩ := h; exact (KB.refl S w).drewN n
theorem kb_trans (S : Nat → Prop) : ∀ a b c, KB S a b → KB S b c → KB S a c := fun _ _ _ h k => h.trans k
theorem kb_refl (S : Nat → Prop) : ∀ a, KB S a a := KB.refl S
theorem kb_start (S : Nat → Prop) (w : World) : KB S w w.drew := (KB.refl S w).drew

/-- The kinds of a region's operations: relations on values alone. -/
def kindV (l : List (Nat × (Value → Prop))) (i : Nat) : OKind :=
  match l.find? (fun p => p.1 == i) with
  | some p => .rel (fun _ v => p.2 v) (fun _ _ _ => True)
  | none => .det
theorem kindV_mono {G : World → World → Prop} (l : List (Nat × (Value → Prop))) : ∀ i Fp Fw, kindV l i = .rel Fp Fw → ∀ xs v a b, G a b → Fw xs v a → Fw xs v b := by
  intro i Fp Fw h xs v a b _ hf
  unfold kindV at h
  split at h
  · cases h; exact trivial
  · cases h
@[go_sem] theorem wrap_lit0 : IntKind.i64.wrap 0 = 0 := by decide
@[go_sem] theorem wrap_lit1 : IntKind.i64.wrap 1 = 1 := by decide
@[go_sem] theorem wrap_lit2 : IntKind.i64.wrap 2 = 2 := by decide
@[go_sem] theorem wrap_lit3 : IntKind.i64.wrap 3 = 3 := by decide
@[go_sem] theorem wrap_lit4 : IntKind.i64.wrap 4 = 4 := by decide
@[go_sem] theorem wrap_lit5 : IntKind.i64.wrap 5 = 5 := by decide
@[go_sem] theorem wrap_lit6 : IntKind.i64.wrap 6 = 6 := by decide
@[go_sem] theorem wrap_lit7 : IntKind.i64.wrap 7 = 7 := by decide
@[go_sem] theorem wrap_lit8 : IntKind.i64.wrap 8 = 8 := by decide
@[go_sem] theorem wrap_lit9 : IntKind.i64.wrap 9 = 9 := by decide
@[go_sem] theorem wrap_lit10 : IntKind.i64.wrap 10 = 10 := by decide
@[go_sem] theorem wrap_lit11 : IntKind.i64.wrap 11 = 11 := by decide
@[go_sem] theorem wrap_lit12 : IntKind.i64.wrap 12 = 12 := by decide
@[go_sem] theorem wrap_lit13 : IntKind.i64.wrap 13 = 13 := by decide
@[go_sem] theorem wrap_lit14 : IntKind.i64.wrap 14 = 14 := by decide
@[go_sem] theorem wrap_lit15 : IntKind.i64.wrap 15 = 15 := by decide
@[go_sem] theorem wrap_lit16 : IntKind.i64.wrap 16 = 16 := by decide
@[go_sem] theorem wrap_lit24 : IntKind.i64.wrap 24 = 24 := by decide
@[go_sem] theorem wrap_lit32 : IntKind.i64.wrap 32 = 32 := by decide
@[go_sem] theorem wrap_lit48 : IntKind.i64.wrap 48 = 48 := by decide
@[go_sem] theorem wrap_lit63 : IntKind.i64.wrap 63 = 63 := by decide
@[go_sem] theorem wrap_lit64 : IntKind.i64.wrap 64 = 64 := by decide
@[go_sem] theorem wrap_lit128 : IntKind.i64.wrap 128 = 128 := by decide
@[go_sem] theorem wrap_lit255 : IntKind.i64.wrap 255 = 255 := by decide
@[go_sem] theorem wrap_lit256 : IntKind.i64.wrap 256 = 256 := by decide
@[go_sem] theorem wrap_lit512 : IntKind.i64.wrap 512 = 512 := by decide
@[go_sem] theorem wrap_lit1024 : IntKind.i64.wrap 1024 = 1024 := by decide
@[go_sem] theorem wrap_lit2048 : IntKind.i64.wrap 2048 = 2048 := by decide
@[go_sem] theorem wrap_lit4096 : IntKind.i64.wrap 4096 = 4096 := by decide
@[go_sem] theorem wrap_lit8192 : IntKind.i64.wrap 8192 = 8192 := by decide
@[go_sem] theorem wrap_lit16384 : IntKind.i64.wrap 16384 = 16384 := by decide
@[go_sem] theorem wrap_lit32768 : IntKind.i64.wrap 32768 = 32768 := by decide
@[go_sem] theorem wrap_lit65536 : IntKind.i64.wrap 65536 = 65536 := by decide
@[go_sem] theorem wrap_litm1 : IntKind.i64.wrap (-1) = -1 := by decide
end Go.Proofs.YtoophdcagpfmpaaGreatDoor

namespace Go.Proofs.YtoophdcagpfmpaaGreatDoor
open Go

def noDefer (ops : Array Oper) : Bool := ops.all fun o => match o.op with | .defer _ => false | _ => true
theorem noDefer_spec {ops : Array Oper} (h : noDefer ops = true) {j : Nat} {o : Oper} (ho : ops[j]? = some o) : ∀ c, o.op ≠ .defer c := by
  intro c heq
  have := Array.all_eq_true_iff_forall_mem.1 h o (Array.mem_of_getElem? ho)
  simp [heq] at this

section
variable {P : Program} {ops : Array Oper} {G : World → World → Prop} {w0 : World} {kind : Nat → OKind} {Q : Exit → Act → World → Prop} {t : Nat} {F : Fence} {n : Nat}

/-- A fence that lets all by. -/
structure Lets (F : Fence) (P : Program) (m : Nat) : Prop where
  fn : ∀ f, F.fn f
  depth : F.depth = none
  calls : ∀ {f : FuncId} {args : Array Value} {w : World} {R : Ending → World → Prop}, Calls P f args w R → CallsIn F m P f args w R
theorem lets_wide {m : Nat} : Lets Fence.wide P m := ⟨fun _ => trivial, rfl, fun h => callsIn_wide.2 h⟩
theorem Lets.inRound {m : Nat} (h : Lets F P m) (l : Nat) : Lets (F.inRound l) P m := ⟨h.fn, h.depth, fun hc => CallsIn.inRound l (h.calls hc)⟩

/-- The operations from the k-th on come one behind the other. -/
theorem region_tailIn (hok : RegOK ops t) : ∀ (fuel k : Nat) (listed : Array Bool) (a : Act) (w : World), t ≤ k → ops.size ≤ fuel + k →
    Listed ops listed (fun j => decide (j < k)) → k ≤ ops.size → wpListIn F n P ops Q (ops.toList.drop k) a w → wpAnyIn F n P .any ops Q fuel listed a w := by
  intro fuel
  induction fuel with
  | zero =>
    intro k listed a w htk hf hl hk h
    obtain rfl : k = ops.size := by omega
    have hnil : Region.ready .any ops listed = [] := by
      apply List.eq_nil_iff_forall_not_mem.2
      intro i hi
      obtain ⟨o, ho, h0, _⟩ := (hl.ready hok).1 hi
      have := (Array.getElem?_eq_some_iff.1 ho).1
      simp at h0; omega
    rw [List.drop_of_length_le (by simp)] at h
    exact ⟨hnil, h⟩
  | succ fuel ih =>
    intro k listed a w htk hf hl hk h
    by_cases hlt : k < ops.size
    · have hmem : k ∈ Region.ready .any ops listed := (hl.ready hok).2 ⟨ops[k], Array.getElem?_eq_getElem hlt, by simp, fun e he hb => by
        simpa using hok.edge k ops[k] (Array.getElem?_eq_getElem hlt) e he hb⟩
      refine ⟨fun h0 => (by rw [h0] at hmem; cases hmem), fun i hi => ?_⟩
      obtain rfl : i = k := by
        obtain ⟨o, ho, h0, hall⟩ := (hl.ready hok).1 hi
        have hi' := (Array.getElem?_eq_some_iff.1 ho).1
        simp at h0
        rcases Nat.lt_or_eq_of_le h0 with h1 | h1
        · have := reach_done hl (bef_reach (hok.tail i hi' (by omega) k h1)) o ho hall
          simp at this
        · exact h1.symm
      have hd : ops.toList.drop i = ops[i] :: ops.toList.drop (i + 1) := by
        rw [List.drop_eq_getElem_cons (by simpa using hlt)]; simp
      rw [hd] at h
      have hset := hl.set hok hi
      have hset' : Listed ops (listed.setIfInBounds i true) (fun j => decide (j < i + 1)) := by
        have e : (fun j => if j = i then true else decide (j < i)) = (fun j => decide (j < i + 1)) := by
          funext j
          by_cases h1 : j = i
          · simp [h1]
          · by_cases h2 : j < i
            · simp [h1, h2]; omega
            · simp [h1, h2]; omega
        rw [← e]; exact hset
      unfold wpOpIn
      rw [Array.getElem?_eq_getElem hlt]
      simp only [wpListIn] at h
      by_cases hwt : Region.wanted ops[i] (yielded ops a.tmps) = true
      · simp only [hwt, if_true] at h ⊢
        exact Oper.wpIn_mono (fun a' w' h' => ih (i + 1) _ a' w' (by omega) (by omega) hset' (by omega) h') h
      · simp only [hwt] at h ⊢
        exact ⟨h.1, ih (i + 1) _ _ w (by omega) (by omega) hset' (by omega) h.2⟩
    · obtain rfl : k = ops.size := by omega
      have hnil : Region.ready .any ops listed = [] := by
        apply List.eq_nil_iff_forall_not_mem.2
        intro i hi
        obtain ⟨o, ho, h0, _⟩ := (hl.ready hok).1 hi
        have := (Array.getElem?_eq_some_iff.1 ho).1
        simp at h0; omega
      rw [List.drop_of_length_le (by simp)] at h
      exact ⟨fun _ => h, by rw [hnil]; intro i hi; cases hi⟩

theorem region_mainIn (hlet : Lets F P (n - 1)) (hok : RegOK ops t) (hnd : noDefer ops = true) (hG : ∀ a b c, G a b → G b c → G a c) (hGr : ∀ a, G a a)
    (hmono : ∀ i Fp Fw, kind i = .rel Fp Fw → ∀ xs v a b, G a b → Fw xs v a → Fw xs v b) (a0 : Act) :
    ∀ (fuel : Nat) (listed : Array Bool) (val : Vals) (w : World), ((List.range ops.size).filter (fun j => (val j).isNone)).length ≤ fuel →
      Listed ops listed (fun j => (val j).isSome) → (∀ j, t ≤ j → val j = none) →
      G w0 w → (∀ j v φ, val j = some (v, some φ) → φ w ∧ ∀ a b, G a b → φ a → φ b) →
      rvc P ops G w0 kind (befOf ops) (wpListIn F n P ops Q (ops.toList.drop t)) (ops.toList.take t) 0 val a0 [] →
      wpAnyIn F n P .any ops Q fuel listed (realF (ops.toList.take t) 0 val a0) w := by
  intro fuel
  induction fuel with
  | zero =>
    intro listed val w hf hl hnt hw hfacts h
    by_cases hall : ∀ j, j < t → (val j).isSome = true
    · refine region_tailIn (n := n) (Q := Q) hok 0 t listed _ w (Nat.le_refl _) ?_ ?_ hok.le ?_
      · rcases Nat.lt_or_ge t ops.size with h1 | h1
        · have : t ∈ (List.range ops.size).filter (fun j => (val j).isNone) := by simp [h1, hnt t (Nat.le_refl _)]
          have := List.length_pos_of_mem this
          omega
        · omega
      · have e : (fun j => (val j).isSome) = (fun j => decide (j < t)) := by
          funext j
          by_cases hj : j < t
          · simp [hj, hall j hj]
          · simp [hj, hnt j (by omega)]
        rw [← e]; exact hl
      · refine rvc_all_done hw _ 0 a0 [] (fun m hm => ?_) (fun p hp => by cases hp) h
        have := hall m (by simp at hm; omega)
        rw [Nat.zero_add]
        obtain ⟨⟨v, φ⟩, hv⟩ := Option.isSome_iff_exists.1 this
        exact ⟨v, φ, hv, fun f hf => (hfacts m v f (hf ▸ hv)).1⟩
    · exfalso
      apply hall
      intro j hj
      cases hv : val j with
      | some x => rfl
      | none =>
        have : j ∈ (List.range ops.size).filter (fun j => (val j).isNone) := by simp [hv]; have := hok.le; omega
        have := List.length_pos_of_mem this
        omega
  | succ fuel ih =>
    intro listed val w hf hl hnt hw hfacts h
    by_cases hall : ∀ j, j < t → (val j).isSome = true
    · refine region_tailIn (n := n) (Q := Q) hok (fuel + 1) t listed _ w (Nat.le_refl _) ?_ ?_ hok.le ?_
      · refine Nat.le_trans ?_ (Nat.add_le_add_right hf t)
        have hsub : ((List.range' t (ops.size - t))).length ≤ ((List.range ops.size).filter (fun j => (val j).isNone)).length := by
          apply List.Sublist.length_le
          have h1 : (List.range ops.size) = List.range t ++ List.range' t (ops.size - t) := by
            have h2 := List.range'_append_1 (s := 0) (m := t) (n := ops.size - t)
            rw [List.range_eq_range', List.range_eq_range', Nat.zero_add, show t + (ops.size - t) = ops.size by have := hok.le; omega] at *
            exact h2.symm
          rw [h1, List.filter_append]
          refine List.Sublist.trans ?_ (List.sublist_append_right _ _)
          rw [List.filter_eq_self.2 (fun x hx => by rw [hnt x (by simp at hx; omega)]; rfl)]
          exact List.Sublist.refl _
        simp at hsub; omega
      · have e : (fun j => (val j).isSome) = (fun j => decide (j < t)) := by
          funext j
          by_cases hj : j < t
          · simp [hj, hall j hj]
          · simp [hj, hnt j (by omega)]
        rw [← e]; exact hl
      · refine rvc_all_done hw _ 0 a0 [] (fun m hm => ?_) (fun p hp => by cases hp) h
        have := hall m (by simp at hm; omega)
        rw [Nat.zero_add]
        obtain ⟨⟨v, φ⟩, hv⟩ := Option.isSome_iff_exists.1 this
        exact ⟨v, φ, hv, fun f hf => (hfacts m v f (hf ▸ hv)).1⟩
    · -- an operation of the first t has not come up yet
      obtain ⟨j0, hj0, hv0⟩ : ∃ j, j < t ∧ val j = none := by
        apply Classical.byContradiction
        intro hne
        apply hall
        intro j hj
        cases hv : val j with
        | some x => rfl
        | none => exact (hne ⟨j, hj, hv⟩).elim
      have hmin : ∃ j, j < t ∧ val j = none ∧ ∀ k, k < j → (val k).isSome = true := by
        induction j0 using Nat.strongRecOn with
        | _ j0 ihj =>
          by_cases hk : ∀ k, k < j0 → (val k).isSome = true
          · exact ⟨j0, hj0, hv0, hk⟩
          · have : ∃ k, k < j0 ∧ val k = none := by
              apply Classical.byContradiction
              intro hne
              apply hk
              intro k hkl
              cases hv : val k with
              | some x => rfl
              | none => exact (hne ⟨k, hkl, hv⟩).elim
            obtain ⟨k, hkl, hkv⟩ := this
            exact ihj k hkl (by omega) hkv
      obtain ⟨jm, hjm, hvm, hbelow⟩ := hmin
      have hjs : jm < ops.size := by have := hok.le; omega
      have hmem : jm ∈ Region.ready .any ops listed := (hl.ready hok).2 ⟨ops[jm], Array.getElem?_eq_getElem hjs, by simp [hvm], fun e he hb =>
        hbelow _ (hok.edge jm ops[jm] (Array.getElem?_eq_getElem hjs) e he hb)⟩
      refine ⟨fun h0 => (by rw [h0] at hmem; cases hmem), fun i hi => ?_⟩
      obtain ⟨o, ho, h0, hedge⟩ := (hl.ready hok).1 hi
      have hio : i < ops.size := (Array.getElem?_eq_some_iff.1 ho).1
      have hdone : ∀ j, befOf ops i j = true → (val j).isSome = true := fun j hb => reach_done hl (bef_reach hb) o ho hedge
      have hit : i < t := by
        apply Classical.byContradiction
        intro hge
        have := hdone jm (hok.tail i hio (by omega) jm (by omega))
        simp [hvm] at this
      have hvi : val i = none := by simpa using h0
      have htake : (ops.toList.take t)[i - 0]? = some o := by
        rw [Nat.sub_zero, List.getElem?_take_of_lt hit]; simpa using ho
      have hget : ∀ {m om}, (ops.toList.take t)[m]? = some om → ops[m]? = some om ∧ m < t := by
        intro m om hm
        rcases Nat.lt_or_ge m t with h1 | h1
        · rw [List.getElem?_take_of_lt h1] at hm; exact ⟨by simpa using hm, h1⟩
        · rw [List.getElem?_take_eq_none h1] at hm; cases hm
      -- those that come later in the text and have come up are apart
      have hlater : ∀ m om, (ops.toList.take t)[m]? = some om → i < m → (val m).isSome = true → o.apart ops om = true := by
        intro m om hm him hvm'
        obtain ⟨hm1, hm2⟩ := hget hm
        rcases hok.conf m om hm1 hm2 i o him ho with hb | hb
        · have := reach_done hl (bef_reach hb) om hm1 (hl.closed m om hm1 hvm')
          simp [hvi] at this
        · exact hb
      have hstep := rvc_step (kind := kind) (G := G) (w0 := w0) (bef := befOf ops) (T := wpListIn F n P ops Q (ops.toList.drop t)) (P := P)
        (Region.noSelect_spec hok.sel) ho hw hvi (fun j v φ hv => (hfacts j v φ hv).1) hdone (ar := realF (ops.toList.take t) 0 val a0)
        (ops.toList.take t) 0 a0 [] h (Nat.zero_le _) htake
        (fun m om hm hlt hn d hd => by
          rw [Nat.zero_add] at hlt hn
          obtain ⟨hm1, hm2⟩ := hget hm
          rcases hok.conf i o ho hit m om hlt hm1 with hb | hb
          · have := hdone m hb; simp [hn] at this
          · exact (Oper.apart_spec hb).1 d hd)
        (fun m om hm hlt hv d hd => by
          rw [Nat.zero_add] at hlt hv
          exact (Oper.apart_spec (hlater m om hm hlt hv)).2.2 d hd)
        (Agree.refl _ _) (fun p hp => by cases hp)
      have hnext : ∀ (v : Value) (φ : Option (World → Prop)) (w' : World), G w w' → (∀ f, φ = some f → f w' ∧ ∀ a b, G a b → f a → f b) →
          rvc P ops G w0 kind (befOf ops) (wpListIn F n P ops Q (ops.toList.drop t)) (ops.toList.take t) 0 (val.set i (v, φ)) a0 [] →
          wpAnyIn F n P .any ops Q fuel (listed.setIfInBounds i true) ((realF (ops.toList.take t) 0 val a0).put o.dst v) w' := by
        intro v φ w' hww hφ hr
        rw [← realF_set hvi (ops.toList.take t) 0 a0 (Nat.zero_le _) htake (fun m om hm hlt hv d hd => by
          rw [Nat.zero_add] at hlt hv
          intro hom
          exact (Oper.apart_spec (hlater m om hm hlt hv)).2.1 d hd hom)]
        refine ih _ (val.set i (v, φ)) w' ?_ ?_ ?_ (hG _ _ _ hw hww) ?_ hr
        · have hlen : ((List.range ops.size).filter (fun j => ((val.set i (v, φ)) j).isNone)).length < ((List.range ops.size).filter (fun j => (val j).isNone)).length := by
            have hperm : ∀ l : List Nat, l.Nodup → i ∈ l → (l.filter (fun j => ((val.set i (v, φ)) j).isNone)).length < (l.filter (fun j => (val j).isNone)).length := by
              intro l
              induction l with
              | nil => intro _ h; cases h
              | cons x l ihl =>
                intro hnd hm
                rw [List.nodup_cons] at hnd
                by_cases hx : x = i
                · subst hx
                  have hs : (val.set x (v, φ) x).isNone = false := by simp [Vals.set_same]
                  have hs' : (val x).isNone = true := by simp [hvi]
                  rw [List.filter_cons, List.filter_cons, if_neg (by simp [hs]), if_pos hs']
                  have : l.filter (fun j => ((val.set x (v, φ)) j).isNone) = l.filter (fun j => (val j).isNone) :=
                    List.filter_congr fun y hy => by rw [Vals.set_ne _ _ (by intro e; subst e; exact hnd.1 hy)]
                  rw [this]; simp
                · have hm' : i ∈ l := by
                    rcases List.mem_cons.1 hm with h1 | h1
                    · exact (hx h1.symm).elim
                    · exact h1
                  have := ihl hnd.2 hm'
                  by_cases hn : (val x).isNone = true
                  · rw [List.filter_cons, List.filter_cons, if_pos (by rw [Vals.set_ne _ _ hx]; exact hn), if_pos hn]
                    simpa using this
                  · rw [List.filter_cons, List.filter_cons, if_neg (by rw [Vals.set_ne _ _ hx]; exact hn), if_neg hn]
                    exact this
            exact hperm _ List.nodup_range (by simpa using hio)
          omega
        · have hs := hl.set hok hi
          have e : (fun j => if j = i then true else (val j).isSome) = (fun j => ((val.set i (v, φ)) j).isSome) := by
            funext j
            by_cases hj : j = i
            · simp [hj, Vals.set_same]
            · simp [hj, Vals.set_ne _ _ hj]
          rw [← e]; exact hs
        · intro j hj
          rw [Vals.set_ne _ _ (by omega)]; exact hnt j hj
        · intro j u f hj
          by_cases hji : j = i
          · subst hji
            rw [Vals.set_same] at hj
            have h2 := Prod.mk.inj (Option.some.inj hj)
            exact hφ f h2.2
          · rw [Vals.set_ne _ _ hji] at hj
            obtain ⟨h1, h2⟩ := hfacts j u f hj
            exact ⟨h2 _ _ hww h1, h2⟩
      unfold wpOpIn
      rw [ho]
      unfold StepOK at hstep
      show if Region.wanted o (yielded ops _) = true then _ else _
      by_cases hwt : Region.wanted o (yielded ops (realF (ops.toList.take t) 0 val a0).tmps) = true
      · simp only [hwt, if_true] at hstep ⊢
        unfold Oper.wpIn
        refine ⟨fun f _ => hlet.fn f, ?_⟩
        rw [Oper.semAt_eq _ _ _ (noDefer_spec hnd ho)]
        cases hk : kind i with
        | det =>
          simp only [hk] at hstep
          obtain ⟨v, hrun, hr⟩ := hstep
          rw [hrun]
          exact hnext v none w (hGr w) (fun f hf => by cases hf) hr
        | rel Fp Fw =>
          simp only [hk] at hstep
          obtain ⟨hov, hr⟩ := hstep
          unfold OpVal at hov
          generalize (execOp (realF (ops.toList.take t) 0 val a0).eval o).run P w = r at hov ⊢
          cases r with
          | halt x w' => exact hov.elim
          | ok x w' =>
            cases x with
            | value v => exact hnext v _ w' hov.2.1 (fun f hf => by cases hf; exact ⟨hov.2.2, fun a b => hmono i Fp Fw hk _ _ a b⟩) (hr v hov.1)
            | enter f args =>
              refine ⟨fun h => (by rw [hlet.depth] at h; cases h), ?_⟩
              have hc : CallsIn F (n - 1) P f args w' _ := hlet.calls hov
              refine hc.mono ?_
              rintro e w'' ⟨v, rfl, hp, hg, hfw⟩
              exact hnext v _ w'' hg (fun f hf => by cases hf; exact ⟨hfw, fun a b => hmono i Fp Fw hk _ _ a b⟩) (hr v hp)
            | _ => exact hov.elim
      · simp only [hwt] at hstep ⊢
        exact ⟨fun f _ => hlet.fn f, hnext undef none w (hGr w) (fun f hf => by cases hf) hstep⟩

/-- **A region that draws its order, in the text's order.** The first t operations by 'rvc' (whatever world that G leads to; an operation knows of the relations of its own predecessors alone); the others one behind the other. -/
theorem wpIn_region_text {id : Nat} {a : Act} (t : Nat) (G : World → World → Prop) (kind : Nat → OKind) (hlet : Lets F P (n - 1)) (hm : P.follows .mixedOrders = true) (hok : regOK ops t = true) (hnd : noDefer ops = true)
    (hG : ∀ a b c, G a b → G b c → G a c) (hGr : ∀ a, G a a) (hd : G w0 w0.drew) (hmono : ∀ i Fp Fw, kind i = .rel Fp Fw → ∀ xs v a b, G a b → Fw xs v a → Fw xs v b)
    (h : rvc P ops G w0 kind (befOf ops) (wpListIn F n P ops Q (ops.toList.drop t)) (ops.toList.take t) 0 (fun _ => none) a []) :
    (Code.region id ops true).wpIn F n P Q a w0 := by
  have hok' := regOK_spec hok
  refine wpIn_region_any hm ?_
  have hre : ∀ (l : List Oper) (k : Nat), realF l k (fun _ => none) a = a := by
    intro l
    induction l with
    | nil => intro k; rfl
    | cons x l ih => intro k; simp only [realF]; exact ih (k + 1)
  have := region_mainIn (n := n) (P := P) (Q := Q) (w0 := w0) (G := G) (kind := kind) hlet hok' hnd hG hGr hmono a ops.size (Array.replicate ops.size false) (fun _ => none) w0.drew
    (Nat.le_trans (List.length_filter_le _ _) (by simp)) ⟨by simp, fun j hj => by simp [hj], fun j o ho hd => by simp at hd⟩ (fun _ _ => rfl) hd (fun j v φ hv => by cases hv) h
  rw [hre] at this
  exact this
end

/-- 'rvc' under seal: nothing unfolds the goal. -/
structure RV (P : Program) (ops : Array Oper) (G : World → World → Prop) (w0 : World) (kind : Nat → OKind) (bef : Nat → Nat → Bool) (T : Act → World → Prop)
    (rest : List Oper) (i : Nat) (a : Act) (H : List (Nat × (World → Prop))) : Prop where
  out : rvc P ops G w0 kind bef T rest i (fun _ => none) a H

section
variable {P : Program} {ops : Array Oper} {G : World → World → Prop} {w0 : World} {kind : Nat → OKind} {bef : Nat → Nat → Bool} {T : Act → World → Prop}
  {o : Oper} {rest : List Oper} {i : Nat} {a : Act} {H : List (Nat × (World → Prop))}
theorem rv_nil (h : ∀ w, G w0 w → (∀ p ∈ H, p.2 w) → T a w) : RV P ops G w0 kind bef T [] i a H := ⟨h⟩
theorem rv_det {v : Value} (hw : Region.wanted o (yielded ops a.tmps) = true) (hk : kind i = .det)
    (hrun : ∀ w, G w0 w → (∀ p ∈ H, bef i p.1 = true → p.2 w) → (execOp a.eval o).run P w = .ok (.value v) w)
    (h : RV P ops G w0 kind bef T rest (i + 1) (a.put o.dst v) H) : RV P ops G w0 kind bef T (o :: rest) i a H := ⟨rvc_det hw hk hrun h.out⟩
theorem rv_skip (hw : Region.wanted o (yielded ops a.tmps) = false)
    (h : RV P ops G w0 kind bef T rest (i + 1) (a.put o.dst undef) H) : RV P ops G w0 kind bef T (o :: rest) i a H := ⟨rvc_skip hw h.out⟩
theorem rv_rel {Fp : List Value → Value → Prop} {Fw : List Value → Value → World → Prop} (hw : Region.wanted o (yielded ops a.tmps) = true) (hk : kind i = .rel Fp Fw)
    (hex : ∃ v, Fp (opArgs o a) v)
    (hrun : ∀ w, G w0 w → (∀ p ∈ H, bef i p.1 = true → p.2 w) → OpVal P o a w (fun v w' => Fp (opArgs o a) v ∧ G w w' ∧ Fw (opArgs o a) v w'))
    (h : ∀ v, Fp (opArgs o a) v → RV P ops G w0 kind bef T rest (i + 1) (a.put o.dst v) ((i, Fw (opArgs o a) v) :: H)) :
    RV P ops G w0 kind bef T (o :: rest) i a H := ⟨rvc_rel hw hk hex hrun fun v hv => (h v hv).out⟩
end

section
variable {P : Program} {ops : Array Oper} {G : World → World → Prop} {w0 : World} {kind : Nat → OKind} {Q : Exit → Act → World → Prop} {F : Fence} {n : Nat}
theorem wpIn_region_rv {id : Nat} {a : Act} (t : Nat) (G : World → World → Prop) (kind : Nat → OKind) (hlet : Lets F P (n - 1)) (hm : P.follows .mixedOrders = true) (hok : regOK ops t = true) (hnd : noDefer ops = true)
    (hG : ∀ a b c, G a b → G b c → G a c) (hGr : ∀ a, G a a) (hd : G w0 w0.drew) (hmono : ∀ i Fp Fw, kind i = .rel Fp Fw → ∀ xs v a b, G a b → Fw xs v a → Fw xs v b)
    (h : RV P ops G w0 kind (befOf ops) (wpListIn F n P ops Q (ops.toList.drop t)) (ops.toList.take t) 0 a []) :
    (Code.region id ops true).wpIn F n P Q a w0 := wpIn_region_text t G kind hlet hm hok hnd hG hGr hd hmono h.out
theorem wp_region_rv {id : Nat} {a : Act} (t : Nat) (G : World → World → Prop) (kind : Nat → OKind) (hm : P.follows .mixedOrders = true) (hok : regOK ops t = true)
    (hG : ∀ a b c, G a b → G b c → G a c) (hGr : ∀ a, G a a) (hd : G w0 w0.drew) (hmono : ∀ i Fp Fw, kind i = .rel Fp Fw → ∀ xs v a b, G a b → Fw xs v a → Fw xs v b)
    (h : RV P ops G w0 kind (befOf ops) (wpList P ops Q (ops.toList.drop t)) (ops.toList.take t) 0 a []) :
    (Code.region id ops true).wp P Q a w0 := wp_region_text t G kind hm hok hG hGr hd hmono h.out
end
end Go.Proofs.YtoophdcagpfmpaaGreatDoor

/- The steps of 'wp_region_text', one lemma each. -/
import Derived.Test.YtoophdcagpfmpaaGreatDoorRegion
namespace Go.Proofs.YtoophdcagpfmpaaGreatDoor
open Go Go.RowKit

section
variable {P : Program} {ops : Array Oper} {G : World → World → Prop} {w0 : World} {kind : Nat → OKind} {bef : Nat → Nat → Bool} {T : Act → World → Prop}
  {o : Oper} {rest : List Oper} {i : Nat} {a : Act} {H : List (Nat × (World → Prop))}

theorem rvc_nil (h : ∀ w, G w0 w → (∀ p ∈ H, p.2 w) → T a w) : rvc P ops G w0 kind bef T [] i (fun _ => none) a H := h
theorem rvc_det {v : Value} (hw : Region.wanted o (yielded ops a.tmps) = true) (hk : kind i = .det)
    (hrun : ∀ w, G w0 w → (∀ p ∈ H, bef i p.1 = true → p.2 w) → (execOp a.eval o).run P w = .ok (.value v) w)
    (h : rvc P ops G w0 kind bef T rest (i + 1) (fun _ => none) (a.put o.dst v) H) : rvc P ops G w0 kind bef T (o :: rest) i (fun _ => none) a H := by
  simp only [rvc, hw, if_true, hk]; exact ⟨v, hrun, h⟩
theorem rvc_skip (hw : Region.wanted o (yielded ops a.tmps) = false)
    (h : rvc P ops G w0 kind bef T rest (i + 1) (fun _ => none) (a.put o.dst undef) H) : rvc P ops G w0 kind bef T (o :: rest) i (fun _ => none) a H := by
  simp only [rvc, hw]; exact h
theorem rvc_rel {Fp : List Value → Value → Prop} {Fw : List Value → Value → World → Prop} (hw : Region.wanted o (yielded ops a.tmps) = true) (hk : kind i = .rel Fp Fw)
    (hex : ∃ v, Fp (opArgs o a) v)
    (hrun : ∀ w, G w0 w → (∀ p ∈ H, bef i p.1 = true → p.2 w) → OpVal P o a w (fun v w' => Fp (opArgs o a) v ∧ G w w' ∧ Fw (opArgs o a) v w'))
    (h : ∀ v, Fp (opArgs o a) v → rvc P ops G w0 kind bef T rest (i + 1) (fun _ => none) (a.put o.dst v) ((i, Fw (opArgs o a) v) :: H)) :
    rvc P ops G w0 kind bef T (o :: rest) i (fun _ => none) a H := by
  simp only [rvc, hw, if_true, hk]; exact ⟨hex, hrun, h⟩

/-- A call of a Go function, by its contract. -/
theorem opVal_call {f : FuncId} {vs : Array Value} {w w1 : World} {ψ : Value → World → Prop} (hr : (execOp a.eval o).run P w = .ok (.enter f vs) w1)
    (h : Calls P f vs w1 (fun e w'' => ∃ v, e = .returned v ∧ ψ v w'')) : OpVal P o a w ψ := by
  unfold OpVal; rw [hr]; exact h
theorem opVal_value {v : Value} {w w' : World} {ψ : Value → World → Prop} (hr : (execOp a.eval o).run P w = .ok (.value v) w') (h : ψ v w') : OpVal P o a w ψ := by
  unfold OpVal; rw [hr]; exact h
end

/-- Only draws. -/
def GQ (w w' : World) : Prop := ∃ n, w' = w.drewN n
theorem drewN_drewN (w : World) (n m : Nat) : (w.drewN n).drewN m = w.drewN (n + m) := by simp [World.drewN, Nat.add_assoc]
theorem GQ.trans : ∀ a b c, GQ a b → GQ b c → GQ a c := fun _ _ _ ⟨n, hn⟩ ⟨m, hm⟩ => ⟨n + m, by rw [hm, hn, drewN_drewN]⟩
theorem GQ.refl : ∀ a, GQ a a := fun _ => ⟨0, rfl⟩
theorem GQ.start (w : World) : GQ w w.drew := ⟨1, rfl⟩
theorem gq_le {W : World} {a b : Nat} (h : a ≤ b) : GQ (W.drewN a) (W.drewN b) := ⟨b - a, by rw [drewN_drewN]; congr 1; omega⟩
theorem drew_eq1 (w : World) : w.drew = w.drewN 1 := rfl
theorem setCell_drewN (w : World) (n : Nat) (a : Addr) (v : Value) : (w.drewN n).setCell a v = (w.setCell a v).drewN n := rfl
theorem GQ.cell {w w' : World} (h : GQ w w') (a : Addr) : w'.cell? a = w.cell? a := by obtain ⟨n, rfl⟩ := h; rfl
theorem GQ.frozen {w w' : World} (h : GQ w w') (a : Addr) : w'.frozen? a = w.frozen? a := by obtain ⟨n, rfl⟩ := h; rfl

theorem KB.gq {S : Nat → Prop} {w w' : World} (h : GQ w w') : KB S w w' := by obtain ⟨n, rfl⟩ := h; exact (KB.refl S w).drewN n
theorem kb_trans (S : Nat → Prop) : ∀ a b c, KB S a b → KB S b c → KB S a c := fun _ _ _ h k => h.trans k
theorem kb_refl (S : Nat → Prop) : ∀ a, KB S a a := KB.refl S
theorem kb_start (S : Nat → Prop) (w : World) : KB S w w.drew := (KB.refl S w).drew

/-- The kinds of a region's operations: relations on values alone. -/
def kindV (l : List (Nat × (Value → Prop))) (i : Nat) : OKind :=
  match l.find? (fun p => p.1 == i) with
  | some p => .rel (fun _ v => p.2 v) (fun _ _ _ => True)
  | none => .det
theorem kindV_mono {G : World → World → Prop} (l : List (Nat × (Value → Prop))) : ∀ i Fp Fw, kindV l i = .rel Fp Fw → ∀ xs v a b, G a b → Fw xs v a → Fw xs v b := by
  intro i Fp Fw h xs v a b _ hf
  unfold kindV at h
  split at h
  · cases h; exact trivial
  · cases h
@[go_sem] theorem wrap_lit0 : IntKind.i64.wrap 0 = 0 := by decide
@[go_sem] theorem wrap_lit1 : IntKind.i64.wrap 1 = 1 := by decide
@[go_sem] theorem wrap_lit2 : IntKind.i64.wrap 2 = 2 := by decide
@[go_sem] theorem wrap_lit3 : IntKind.i64.wrap 3 = 3 := by decide
@[go_sem] theorem wrap_lit4 : IntKind.i64.wrap 4 = 4 := by decide
@[go_sem] theorem wrap_lit5 : IntKind.i64.wrap 5 = 5 := by decide
@[go_sem] theorem wrap_lit6 : IntKind.i64.wrap 6 = 6 := by decide
@[go_sem] theorem wrap_lit7 : IntKind.i64.wrap 7 = 7 := by decide
@[go_sem] theorem wrap_lit8 : IntKind.i64.wrap 8 = 8 := by decide
@[go_sem] theorem wrap_lit9 : IntKind.i64.wrap 9 = 9 := by decide
@[go_sem] theorem wrap_lit10 : IntKind.i64.wrap 10 = 10 := by decide
@[go_sem] theorem wrap_lit11 : IntKind.i64.wrap 11 = 11 := by decide
@[go_sem] theorem wrap_lit12 : IntKind.i64.wrap 12 = 12 := by decide
@[go_sem] theorem wrap_lit13 : IntKind.i64.wrap 13 = 13 := by decide
@[go_sem] theorem wrap_lit14 : IntKind.i64.wrap 14 = 14 := by decide
@[go_sem] theorem wrap_lit15 : IntKind.i64.wrap 15 = 15 := by decide
@[go_sem] theorem wrap_lit16 : IntKind.i64.wrap 16 = 16 := by decide
@[go_sem] theorem wrap_lit24 : IntKind.i64.wrap 24 = 24 := by decide
@[go_sem] theorem wrap_lit32 : IntKind.i64.wrap 32 = 32 := by decide
@[go_sem] theorem wrap_lit48 : IntKind.i64.wrap 48 = 48 := by decide
@[go_sem] theorem wrap_lit63 : IntKind.i64.wrap 63 = 63 := by decide
@[go_sem] theorem wrap_lit64 : IntKind.i64.wrap 64 = 64 := by decide
@[go_sem] theorem wrap_lit128 : IntKind.i64.wrap 128 = 128 := by decide
@[go_sem] theorem wrap_lit255 : IntKind.i64.wrap 255 = 255 := by decide
@[go_sem] theorem wrap_lit256 : IntKind.i64.wrap 256 = 256 := by decide
@[go_sem] theorem wrap_lit512 : IntKind.i64.wrap 512 = 512 := by decide
@[go_sem] theorem wrap_lit1024 : IntKind.i64.wrap 1024 = 1024 := by decide
@[go_sem] theorem wrap_lit2048 : IntKind.i64.wrap 2048 = 2048 := by decide
@[go_sem] theorem wrap_lit4096 : IntKind.i64.wrap 4096 = 4096 := by decide
@[go_sem] theorem wrap_lit8192 : IntKind.i64.wrap 8192 = 8192 := by decide
@[go_sem] theorem wrap_lit16384 : IntKind.i64.wrap 16384 = 16384 := by decide
@[go_sem] theorem wrap_lit32768 : IntKind.i64.wrap 32768 = 32768 := by decide
@[go_sem] theorem wrap_lit65536 : IntKind.i64.wrap 65536 = 65536 := by decide
@[go_sem] theorem wrap_litm1 : IntKind.i64.wrap (-1) = -1 := by decide
end Go.Proofs.YtoophdcagpfmpaaGreatDoor

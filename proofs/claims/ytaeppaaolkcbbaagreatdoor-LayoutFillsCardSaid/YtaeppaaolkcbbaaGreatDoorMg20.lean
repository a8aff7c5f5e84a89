/- Drawn regions that store a struct of one type in a new cell: each new block of that type is kept, or holds what is wanted. -/
import Derived.Test.YtaeppaaolkcbbaaGreatDoorMg19
import Derived.Test.YtaeppaaolkcbbaaGreatDoorMg02
namespace Go.Proofs.YtaeppaaolkcbbaaGreatDoor.St
open Go Go.RowKit

/-- New memory; and blocks of type T from B on that are written, the wanted cells only by wanted ones. -/
def GY (T : TypeId) (Z : Nat) (Wt : Array Value → Prop) (B : Nat) (a b : World) : Prop :=
  KB (fun k => B ≤ k ∧ ∃ cs, a.heap[k]? = some (.cells cs T (0, 0))) a b ∧
  ∀ k cs, B ≤ k → cs.size = Z → a.heap[k]? = some (.cells cs T (0, 0)) → ∃ cs', cs'.size = Z ∧ b.heap[k]? = some (.cells cs' T (0, 0)) ∧ (Wt cs → Wt cs')
section
variable {T : TypeId} {Z : Nat} {Wt : Array Value → Prop} {B : Nat}
theorem gy_kbF {a b : World} (h : KB (fun _ => False) a b) : GY T Z Wt B a b :=
  ⟨h.mono (fun _ _ x => x.elim), fun k cs _ hz hc => ⟨cs, hz, h.heap (fun x => x) hc, fun x => x⟩⟩
theorem gy_refl (a : World) : GY T Z Wt B a a := gy_kbF (KB.refl _ _)
theorem gy_trans (a b c : World) (h : GY T Z Wt B a b) (k : GY T Z Wt B b c) : GY T Z Wt B a c := by
  refine ⟨⟨k.1.os.trans h.1.os, k.1.tape.trans h.1.tape, k.1.output.trans h.1.output, Nat.le_trans h.1.size k.1.size, fun i hi hn => ?_⟩, fun i cs hB hz hc => ?_⟩
  · rw [k.1.block i (Nat.lt_of_lt_of_le hi h.1.size) (fun ⟨h1, cs, h2⟩ => hn ⟨h1, cs, by rw [← h.1.block i hi hn]; exact h2⟩), h.1.block i hi hn]
  · obtain ⟨c1, z1, h1, w1⟩ := h.2 i cs hB hz hc
    obtain ⟨c2, z2, h2, w2⟩ := k.2 i c1 hB z1 h1
    exact ⟨c2, z2, h2, fun x => w2 (w1 x)⟩
theorem gy_start (w : World) : GY T Z Wt w.heap.size w w.drew := gy_kbF (KB.refl _ _).drew
theorem GY.kb {a b : World} (h : GY T Z Wt B a b) (hB : a.heap.size ≤ B) : KB (fun _ => False) a b := h.1.mono (fun k hk x => by have := x.1; omega)
theorem GY.size {a b : World} (h : GY T Z Wt B a b) : a.heap.size ≤ b.heap.size := h.1.size
/-- The kinds of a region's operations, by operands and value. -/
def kindXn (l : List (Nat × (List Value → Value → Prop) × (List Value → Value → Nat × Nat → World → Prop))) (i : Nat) : OKindN :=
  match l.find? (fun p => p.1 == i) with
  | some p => .rel p.2.1 p.2.2
  | none => .det
theorem kindXn_mono {G : World → World → Prop} (l : List (Nat × (List Value → Value → Prop) × (List Value → Value → Nat × Nat → World → Prop)))
    (hl : ∀ p ∈ l, ∀ xs v g a b, G a b → p.2.2 xs v g a → p.2.2 xs v g b) : ∀ i Fp Fw, kindXn l i = .rel Fp Fw → ∀ xs v g a b, G a b → Fw xs v g a → Fw xs v g b := by
  intro i Fp Fw h xs v g a b hG hf
  unfold kindXn at h
  split at h
  · rename_i p hp
    cases h
    exact hl p (List.mem_of_find?_eq_some hp) xs v g a b hG hf
  · cases h
/-- A new block of type T. -/
def NewT (T : TypeId) (Z B : Nat) (_ : List Value) (v : Value) (_ : Nat × Nat) (w : World) : Prop := ∀ n, v = .pointer (some ⟨n, 0, none⟩) → B ≤ n ∧ ∃ cs, cs.size = Z ∧ w.heap[n]? = some (.cells cs T (0, 0))
theorem newT_gy : ∀ (xs : List Value) (v : Value) (g : Nat × Nat) (a b : World), GY T Z Wt B a b → NewT T Z B xs v g a → NewT T Z B xs v g b := fun _ _ _ _ _ hG h n e => by
  obtain ⟨h1, cs, h2, h3⟩ := h n e
  obtain ⟨c1, z1, h4, -⟩ := hG.2 n cs h1 h2 h3
  exact ⟨h1, c1, z1, h4⟩
/-- The block that a store's pointer names holds wanted cells. -/
def HasT (T : TypeId) (Z B : Nat) (Wt : Array Value → Prop) (xs : List Value) (_ : Value) (_ : Nat × Nat) (w : World) : Prop := ∀ n, xs[0]? = some (.pointer (some ⟨n, 0, none⟩)) → B ≤ n ∧ ∃ cs, cs.size = Z ∧ w.heap[n]? = some (.cells cs T (0, 0)) ∧ Wt cs
theorem hasT_gy : ∀ (xs : List Value) (v : Value) (g : Nat × Nat) (a b : World), GY T Z Wt B a b → HasT T Z B Wt xs v g a → HasT T Z B Wt xs v g b := fun _ _ _ _ _ hG h n e => by
  obtain ⟨h1, cs, h2, h3, h4⟩ := h n e
  obtain ⟨c1, z1, h5, h6⟩ := hG.2 n cs h1 h2 h3
  exact ⟨h1, c1, z1, h5, h6 h4⟩
theorem opVal_newT {P : Program} {o : Oper} {a : Act} {w w0 : World} {cs : Array Value} (hz : cs.size = Z) (hG : GY T Z Wt w0.heap.size w0 w)
    (hr : (execOp a.eval o).run P w = .ok (.value (.pointer (some ⟨w.heap.size, 0, none⟩))) (w.alloc (.cells cs T))) :
    OpVal P o a w (fun v w' => IsPtr v ∧ GY T Z Wt w0.heap.size w w' ∧ ∀ g, NewT T Z w0.heap.size (opArgs o a) v g w') :=
  opVal_value hr ⟨⟨_, rfl⟩, gy_kbF ((KB.refl _ w).alloc _), fun _ n e => by
    simp only [Value.pointer.injEq, Option.some.injEq, Addr.mk.injEq, and_true] at e
    subst e; exact ⟨hG.size, cs, hz, alloc_new w _⟩⟩
/-- A store over a new block. -/
theorem opVal_storeT {P : Program} {o : Oper} {a : Act} {w w' w0 : World} {n : Nat} {cs ds : Array Value} (hn : w0.heap.size ≤ n) (hc : w.heap[n]? = some (.cells cs T (0, 0))) (hz : ds.size = Z) (hW : Wt ds)
    (hk : KB (fun k => k = n) w w') (hd : w'.heap[n]? = some (.cells ds T (0, 0))) (hx : (opArgs o a)[0]? = some (.pointer (some ⟨n, 0, none⟩))) (hr : (execOp a.eval o).run P w = .ok .skip w') :
    OpVal P o a w (fun v w' => v = undef ∧ GY T Z Wt w0.heap.size w w' ∧ ∀ g, HasT T Z w0.heap.size Wt (opArgs o a) v g w') := by
  refine opVal_skip hr ⟨rfl, ⟨hk.mono (fun k _ e => by subst e; exact ⟨hn, cs, hc⟩), fun k es hB hz' he => ?_⟩, fun _ m e => ?_⟩
  · by_cases e : k = n
    · subst e; exact ⟨ds, hz, hd, fun _ => hW⟩
    · exact ⟨es, hz', hk.heap e he, fun x => x⟩
  · rw [hx] at e
    simp only [Option.some.injEq, Value.pointer.injEq, Addr.mk.injEq, and_true] at e
    subst e
    exact ⟨hn, ds, hz, hd, hW⟩
end
end Go.Proofs.YtaeppaaolkcbbaaGreatDoor.St

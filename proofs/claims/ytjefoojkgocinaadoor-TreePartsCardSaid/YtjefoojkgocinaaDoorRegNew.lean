/- A drawn region that calls a function for a tree and stores it in a new cell. -/
import Derived.Test.YtjefoojkgocinaaDoorTrJoin
import Derived.Test.YtjefoojkgocinaaDoorRegSt
namespace Go.Proofs.YtjefoojkgocinaaDoor.St
open Go.RowKit

/-- The kinds of a region's operations, by operands and value. -/
def kindX (l : List (Nat × (List Value → Value → Prop) × (List Value → Value → World → Prop))) (i : Nat) : OKind :=
  match l.find? (fun p => p.1 == i) with
  | some p => .rel p.2.1 p.2.2
  | none => .det
theorem kindX_mono {G : World → World → Prop} (l : List (Nat × (List Value → Value → Prop) × (List Value → Value → World → Prop)))
    (hl : ∀ p ∈ l, ∀ xs v a b, G a b → p.2.2 xs v a → p.2.2 xs v b) : ∀ i Fp Fw, kindX l i = .rel Fp Fw → ∀ xs v a b, G a b → Fw xs v a → Fw xs v b := by
  intro i Fp Fw h xs v a b hG hf
  unfold kindX at h
  split at h
  · rename_i p hp
    cases h
    exact hl p (List.mem_of_find?_eq_some hp) xs v a b hG hf
  · cases h
/-- A cell, from block B on, that holds a tree. -/
def TreeCell (w : World) (B k : Nat) (u : Value) : Prop := B ≤ k ∧ w.heap[k]? = some (.cells #[u] 31 (0, 0))
def OwnV (S : List Nd) (B : Nat) (u : Value) (w : World) : Prop := ∃ a c ls, u = .slice a S.length c ∧ OwnTs w B u S ls
/-- New memory; and cells of trees that are written, the wanted tree only by itself. -/
def GT (S : List Nd) (B : Nat) (a b : World) : Prop := KB (fun k => ∃ u, TreeCell a B k u) a b ∧ ∀ k u, TreeCell a B k u → ∃ u', TreeCell b B k u' ∧ (OwnV S B u a → OwnV S B u' b)
theorem _root_.Go.Proofs.YtjefoojkgocinaaDoor.OwnTs.typed {w w' : World} {B : Nat} {v : Value} {ts : List Nd} {ls : List Value} (h : OwnTs w B v ts ls) {P : Nat → Prop} (hk : KB P w w') (hP : ∀ g, P g → ∃ c, w.heap[g]? = some (.cells c 31 (0, 0))) : OwnTs w' B v ts ls := by
  have hne : ∀ {e : TypeId} {u : Value} {z n : Nat} {xs : List Value}, e ≠ 31 → w.ownsRow B e z u n xs → w'.ownsRow B e z u n xs := fun he hu => own_kb hu hk (fun g e1 e2 => by
    obtain ⟨c1, h1, -⟩ := own_block hu e1
    obtain ⟨c2, h2⟩ := hP g e2
    rw [h1] at h2
    simp only [Option.some.injEq, Obj.cells.injEq] at h2
    exact he h2.2.1)
  exact ⟨h.len, hne (by decide) h.row, fun k hk => hne (by decide) (h.lists k hk)⟩
section
variable {S : List Nd} {B : Nat}
theorem OwnV.gt {u : Value} {a b : World} (h : OwnV S B u a) (hG : GT S B a b) : OwnV S B u b := by
  obtain ⟨a1, c, ls, e, ho⟩ := h
  exact ⟨a1, c, ls, e, ho.typed hG.1 (fun g ⟨u, h⟩ => ⟨_, h.2⟩)⟩
theorem gt_refl : ∀ a, GT S B a a := fun _a => ⟨KB.refl _ _, fun _ u h => ⟨u, h, fun x => x⟩⟩
theorem gt_trans : ∀ a b c, GT S B a b → GT S B b c → GT S B a c := by
  intro a b c h k
  refine ⟨⟨k.1.os.trans h.1.os, k.1.tape.trans h.1.tape, k.1.output.trans h.1.output, Nat.le_trans h.1.size k.1.size, fun q hq hn => ?_⟩, fun q u hu => ?_⟩
  · rw [k.1.block q (Nat.lt_of_lt_of_le hq h.1.size) (fun ⟨u, h1, h2⟩ => hn ⟨u, h1, by rw [← h.1.block q hq hn]; exact h2⟩), h.1.block q hq hn]
  · obtain ⟨u1, h1, h2⟩ := h.2 q u hu
    obtain ⟨u2, h3, h4⟩ := k.2 q u1 h1
    exact ⟨u2, h3, fun x => h4 (h2 x)⟩
theorem gt_kbF {a b : World} (h : KB F0 a b) : GT S B a b := by
  have hc : ∀ k u, TreeCell a B k u → TreeCell b B k u := fun k u hu => ⟨hu.1, h.heap (fun x => x) hu.2⟩
  refine ⟨h.mono (fun _ _ x => x.elim), fun k u hu => ⟨u, hc k u hu, fun ⟨a1, c, ls, e, ho⟩ => ⟨a1, c, ls, e, ho.kbF h⟩⟩⟩
theorem GT.kb {a b : World} (h : GT S B a b) (hB : a.heap.size ≤ B) : KB F0 a b := h.1.mono (fun k hk ⟨_, h1, _⟩ => by omega)
theorem TreeCell.gt {a b : World} {k : Nat} {u : Value} (h : TreeCell a B k u) (hG : GT S B a b) : ∃ u', TreeCell b B k u' ∧ (OwnV S B u a → OwnV S B u' b) := hG.2 k u h
/-- The store of the tree. -/
theorem gt_set {w : World} {k : Nat} {u v : Value} (h : TreeCell w B k u) (hv : OwnV S B v w) : GT S B w (w.setCell ⟨k, 0, none⟩ v) ∧ TreeCell (w.setCell ⟨k, 0, none⟩ v) B k v ∧ OwnV S B v (w.setCell ⟨k, 0, none⟩ v) := by
  have hk := kb_set w k 0 v
  have hset : (w.setCell ⟨k, 0, none⟩ v).heap[k]? = some (.cells #[v] 31 (0, 0)) := setCell_blk (i := 0) h.2 v
  have hown : OwnV S B v (w.setCell ⟨k, 0, none⟩ v) := by
    obtain ⟨a1, c, ls, e, ho⟩ := hv
    exact ⟨a1, c, ls, e, ho.typed hk (fun g e => ⟨#[u], by rw [e]; exact h.2⟩)⟩
  refine ⟨⟨hk.mono (fun g _ e => ⟨u, by rw [e]; exact h⟩), fun q u1 hu => ?_⟩, ⟨h.1, hset⟩, hown⟩
  by_cases hq : q = k
  · subst hq
    exact ⟨v, ⟨h.1, hset⟩, fun _ => hown⟩
  · refine ⟨u1, ⟨hu.1, hk.heap (fun e => hq e) hu.2⟩, fun ⟨a1, c, ls, e, ho⟩ => ⟨a1, c, ls, e, ho.typed hk (fun g e => ⟨#[u], by rw [e]; exact h.2⟩)⟩⟩
end
/-- The relations of the call, the new cell and the store. -/
def gtKinds (S : List Nd) (B i j k : Nat) (E : Int) : List (Nat × (List Value → Value → Prop) × (List Value → Value → World → Prop)) :=
  [(i, fun _ v => ∃ a c, v = .tuple #[.agg #[.slice a S.length c], .int .i64 E], fun _ v w => ∃ u, v = .tuple #[.agg #[u], .int .i64 E] ∧ OwnV S B u w),
   (j, fun _ v => ∃ nb, v = .pointer (some ⟨nb, 0, none⟩), fun _ v w => ∃ nb u, v = .pointer (some ⟨nb, 0, none⟩) ∧ TreeCell w B nb u),
   (k, fun _ _ => True, fun xs _ w => ∃ nb u0 u, xs = [.pointer (some ⟨nb, 0, none⟩), u0] ∧ TreeCell w B nb u ∧ OwnV S B u w)]
theorem gtKinds_mono {S : List Nd} {B i j k : Nat} {E : Int} : ∀ p ∈ gtKinds S B i j k E, ∀ xs v a b, GT S B a b → p.2.2 xs v a → p.2.2 xs v b := by
  intro p hp xs v a b hG
  simp only [gtKinds, List.mem_cons, List.not_mem_nil, or_false] at hp
  rcases hp with rfl | rfl | rfl
  · rintro ⟨u, h1, h2⟩
    exact ⟨u, h1, h2.gt hG⟩
  · rintro ⟨nb, u, h1, h2⟩
    obtain ⟨u', h3, -⟩ := h2.gt hG
    exact ⟨nb, u', h1, h3⟩
  · rintro ⟨nb, u0, u, h1, h2, h3⟩
    obtain ⟨u', h4, h5⟩ := h2.gt hG
    exact ⟨nb, u0, u', h1, h4, h5 h3⟩
end Go.Proofs.YtjefoojkgocinaaDoor.St

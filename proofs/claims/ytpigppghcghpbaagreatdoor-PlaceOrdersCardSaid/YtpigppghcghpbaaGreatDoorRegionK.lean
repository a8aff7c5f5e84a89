/- Drawn regions whose operations may make memory: what was there stays (KB). -/
import Derived.Test.YtpigppghcghpbaaGreatDoorRegionIn
import Derived.Test.YtpigppghcghpbaaGreatDoorOwn
import Derived.OwnWalkIn
namespace Go.Proofs.YtpigppghcghpbaaGreatDoor
open Go.RowKit

abbrev GK : World → World → Prop := KB (fun _ => False)
/-- The kinds of a region's operations: relations on values, and facts of the memory that last. -/
def kindW (l : List (Nat × (Value → Prop) × (Value → World → Prop))) (i : Nat) : OKind :=
  match l.find? (fun p => p.1 == i) with
  | some p => .rel (fun _ v => p.2.1 v) (fun _ v w => p.2.2 v w)
  | none => .det
def Lasts (φ : Value → World → Prop) : Prop := ∀ v a b, GK a b → φ v a → φ v b
theorem kindW_mono (l : List (Nat × (Value → Prop) × (Value → World → Prop))) (hl : ∀ p ∈ l, Lasts p.2.2) : ∀ i Fp Fw, kindW l i = .rel Fp Fw → ∀ xs v a b, GK a b → Fw xs v a → Fw xs v b := by
  intro i Fp Fw h xs v a b hG hf
  unfold kindW at h
  split at h
  · rename_i p hp
    cases h
    exact hl p (List.mem_of_find?_eq_some hp) v a b hG hf
  · cases h
theorem lasts_true : Lasts (fun _ _ => True) := fun _ _ _ _ _ => trivial
theorem lasts_heap (f : Value → Nat) (o : Value → Obj) : Lasts (fun v w => w.heap[f v]? = some (o v)) := fun _ _ _ hG h => hG.heap (fun x => x) h
theorem lasts_and {p q : Value → World → Prop} (hp : Lasts p) (hq : Lasts q) : Lasts (fun v w => p v w ∧ q v w) := fun v a b hG h => ⟨hp v a b hG h.1, hq v a b hG h.2⟩
/-- A slice of one element that was just laid. -/
def OneRow (B : Nat) (_cs : Array Value) (_t : TypeId) (v : Value) : Prop := ∃ nb, v = .slice (some ⟨nb, 0, none⟩) 1 1 ∧ B ≤ nb
def OneRowAt (B : Nat) (cs : Array Value) (t : TypeId) (v : Value) (w : World) : Prop := ∃ nb, v = .slice (some ⟨nb, 0, none⟩) 1 1 ∧ B ≤ nb ∧ w.heap[nb]? = some (.cells cs t (0, 0))
theorem lasts_row (B : Nat) (cs : Array Value) (t : TypeId) : Lasts (OneRowAt B cs t) := fun _ _ _ hG ⟨nb, h1, h2, h3⟩ => ⟨nb, h1, h2, hG.heap (fun x => x) h3⟩
/-- An element laid for an append. -/
theorem opVal_row {P : Program} {o : Oper} {a : Act} {w w0 : World} {cs : Array Value} {t : TypeId} (hG : GK w0 w)
    (hr : (execOp a.eval o).run P w = .ok (.value (.slice (some ⟨w.heap.size, 0, none⟩) 1 1)) (w.alloc (.cells cs t))) :
    OpVal P o a w (fun v w' => OneRow w0.heap.size cs t v ∧ GK w w' ∧ OneRowAt w0.heap.size cs t v w') :=
  opVal_value hr ⟨⟨_, rfl, hG.size⟩, (KB.refl _ w).alloc _, ⟨_, rfl, hG.size, alloc_new w _⟩⟩

theorem cells_of_block {w : World} {nb : Nat} {us : List Value} {t : TypeId} (h : w.heap[nb]? = some (.cells us.toArray t (0, 0))) : ∀ j u, us[j]? = some u → w.cell? ((⟨nb, 0, none⟩ : Addr).add j) = some u := by
  intro j u hj
  rw [show ((⟨nb, 0, none⟩ : Addr).add j) = ⟨nb, j, none⟩ by unfold Addr.add; split <;> simp_all]
  simp only [World.cell?, h]
  simpa using hj
/-- 'out = append(out, x)', one element, onto a slice of the call's own, the element laid in a block of its own. -/
theorem appRow {P : Program} {ops : Array Oper} {rest : List Oper} {o : Oper} {a : Act} {Q : Exit → Act → World → Prop} {w : World} (t e : TypeId) (base : Nat) (us : List Value) {z : Value} {size bytes : Nat}
    (hinfo : (P.info? e).map (fun i => (i.zero, i.size, i.bytes)) = some (some z, size, bytes)) (ht : P.underlying t = some (.slice e)) (hz : z.cells.size = size) (hsz : 0 < size)
    {v : Value} {n : Nat} {xs : List Value} (hown : w.ownsRow base e size v n xs) {s x : Operand} {nb c : Nat} {te : TypeId} (hgd : o.guard = none)
    (ho : o.op = .call { callee := .builtin .append, args := #[s, x], argTypes := #[t, t] }) (hs : a.eval s = v)
    (hx : a.eval x = .slice (some ⟨nb, 0, none⟩) 1 c) (hu : w.heap[nb]? = some (.cells us.toArray te (0, 0))) (hl : us.length = size) (h1 : ∀ u ∈ us, u.oneCell' = true)
    (h63 : n + 1 ≤ maxLen) (hbytes : (n + 1) * bytes ≤ 140737488355328) (hbase : base ≤ w.heap.size)
    (h : ∀ v' w', w'.ownsRow base e size v' (n + 1) (xs ++ us) → w.grownBy w' v.ownBlock → wpList P ops Q rest (a.put o.dst v') w') : wpList P ops Q (o :: rest) a w := by
  obtain ⟨i, hi, hz0, hz1, hz2⟩ := info_parts hinfo
  exact wpList_append_own w hgd s x t ho base e i z size bytes ht hi hz0 hz1 hz2 hz hsz v n xs hs hown ⟨nb, 0, none⟩ 1 c us hx (by rw [hl]; omega) (cells_of_block hu) h1 h63 hbytes hbase (fun v' w' h2 h3 _ => h v' w' h2 h3)
theorem appRowIn {F : Fence} {m : Nat} {P : Program} {ops : Array Oper} {rest : List Oper} {o : Oper} {a : Act} {Q : Exit → Act → World → Prop} {w : World} (t e : TypeId) (base : Nat) (us : List Value) {z : Value} {size bytes : Nat}
    (hinfo : (P.info? e).map (fun i => (i.zero, i.size, i.bytes)) = some (some z, size, bytes)) (ht : P.underlying t = some (.slice e)) (hz : z.cells.size = size) (hsz : 0 < size)
    {v : Value} {n : Nat} {xs : List Value} (hown : w.ownsRow base e size v n xs) {s x : Operand} {nb c : Nat} {te : TypeId} (hgd : o.guard = none)
    (ho : o.op = .call { callee := .builtin .append, args := #[s, x], argTypes := #[t, t] }) (hs : a.eval s = v)
    (hx : a.eval x = .slice (some ⟨nb, 0, none⟩) 1 c) (hu : w.heap[nb]? = some (.cells us.toArray te (0, 0))) (hl : us.length = size) (h1 : ∀ u ∈ us, u.oneCell' = true)
    (h63 : n + 1 ≤ maxLen) (hbytes : (n + 1) * bytes ≤ 140737488355328) (hbase : base ≤ w.heap.size)
    (h : ∀ v' w', w'.ownsRow base e size v' (n + 1) (xs ++ us) → w.grownBy w' v.ownBlock → wpListIn F m P ops Q rest (a.put o.dst v') w') : wpListIn F m P ops Q (o :: rest) a w := by
  obtain ⟨i, hi, hz0, hz1, hz2⟩ := info_parts hinfo
  exact wpListIn_append_own w hgd s x t ho base e i z size bytes ht hi hz0 hz1 hz2 hz hsz v n xs hs hown ⟨nb, 0, none⟩ 1 c us hx (by rw [hl]; omega) (cells_of_block hu) h1 h63 hbytes hbase (fun v' w' h2 h3 _ => h v' w' h2 h3)
end Go.Proofs.YtpigppghcghpbaaGreatDoor

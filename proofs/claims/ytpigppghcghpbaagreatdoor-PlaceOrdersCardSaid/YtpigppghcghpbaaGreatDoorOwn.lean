/- Slices that a call makes itself: small facts beside 'ownsRow'. -/
import Derived.Test.YtpigppghcghpbaaGreatDoorRows
import Derived.Test.YtpigppghcghpbaaGreatDoorRegionB
namespace Go.Proofs.YtpigppghcghpbaaGreatDoor
open Go Go.RowKit

/-- A goal at which a walk stands still. -/
structure Stopped (p : Prop) : Prop where
  out : p
theorem KB.grown {S : Nat → Prop} {w0 w w' : World} {row : Option Nat} (h : KB S w0 w) (hg : w.grownBy w' row) (hr : ∀ k, row = some k → k < w0.heap.size → S k) : KB S w0 w' :=
  ⟨hg.os.trans h.os, hg.tape.trans h.tape, hg.output.trans h.output, Nat.le_trans h.size hg.size, fun k hk hn =>
    (hg.block k (Nat.lt_of_lt_of_le hk h.size) (fun e => hn (hr k e.symm hk))).trans (h.block k hk hn)⟩
theorem own_ge {w : World} {base : Nat} {e : TypeId} {size : Nat} {v : Value} {n : Nat} {xs : List Value} (h : w.ownsRow base e size v n xs) {B : Nat} (hB : B ≤ base) {S : Nat → Prop} :
    ∀ k, v.ownBlock = some k → k < B → S k := fun k hk hlt => by have := (h.lt k hk).1; omega
theorem own_drewN {w : World} {base : Nat} {e : TypeId} {size : Nat} {v : Value} {n : Nat} {xs : List Value} (h : w.ownsRow base e size v n xs) (m : Nat) : (w.drewN m).ownsRow base e size v n xs := h
/-- An own slice as a call's outcome leaves it. -/
theorem own_kb {w w' : World} {base : Nat} {e : TypeId} {size : Nat} {v : Value} {n : Nat} {xs : List Value} (h : w.ownsRow base e size v n xs) {S : Nat → Prop} (hk : KB S w w')
    (hs : ∀ k, v.ownBlock = some k → ¬ S k) : w'.ownsRow base e size v n xs := by
  obtain ⟨h1, h2⟩ := h
  refine ⟨h1, ?_⟩
  rcases h2 with h2 | ⟨g, cap, cur, hv, hg, hh, r⟩
  · exact Or.inl h2
  · exact Or.inr ⟨g, cap, cur, hv, hg, hk.heap (hs g (by rw [hv]; rfl)) hh, r⟩
theorem own_shape {w : World} {base : Nat} {e : TypeId} {size : Nat} {v : Value} {n : Nat} {xs : List Value} (h : w.ownsRow base e size v n xs) :
    ∃ a cap, v = .slice a n cap ∧ n ≤ cap ∧ cap ≤ maxLen ∧ (∀ k, k < n * size → ∃ g, a = some ⟨g, 0, none⟩ ∧ base ≤ g ∧ w.cell? ⟨g, k, none⟩ = xs[k]?) ∧ (a = none ∨ ∃ g, a = some ⟨g, 0, none⟩ ∧ base ≤ g) := by
  obtain ⟨h1, h2⟩ := h
  rcases h2 with ⟨hv, hn⟩ | ⟨g, cap, cur, hv, hg, hh, hcap, hm, hsz, hx⟩
  · subst hn; exact ⟨none, 0, hv, Nat.le_refl _, by decide, fun k hk => by omega, Or.inl rfl⟩
  · refine ⟨_, cap, hv, hcap, hm, fun k hk => ⟨g, rfl, hg, ?_⟩, Or.inr ⟨g, rfl, hg⟩⟩
    simp only [World.cell?, hh]
    rw [← hx]
    simp [hk]
theorem cell_new (w : World) (v : Value) (t : TypeId) : ∀ j u, [v][j]? = some u → (w.alloc (.cells #[v] t)).cell? ((⟨w.heap.size, 0, none⟩ : Addr).add j) = some u := by
  intro j u h
  cases j with
  | zero =>
    simp at h; subst h
    show (match (w.alloc (.cells #[v] t)).heap[w.heap.size]? with | some (.cells c _ _) => if (none : Option Nat).isSome then none else c[0]? | _ => none) = some v
    rw [alloc_new]; rfl
  | succ j => simp at h

/-- 'out = append(out, x)', one element of one cell, onto a slice of the call's own. -/
theorem app1 {P : Program} {ops : Array Oper} {rest : List Oper} {o : Oper} {a : Act} {Q : Exit → Act → World → Prop} {w : World} (t e : TypeId) (base : Nat) (u : Value) {z : Value} {bytes : Nat}
    (hinfo : (P.info? e).map (fun i => (i.zero, i.size, i.bytes)) = some (some z, 1, bytes)) (ht : P.underlying t = some (.slice e)) (hz : z.cells.size = 1)
    {v : Value} {n : Nat} {xs : List Value} (hown : w.ownsRow base e 1 v n xs) {s x : Operand} {nb c : Nat} (hgd : o.guard = none)
    (ho : o.op = .call { callee := .builtin .append, args := #[s, x], argTypes := #[t, t] }) (hs : a.eval s = v)
    (hx : a.eval x = .slice (some ⟨nb, 0, none⟩) 1 c) (hu : w.cell? ⟨nb, 0, none⟩ = some u) (h1 : u.oneCell' = true) (h63 : n + 1 ≤ maxLen) (hbytes : (n + 1) * bytes ≤ 140737488355328) (hbase : base ≤ w.heap.size)
    (h : ∀ v' w', w'.ownsRow base e 1 v' (n + 1) (xs ++ [u]) → w.grownBy w' v.ownBlock → wpList P ops Q rest (a.put o.dst v') w') : wpList P ops Q (o :: rest) a w := by
  obtain ⟨i, hi, hz0, hz1, hz2⟩ := info_parts hinfo
  refine wpList_append_own w hgd s x t ho base e i z 1 bytes ht hi hz0 hz1 hz2 hz (by decide) v n xs hs hown ⟨nb, 0, none⟩ 1 c [u] hx rfl ?_ ?_ h63 hbytes hbase (fun v' w' h2 h3 _ => h v' w' h2 h3)
  · intro j y hj
    cases j with
    | zero => simp at hj; subst hj; simpa [Addr.add] using hu
    | succ j => simp at hj
  · intro y hy; simp at hy; subst hy; exact h1
theorem Tryz.infoInt : (Tryz.prog.info? 3).map (fun i => (i.zero, i.size, i.bytes)) = some (some (.int .i64 0), 1, 8) := by kernel_rfl
end Go.Proofs.YtpigppghcghpbaaGreatDoor

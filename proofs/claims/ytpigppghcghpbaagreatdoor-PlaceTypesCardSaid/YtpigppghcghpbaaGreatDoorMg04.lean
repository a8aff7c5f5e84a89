/- Slices that a call makes itself: small facts beside 'ownsRow'. Drawn regions whose operations may make memory: what was there stays (KB). Blocks: small facts. Places, plain: prefixes and their order. -/
import Derived.Test.YtpigppghcghpbaaGreatDoorRows
import Derived.Test.YtpigppghcghpbaaGreatDoorRegionB
import Derived.Test.YtpigppghcghpbaaGreatDoorRegionIn
import Derived.OwnWalkIn
import Derived.Test.YtpigppghcghpbaaGreatDoorLib
namespace Go.Proofs.YtpigppghcghpbaaGreatDoor
open Go Go.RowKit

/-- A goal at which a walk stands still. -/
structure Stopped (p : Prop) : Prop where
  out : p
theorem KB.grown {S : Nat → Prop} {w0 w w' : World} {row : Option Nat} (h : KB S w0 w) (hg : w.grownBy w' row) (hr : ∀ k, row = some k → k < w0.heap.size → S k) : KB S w0 w' :=
  ⟨hg.os.trans h.os, hg.tape.trans h.tape, hg.output.trans h.output, Nat.le_trans h.size hg.size, fun k hk hn =>
    (hg.block k (Nat.lt_of_lt_of_le hk h.size) (fun e => hn (hr k e.symm hk))).trans (h.block k hk hn)⟩
theorem own_ge {w : World} {base : Nat} {e : TypeId} {size : Nat} {v : Value} {n : Nat} {xs : List Value} (h : w.ownsRow base e size v n xs) {B : Nat} (hB : B ≤ base) {S : Nat → Prop} :
    ∀ k, v.ownBlock = some k → k < B → S k := fun k hk hlt => by have := (h.lt k hk).1; omega
theorem own_drewN {w : World} {base : Nat} {e : TypeId} {size : Nat} {v : Value} {n : Nat} {xs : List Value} (h : w.ownsRow base e size v n xs) (m : Nat) : (w.drewN m).ownsRow base e size v n xs := h
/-- An own slice as a call's outcome leaves it. -/
theorem own_kb {w w' : World} {base : Nat} {e : TypeId} {size : Nat} {v : Value} {n : Nat} {xs : List Value} (h : w.ownsRow base e size v n xs) {S : Nat → Prop} (hk : KB S w w')
    (hs : ∀ k, v.ownBlock = some k → ¬ S k) : w'.ownsRow base e size v n xs := by
  obtain ⟨h1, h2⟩ := h
  refine ⟨h1, ?_⟩
  rcases h2 with h2 | ⟨g, cap, cur, hv, hg, hh, r⟩
  · exact Or.inl h2
  · exact Or.inr ⟨g, cap, cur, hv, hg, hk.heap (hs g (by rw [hv]; rfl)) hh, r⟩
theorem own_shape {w : World} {base : Nat} {e : TypeId} {size : Nat} {v : Value} {n : Nat} {xs : List Value} (h : w.ownsRow base e size v n xs) :
    ∃ a cap, v = .slice a n cap ∧ n ≤ cap ∧ cap ≤ maxLen ∧ (∀ k, k < n * size → ∃ g, a = some ⟨g, 0, none⟩ ∧ base ≤ g ∧ w.cell? ⟨g, k, none⟩ = xs[k]?) ∧ (a = none ∨ ∃ g, a = some ⟨g, 0, none⟩ ∧ base ≤ g) := by
  obtain ⟨h1, h2⟩ := h
  rcases h2 with ⟨hv, hn⟩ | ⟨g, cap, cur, hv, hg, hh, hcap, hm, hsz, hx⟩
  · subst hn; exact ⟨none, 0, hv, Nat.le_refl _, by decide, fun k hk => by omega, Or.inl rfl⟩
  · refine ⟨_, cap, hv, hcap, hm, fun k hk => ⟨g, rfl, hg, ?_⟩, Or.inr ⟨g, rfl, hg⟩⟩
    simp only [World.cell?, hh]
    rw [← hx]
    simp [hk]
theorem cell_new (w : World) (v : Value) (t : TypeId) : ∀ j u, [v][j]? = some u → (w.alloc (.cells #[v] t)).cell? ((⟨w.heap.size, 0, none⟩ : Addr).add j) = some u := by
  intro j u h
  cases j with
  | zero =>
    simp at h; subst h
    show (match (w.alloc (.cells #[v] t)).heap[w.heap.size]? with | some (.cells c _ _) => if (none : Option Nat).isSome then none else c[0]? | _ => none) = some v
    rw [alloc_new]; rfl
  | succ j => simp at h

/-- 'out = append(out, x)', one element of one cell, onto a slice of the call's own. -/
theorem app1 {P : Program} {ops : Array Oper} {rest : List Oper} {o : Oper} {a : Act} {Q : Exit → Act → World → Prop} {w : World} (t e : TypeId) (base : Nat) (u : Value) {z : Value} {bytes : Nat}
    (hinfo : (P.info? e).map (fun i => (i.zero, i.size, i.bytes)) = some (some z, 1, bytes)) (ht : P.underlying t = some (.slice e)) (hz : z.cells.size = 1)
    {v : Value} {n : Nat} {xs : List Value} (hown : w.ownsRow base e 1 v n xs) {s x : Operand} {nb c : Nat} (hgd : o.guard = none)
    (ho : o.op = .call { callee := .builtin .append, args := #[s, x], argTypes := #[t, t] }) (hs : a.eval s = v)
    (hx : a.eval x = .slice (some ⟨nb, 0, none⟩) 1 c) (hu : w.cell? ⟨nb, 0, none⟩ = some u) (h1 : u.oneCell' = true) (h63 : n + 1 ≤ maxLen) (hbytes : (n + 1) * bytes ≤ 140737488355328) (hbase : base ≤ w.heap.size)
    (h : ∀ v' w', w'.ownsRow base e 1 v' (n + 1) (xs ++ [u]) → w.grownBy w' v.ownBlock → wpList P ops Q rest (a.put o.dst v') w') : wpList P ops Q (o :: rest) a w := by
  obtain ⟨i, hi, hz0, hz1, hz2⟩ := info_parts hinfo
  refine wpList_append_own w hgd s x t ho base e i z 1 bytes ht hi hz0 hz1 hz2 hz (by decide) v n xs hs hown ⟨nb, 0, none⟩ 1 c [u] hx rfl ?_ ?_ h63 hbytes hbase (fun v' w' h2 h3 _ => h v' w' h2 h3)
  · intro j y hj
    cases j with
    | zero => simp at hj; subst hj; simpa [Addr.add] using hu
    | succ j => simp at hj
  · intro y hy; simp at hy; subst hy; exact h1
theorem Tryz.infoInt : (Tryz.prog.info? 3).map (fun i => (i.zero, i.size, i.bytes)) = some (some (.int .i64 0), 1, 8) := by kernel_rfl
end Go.Proofs.YtpigppghcghpbaaGreatDoor

namespace Go.Proofs.YtpigppghcghpbaaGreatDoor
open Go.RowKit

abbrev GK : World → World → Prop := KB (fun _ => False)
/-- The kinds of a region's operations: relations on values, and facts of the memory that last. -/
def kindW (l : List (Nat × (Value → Prop) × (Value → World → Prop))) (i : Nat) : OKind :=
  match l.find? (fun p => p.1 == i) with
  | some p => .rel (fun _ v => p.2.1 v) (fun _ v w => p.2.2 v w)
  | none => .det
def Lasts (φ : Value → World → Prop) : Prop := ∀ v a b, GK a b → φ v a → φ v b
theorem kindW_mono (l : List (Nat × (Value → Prop) × (Value → World → Prop))) (hl : ∀ p ∈ l, Lasts p.2.2) : ∀ i Fp Fw, kindW l i = .rel Fp Fw → ∀ xs v a b, GK a b → Fw xs v a → Fw xs v b := by
  intro i Fp Fw h xs v a b hG hf
  unfold kindW at h
  split at h
  · rename_i p hp
    cases h
    exact hl p (List.mem_of_find?_eq_some hp) v a b hG hf
  · cases h
theorem lasts_true : Lasts (fun _ _ => True) := fun _ _ _ _ _ => trivial
theorem lasts_heap (f : Value → Nat) (o : Value → Obj) : Lasts (fun v w => w.heap[f v]? = some (o v)) := fun _ _ _ hG h => hG.heap (fun x => x) h
theorem lasts_and {p q : Value → World → Prop} (hp : Lasts p) (hq : Lasts q) : Lasts (fun v w => p v w ∧ q v w) := fun v a b hG h => ⟨hp v a b hG h.1, hq v a b hG h.2⟩
/-- A slice of one element that was just laid. -/
def OneRow (B : Nat) (_cs : Array Value) (_t : TypeId) (v : Value) : Prop := ∃ nb, v = .slice (some ⟨nb, 0, none⟩) 1 1 ∧ B ≤ nb
def OneRowAt (B : Nat) (cs : Array Value) (t : TypeId) (v : Value) (w : World) : Prop := ∃ nb, v = .slice (some ⟨nb, 0, none⟩) 1 1 ∧ B ≤ nb ∧ w.heap[nb]? = some (.cells cs t (0, 0))
theorem lasts_row (B : Nat) (cs : Array Value) (t : TypeId) : Lasts (OneRowAt B cs t) := fun _ _ _ hG ⟨nb, h1, h2, h3⟩ => ⟨nb, h1, h2, hG.heap (fun x => x) h3⟩
/-- An element laid for an append. -/
theorem opVal_row {P : Program} {o : Oper} {a : Act} {w w0 : World} {cs : Array Value} {t : TypeId} (hG : GK w0 w)
    (hr : (execOp a.eval o).run P w = .ok (.value (.slice (some ⟨w.heap.size, 0, none⟩) 1 1)) (w.alloc (.cells cs t))) :
    OpVal P o a w (fun v w' => OneRow w0.heap.size cs t v ∧ GK w w' ∧ OneRowAt w0.heap.size cs t v w') :=
  opVal_value hr ⟨⟨_, rfl, hG.size⟩, (KB.refl _ w).alloc _, ⟨_, rfl, hG.size, alloc_new w _⟩⟩

theorem cells_of_block {w : World} {nb : Nat} {us : List Value} {t : TypeId} (h : w.heap[nb]? = some (.cells us.toArray t (0, 0))) : ∀ j u, us[j]? = some u → w.cell? ((⟨nb, 0, none⟩ : Addr).add j) = some u := by
  intro j u hj
  rw [show ((⟨nb, 0, none⟩ : Addr).add j) = ⟨nb, j, none⟩ by unfold Addr.add; split <;> simp_all]
  simp only [World.cell?, h]
  simpa using hj
/-- 'out = append(out, x)', one element, onto a slice of the call's own, the element laid in a block of its own. -/
theorem appRow {P : Program} {ops : Array Oper} {rest : List Oper} {o : Oper} {a : Act} {Q : Exit → Act → World → Prop} {w : World} (t e : TypeId) (base : Nat) (us : List Value) {z : Value} {size bytes : Nat}
    (hinfo : (P.info? e).map (fun i => (i.zero, i.size, i.bytes)) = some (some z, size, bytes)) (ht : P.underlying t = some (.slice e)) (hz : z.cells.size = size) (hsz : 0 < size)
    {v : Value} {n : Nat} {xs : List Value} (hown : w.ownsRow base e size v n xs) {s x : Operand} {nb c : Nat} {te : TypeId} (hgd : o.guard = none)
    (ho : o.op = .call { callee := .builtin .append, args := #[s, x], argTypes := #[t, t] }) (hs : a.eval s = v)
    (hx : a.eval x = .slice (some ⟨nb, 0, none⟩) 1 c) (hu : w.heap[nb]? = some (.cells us.toArray te (0, 0))) (hl : us.length = size) (h1 : ∀ u ∈ us, u.oneCell' = true)
    (h63 : n + 1 ≤ maxLen) (hbytes : (n + 1) * bytes ≤ 140737488355328) (hbase : base ≤ w.heap.size)
    (h : ∀ v' w', w'.ownsRow base e size v' (n + 1) (xs ++ us) → w.grownBy w' v.ownBlock → wpList P ops Q rest (a.put o.dst v') w') : wpList P ops Q (o :: rest) a w := by
  obtain ⟨i, hi, hz0, hz1, hz2⟩ := info_parts hinfo
  exact wpList_append_own w hgd s x t ho base e i z size bytes ht hi hz0 hz1 hz2 hz hsz v n xs hs hown ⟨nb, 0, none⟩ 1 c us hx (by rw [hl]; omega) (cells_of_block hu) h1 h63 hbytes hbase (fun v' w' h2 h3 _ => h v' w' h2 h3)
theorem appRowIn {F : Fence} {m : Nat} {P : Program} {ops : Array Oper} {rest : List Oper} {o : Oper} {a : Act} {Q : Exit → Act → World → Prop} {w : World} (t e : TypeId) (base : Nat) (us : List Value) {z : Value} {size bytes : Nat}
    (hinfo : (P.info? e).map (fun i => (i.zero, i.size, i.bytes)) = some (some z, size, bytes)) (ht : P.underlying t = some (.slice e)) (hz : z.cells.size = size) (hsz : 0 < size)
    {v : Value} {n : Nat} {xs : List Value} (hown : w.ownsRow base e size v n xs) {s x : Operand} {nb c : Nat} {te : TypeId} (hgd : o.guard = none)
    (ho : o.op = .call { callee := .builtin .append, args := #[s, x], argTypes := #[t, t] }) (hs : a.eval s = v)
    (hx : a.eval x = .slice (some ⟨nb, 0, none⟩) 1 c) (hu : w.heap[nb]? = some (.cells us.toArray te (0, 0))) (hl : us.length = size) (h1 : ∀ u ∈ us, u.oneCell' = true)
    (h63 : n + 1 ≤ maxLen) (hbytes : (n + 1) * bytes ≤ 140737488355328) (hbase : base ≤ w.heap.size)
    (h : ∀ v' w', w'.ownsRow base e size v' (n + 1) (xs ++ us) → w.grownBy w' v.ownBlock → wpListIn F m P ops Q rest (a.put o.dst v') w') : wpListIn F m P ops Q (o :: rest) a w := by
  obtain ⟨i, hi, hz0, hz1, hz2⟩ := info_parts hinfo
  exact wpListIn_append_own w hgd s x t ho base e i z size bytes ht hi hz0 hz1 hz2 hz hsz v n xs hs hown ⟨nb, 0, none⟩ 1 c us hx (by rw [hl]; omega) (cells_of_block hu) h1 h63 hbytes hbase (fun v' w' h2 h3 _ => h v' w' h2 h3)
end Go.Proofs.YtpigppghcghpbaaGreatDoor

namespace Go.Proofs.YtpigppghcghpbaaGreatDoor
open Go.RowKit

abbrev F0 : Nat → Prop := fun _ => False
theorem new_cell (w : World) (cs : Array Value) (t : TypeId) (i : Nat) : (w.alloc (.cells cs t)).cell? ⟨w.heap.size, i, none⟩ = cs[i]? := by
  simp only [World.cell?, alloc_new]; rfl
theorem take_getD {α : Type} {l : List α} {k : Nat} {d : α} (h : k < l.length) : l.take (k + 1) = l.take k ++ [l.getD k d] := by
  rw [List.take_succ_eq_append_getElem h, List.getD_eq_getElem?_getD, List.getElem?_eq_getElem h]; rfl
theorem blk_cell {w : World} {g : Nat} {cs : Array Value} {t : TypeId} (h : w.heap[g]? = some (.cells cs t (0, 0))) (i : Nat) : w.cell? ⟨g, i, none⟩ = cs[i]? := by
  simp only [World.cell?, h]; rfl
theorem blk_frozen {w : World} {g : Nat} {cs : Array Value} {t : TypeId} (h : w.heap[g]? = some (.cells cs t (0, 0))) (i : Nat) : w.frozen? ⟨g, i, none⟩ = false := by
  simp [World.frozen?, h]
theorem setCell_blk {w : World} {g i : Nat} {cs : Array Value} {t : TypeId} (h : w.heap[g]? = some (.cells cs t (0, 0))) (u : Value) : (w.setCell ⟨g, i, none⟩ u).heap[g]? = some (.cells (cs.setIfInBounds i u) t (0, 0)) := by
  simp [World.setCell, Array.getElem?_modify, h]
theorem kb_set (w : World) (g i : Nat) (u : Value) : KB (fun k => k = g) w (w.setCell ⟨g, i, none⟩ u) := (KB.refl (fun k => k = g) w).setCell (p := ⟨g, i, none⟩) (fun _ => rfl) u
theorem own_block {w : World} {B : Nat} {e : TypeId} {size : Nat} {v : Value} {n : Nat} {xs : List Value} (h : w.ownsRow B e size v n xs) {g : Nat} (hg : v.ownBlock = some g) : ∃ cur, w.heap[g]? = some (.cells cur e (0, 0)) ∧ B ≤ g := by
  obtain ⟨h1, h2⟩ := h
  rcases h2 with ⟨rfl, -⟩ | ⟨g', cap, cur, rfl, hb, hh, -⟩
  · cases hg
  · simp [Value.ownBlock] at hg; subst hg; exact ⟨cur, hh, hb⟩
theorem heap_ltc {w : World} {p : Addr} {v : Value} (h : w.cell? p = some v) : p.block < w.heap.size := World.block_lt_of_cell? w p h
theorem own_base {w : World} {B B' : Nat} {e : TypeId} {size : Nat} {v : Value} {n : Nat} {xs : List Value} (h : w.ownsRow B e size v n xs) (_hb : B' ≤ B) : w.ownsRow B' e size v n xs := by
  obtain ⟨h1, h2⟩ := h
  refine ⟨h1, ?_⟩
  rcases h2 with h2 | ⟨g, cap, cur, hv, hg, r⟩
  · exact Or.inl h2
  · exact Or.inr ⟨g, cap, cur, hv, by omega, r⟩
end Go.Proofs.YtpigppghcghpbaaGreatDoor

namespace Go.Proofs.YtpigppghcghpbaaGreatDoor

structure Pl where
  loc : Int
  path : List Int
/-- One place is a prefix of another one. -/
def preB (p q : Pl) : Bool := decide (p.loc = q.loc) && (decide (p.path.length ≤ q.path.length) && decide (q.path.take p.path.length = p.path))
def cmpI (x y : Int) : Int := if x < y then -1 else if y < x then 1 else 0
/-- Lists compared, number by number. -/
def cmpL : List Int → List Int → Int
  | [], [] => 0
  | [], _ :: _ => -1
  | _ :: _, [] => 1
  | x :: a, y :: b => if cmpI x y = 0 then cmpL a b else cmpI x y
def ordP (p q : Pl) : Int := if cmpI p.loc q.loc = 0 then cmpL p.path q.path else cmpI p.loc q.loc
theorem cmpI_zero {x y : Int} : cmpI x y = 0 ↔ x = y := by
  unfold cmpI
  constructor
  · intro h
    split at h
    · omega
    · split at h <;> omega
  · rintro rfl
    rw [if_neg (by omega), if_neg (by omega)]
theorem cmpI_neg (x y : Int) : cmpI x y = - cmpI y x := by
  unfold cmpI
  split
  · split
    · omega
    · rfl
  · split
    · rfl
    · rfl
theorem cmpI_cases (x y : Int) : (x < y ∧ cmpI x y = -1) ∨ (x = y ∧ cmpI x y = 0) ∨ (y < x ∧ cmpI x y = 1) := by
  unfold cmpI
  rcases Int.lt_trichotomy x y with h | h | h
  · exact Or.inl ⟨h, if_pos h⟩
  · exact Or.inr (Or.inl ⟨h, by rw [if_neg (by omega), if_neg (by omega)]⟩)
  · exact Or.inr (Or.inr ⟨h, by rw [if_neg (by omega), if_pos h]⟩)
theorem cmpL_zero : ∀ {a b : List Int}, cmpL a b = 0 ↔ a = b := by
  intro a
  induction a with
  | nil => intro b; cases b <;> simp [cmpL]
  | cons x a ih =>
    intro b
    cases b with
    | nil => simp [cmpL]
    | cons y b =>
      unfold cmpL
      by_cases h : cmpI x y = 0
      · rw [if_pos h, ih, cmpI_zero.1 h]; simp
      · rw [if_neg h]
        constructor
        · intro h2; exact absurd h2 h
        · intro h2; exact absurd (cmpI_zero.2 (List.cons.inj h2).1) h
theorem cmpL_neg : ∀ (a b : List Int), cmpL a b = - cmpL b a := by
  intro a
  induction a with
  | nil => intro b; cases b <;> simp [cmpL]
  | cons x a ih =>
    intro b
    cases b with
    | nil => simp [cmpL]
    | cons y b =>
      unfold cmpL
      have hn := cmpI_neg x y
      by_cases h : cmpI x y = 0
      · rw [if_pos h, if_pos (by omega), ih]
      · rw [if_neg h, if_neg (by omega)]; exact hn
theorem cmpL_range : ∀ (a b : List Int), cmpL a b = -1 ∨ cmpL a b = 0 ∨ cmpL a b = 1 := by
  intro a
  induction a with
  | nil => intro b; cases b <;> simp [cmpL]
  | cons x a ih =>
    intro b
    cases b with
    | nil => simp [cmpL]
    | cons y b =>
      unfold cmpL
      by_cases h : cmpI x y = 0
      · rw [if_pos h]; exact ih b
      · rw [if_neg h]; have := cmpI_cases x y; omega
theorem cmpL_trans : ∀ (a b c : List Int), cmpL a b ≤ 0 → cmpL b c ≤ 0 → cmpL a c ≤ 0 ∧ (cmpL a c = 0 → cmpL a b = 0 ∧ cmpL b c = 0) := by
  intro a
  induction a with
  | nil =>
    intro b c h1 h2
    cases c with
    | nil => cases b with
      | nil => simp [cmpL]
      | cons y b => simp [cmpL] at h2
    | cons z c => simp [cmpL]
  | cons x a ih =>
    intro b c h1 h2
    cases b with
    | nil => simp [cmpL] at h1
    | cons y b =>
      cases c with
      | nil => simp [cmpL] at h2
      | cons z c =>
        unfold cmpL at h1 h2 ⊢
        have c1 := cmpI_cases x y
        have c2 := cmpI_cases y z
        have c3 := cmpI_cases x z
        by_cases e1 : cmpI x y = 0
        · rw [if_pos e1] at h1 ⊢
          by_cases e2 : cmpI y z = 0
          · rw [if_pos e2] at h2 ⊢
            rw [if_pos (by omega)]
            exact ih b c h1 h2
          · rw [if_neg e2] at h2 ⊢
            rw [if_neg (by omega)]
            omega
        · rw [if_neg e1] at h1 ⊢
          by_cases e2 : cmpI y z = 0
          · rw [if_pos e2] at h2 ⊢
            rw [if_neg (by omega)]
            omega
          · rw [if_neg e2] at h2 ⊢
            rw [if_neg (by omega)]
            omega
theorem cmpL_take : ∀ (b : List Int) (n : Nat), cmpL (b.take n) b ≤ 0 := by
  intro b
  induction b with
  | nil => intro n; simp [cmpL]
  | cons y b ih =>
    intro n
    cases n with
    | zero => simp [cmpL]
    | succ n =>
      rw [List.take_succ_cons]
      unfold cmpL
      rw [if_pos (cmpI_zero.2 rfl)]
      exact ih n
theorem cmpL_step : ∀ (b : List Int) (n : Nat), n < b.length → cmpL (b.take n) (b.take (n + 1)) = -1 := by
  intro b
  induction b with
  | nil => intro n h; exact absurd h (Nat.not_lt_zero n)
  | cons y b ih =>
    intro n h
    cases n with
    | zero => simp [cmpL]
    | succ n =>
      rw [List.take_succ_cons, List.take_succ_cons]
      unfold cmpL
      rw [if_pos (cmpI_zero.2 rfl)]
      exact ih n (by simpa using h)
theorem preB_iff {p q : Pl} : preB p q = true ↔ p.loc = q.loc ∧ ∃ n, n ≤ q.path.length ∧ p.path = q.path.take n := by
  unfold preB
  simp only [Bool.and_eq_true, decide_eq_true_eq]
  constructor
  · rintro ⟨h1, h2, h3⟩
    exact ⟨h1, p.path.length, h2, h3.symm⟩
  · rintro ⟨h1, n, h2, h3⟩
    have : p.path.length = n := by rw [h3, List.length_take]; omega
    exact ⟨h1, by omega, by rw [this]; exact h3.symm⟩
theorem preB_refl (p : Pl) : preB p p = true := preB_iff.2 ⟨rfl, p.path.length, Nat.le_refl _, (List.take_length).symm⟩
theorem preB_trans {p q r : Pl} (h : preB p q = true) (k : preB q r = true) : preB p r = true := by
  obtain ⟨h1, n, h2, h3⟩ := preB_iff.1 h
  obtain ⟨k1, m, k2, k3⟩ := preB_iff.1 k
  have hm : q.path.length = m := by rw [k3, List.length_take]; omega
  exact preB_iff.2 ⟨h1.trans k1, n, by omega, by rw [h3, k3, List.take_take]; congr 1; omega⟩
theorem preB_both {p q r : Pl} (h : preB p r = true) (k : preB q r = true) : preB p q = true ∨ preB q p = true := by
  obtain ⟨h1, n, h2, h3⟩ := preB_iff.1 h
  obtain ⟨k1, m, k2, k3⟩ := preB_iff.1 k
  have hn : p.path.length = n := by rw [h3, List.length_take]; omega
  have hm : q.path.length = m := by rw [k3, List.length_take]; omega
  rcases Nat.le_total n m with e | e
  · exact Or.inl (preB_iff.2 ⟨h1.trans k1.symm, n, by omega, by rw [h3, k3, List.take_take]; congr 1; omega⟩)
  · exact Or.inr (preB_iff.2 ⟨k1.trans h1.symm, m, by omega, by rw [h3, k3, List.take_take]; congr 1; omega⟩)
theorem ordP_zero {p q : Pl} : ordP p q = 0 ↔ p.loc = q.loc ∧ p.path = q.path := by
  unfold ordP
  by_cases h : cmpI p.loc q.loc = 0
  · rw [if_pos h, cmpL_zero]
    exact ⟨fun e => ⟨cmpI_zero.1 h, e⟩, fun e => e.2⟩
  · rw [if_neg h]
    exact ⟨fun e => absurd e h, fun e => absurd (cmpI_zero.2 e.1) h⟩
theorem ordP_neg (p q : Pl) : ordP p q = - ordP q p := by
  unfold ordP
  have hn := cmpI_neg p.loc q.loc
  by_cases h : cmpI p.loc q.loc = 0
  · rw [if_pos h, if_pos (by omega)]; exact cmpL_neg _ _
  · rw [if_neg h, if_neg (by omega)]; exact hn
theorem ordP_range (p q : Pl) : ordP p q = -1 ∨ ordP p q = 0 ∨ ordP p q = 1 := by
  unfold ordP
  by_cases h : cmpI p.loc q.loc = 0
  · rw [if_pos h]; exact cmpL_range _ _
  · rw [if_neg h]; have := cmpI_cases p.loc q.loc; omega
theorem ordP_trans (p q r : Pl) (h1 : ordP p q ≤ 0) (h2 : ordP q r ≤ 0) : ordP p r ≤ 0 ∧ (ordP p r = 0 → ordP p q = 0 ∧ ordP q r = 0) := by
  unfold ordP at *
  have c1 := cmpI_cases p.loc q.loc
  have c2 := cmpI_cases q.loc r.loc
  have c3 := cmpI_cases p.loc r.loc
  by_cases e1 : cmpI p.loc q.loc = 0
  · rw [if_pos e1] at h1 ⊢
    by_cases e2 : cmpI q.loc r.loc = 0
    · rw [if_pos e2] at h2 ⊢
      rw [if_pos (by omega)]
      exact cmpL_trans _ _ _ h1 h2
    · rw [if_neg e2] at h2 ⊢
      rw [if_neg (by omega)]
      omega
  · rw [if_neg e1] at h1 ⊢
    by_cases e2 : cmpI q.loc r.loc = 0
    · rw [if_pos e2] at h2 ⊢
      rw [if_neg (by omega)]
      omega
    · rw [if_neg e2] at h2 ⊢
      rw [if_neg (by omega)]
      omega
theorem pre_ord {p q : Pl} (h : preB p q = true) : ordP p q ≤ 0 := by
  obtain ⟨h1, n, h2, h3⟩ := preB_iff.1 h
  unfold ordP
  rw [if_pos (cmpI_zero.2 h1), h3]
  exact cmpL_take _ _
theorem pre_same (p q : Pl) : (preB p q && preB q p) = decide (ordP p q = 0) := by
  rw [Bool.eq_iff_iff, Bool.and_eq_true, decide_eq_true_eq, ordP_zero]
  constructor
  · rintro ⟨h, k⟩
    obtain ⟨h1, n, h2, h3⟩ := preB_iff.1 h
    obtain ⟨k1, m, k2, k3⟩ := preB_iff.1 k
    refine ⟨h1, ?_⟩
    have hn : p.path.length = n := by rw [h3, List.length_take]; omega
    have hm : q.path.length = m := by rw [k3, List.length_take]; omega
    rw [h3, List.take_of_length_le (by omega)]
  · rintro ⟨h1, h2⟩
    exact ⟨preB_iff.2 ⟨h1, q.path.length, Nat.le_refl _, by rw [List.take_length]; exact h2⟩, preB_iff.2 ⟨h1.symm, p.path.length, Nat.le_refl _, by rw [List.take_length]; exact h2.symm⟩⟩
/-- A place's first steps. -/
def cutP (p : Pl) (n : Nat) : Pl := ⟨p.loc, p.path.take n⟩
theorem cut_pre (p : Pl) {n : Nat} (h : n ≤ p.path.length) : preB (cutP p n) p = true := preB_iff.2 ⟨rfl, n, h, rfl⟩
theorem cut_all (p : Pl) : ordP (cutP p p.path.length) p = 0 := ordP_zero.2 ⟨rfl, List.take_length⟩
theorem cut_next (p : Pl) {n : Nat} (h : n < p.path.length) : preB (cutP p n) (cutP p (n + 1)) = true ∧ ordP (cutP p n) (cutP p (n + 1)) = -1 := by
  refine ⟨preB_iff.2 ⟨rfl, n, ?_, ?_⟩, ?_⟩
  · show n ≤ (p.path.take (n + 1)).length
    rw [List.length_take]; omega
  · show p.path.take n = (p.path.take (n + 1)).take n
    rw [List.take_take]; congr 1; omega
  · show (if cmpI p.loc p.loc = 0 then cmpL (p.path.take n) (p.path.take (n + 1)) else cmpI p.loc p.loc) = -1
    rw [if_pos (cmpI_zero.2 rfl)]
    exact cmpL_step _ _ h
/-- Is a place among the first k prefixes of another one? -/
def foundB (p q : Pl) (k : Nat) : Bool := (List.range k).any fun n => decide (ordP (cutP p n) q = 0)
theorem found_succ (p q : Pl) (k : Nat) : foundB p q (k + 1) = (foundB p q k || decide (ordP (cutP p k) q = 0)) := by
  unfold foundB
  rw [List.range_succ, List.any_append]
  simp
theorem found_all (p q : Pl) : foundB p q (p.path.length + 1) = preB q p := by
  rw [Bool.eq_iff_iff, preB_iff]
  unfold foundB
  rw [List.any_eq_true]
  constructor
  · rintro ⟨n, hn, h⟩
    obtain ⟨h1, h2⟩ := ordP_zero.1 (of_decide_eq_true h)
    have := List.mem_range.1 hn
    exact ⟨h1.symm, n, by omega, h2.symm⟩
  · rintro ⟨h1, n, h2, h3⟩
    exact ⟨n, List.mem_range.2 (by omega), decide_eq_true (ordP_zero.2 ⟨h1.symm, h3.symm⟩)⟩
end Go.Proofs.YtpigppghcghpbaaGreatDoor

/- Small facts used by all walks of this seat: what a call leaves of the memory that was there; slices of integers as lists. Types, plain: which may be, as the program and as the document look at them. -/
import Derived.WalkKit
import Derived.WalkSpells
import Derived.WalkLawsBesides
import Derived.BigQuiet
import Derived.Deep.QuietTactic
import Derived.Deep.RegionHeld3
import Derived.Lib.Hide
namespace Go.Proofs.YtaeppaaolkcbbaaGreatDoor
open Go.RowKit

structure KB (S : Nat → Prop) (w w' : World) : Prop where
 os : w'.os = w.os
 tape : w'.tape = w.tape
 output : w'.output = w.output
 size : w.heap.size ≤ w'.heap.size
 block : ∀ k, k < w.heap.size → ¬ S k → w'.heap[k]? = w.heap[k]?

theorem KB.refl (S : Nat → Prop) (w : World) : KB S w w := ⟨rfl, rfl, rfl, Nat.le_refl _, fun _ _ _ => rfl⟩
theorem KB.trans {S : Nat → Prop} {a b c : World} (h : KB S a b) (k : KB S b c) : KB S a c :=
 ⟨k.os.trans h.os, k.tape.trans h.tape, k.output.trans h.output, Nat.le_trans h.size k.size, fun i hi hs => (k.block i (Nat.lt_of_lt_of_le hi h.size) hs).trans (h.block i hi hs)⟩
theorem KB.mono {S S' : Nat → Prop} {w w' : World} (h : KB S w w') (hs : ∀ k, k < w.heap.size → S k → S' k) : KB S' w w' :=
 ⟨h.os, h.tape, h.output, h.size, fun k hk hn => h.block k hk (fun x => hn (hs k hk x))⟩
theorem KB.drew {S : Nat → Prop} {a w : World} (h : KB S a w) : KB S a w.drew := ⟨h.os, h.tape, h.output, h.size, h.block⟩
theorem KB.drewN {S : Nat → Prop} {a w : World} (h : KB S a w) (n : Nat) : KB S a (w.drewN n) := ⟨h.os, h.tape, h.output, h.size, h.block⟩
theorem KB.alloc {S : Nat → Prop} {a w : World} (h : KB S a w) (o : Obj) : KB S a (w.alloc o) :=
 h.trans ⟨rfl, rfl, rfl, by simp, fun k hk _ => Below.heap_alloc _ _ _ hk⟩
theorem KB.setCell {S : Nat → Prop} {a w : World} (h : KB S a w) {p : Addr} (hp : p.block < a.heap.size → S p.block) (u : Value) : KB S a (w.setCell p u) :=
 ⟨h.os, h.tape, h.output, by have := h.size; simpa [World.setCell] using this, fun k hk hn => by
  rw [Below.heap_setCell _ _ _ _ (by intro e; subst e; exact hn (hp hk))]; exact h.block k hk hn⟩
theorem KB.cell {S : Nat → Prop} {w w' : World} (h : KB S w w') {p : Addr} (hp : ¬ S p.block) {v : Value} (hc : w.cell? p = some v) : w'.cell? p = some v := by
 rw [← hc]; exact World.cell?_of_block (w := w) (h.block p.block (World.block_lt_of_cell? w p hc) hp)
theorem KB.heap {S : Nat → Prop} {w w' : World} (h : KB S w w') {b : Nat} (hp : ¬ S b) {o : Obj} (hc : w.heap[b]? = some o) : w'.heap[b]? = some o := by
 rw [← hc]; exact h.block b (Array.getElem?_eq_some_iff.1 hc).1 hp
theorem KB.below {S : Nat → Prop} {w w' : World} (h : KB S w w') {B : Nat} (hB : B ≤ w.heap.size) (hs : ∀ k, k < B → ¬ S k) : Below B w w' :=
 ⟨h.os, h.tape, h.output, h.size, fun k hk => h.block k (Nat.lt_of_lt_of_le hk hB) (hs k hk)⟩
theorem KB.of_grown {S : Nat → Prop} {w w' : World} {row : Option Nat} (h : w.grownBy w' row) (hr : ∀ k, row = some k → k < w.heap.size → S k) : KB S w w' :=
 ⟨h.os, h.tape, h.output, h.size, fun k hk hn => h.block k hk (fun e => hn (hr k e.symm hk))⟩
theorem alloc_new (w : World) (o : Obj) : (w.alloc o).heap[w.heap.size]? = some o := by show (w.heap.push o)[w.heap.size]? = some o; simp
theorem heap_lt {w : World} {b : Nat} {o : Obj} (h : w.heap[b]? = some o) : b < w.heap.size := (Array.getElem?_eq_some_iff.1 h).1

def IntsAt (w : World) (a : Option Addr) (xs : List Int) : Prop :=
 ∀ k, k < xs.length → ∃ b off, a = some ⟨b, off, none⟩ ∧ w.cell? ⟨b, off + k, none⟩ = some (.int .i64 (xs.getD k 0))
theorem IntsAt.kb {S : Nat → Prop} {w w' : World} {a : Option Addr} {xs : List Int} (h : IntsAt w a xs) (hk : KB S w w') (hs : ∀ b off, a = some ⟨b, off, none⟩ → ¬ S b) : IntsAt w' a xs := by
 intro k hlt
 obtain ⟨b, off, ha, hc⟩ := h k hlt
 exact ⟨b, off, ha, hk.cell (hs b off ha) hc⟩

theorem ret_eq {a b : Value} (h : b = a) : Ending.returned a = .returned b := by rw [h]
theorem wrap_i64 (x : Int) : IntKind.i64.wrap x = if x % 18446744073709551616 < 9223372036854775808 then x % 18446744073709551616 else x % 18446744073709551616 - 18446744073709551616 := by
 simp [IntKind.wrap, IntKind.bits, IntKind.signed]; omega
theorem w64 {x : Int} (h1 : -9223372036854775808 ≤ x) (h2 : x < 9223372036854775808) : IntKind.i64.wrap x = x := by rw [wrap_i64]; omega
theorem ret_int {k : IntKind} {a b : Int} (h : a = b) : Ending.returned (.int k a) = .returned (.int k b) := by rw [h]

theorem pA {α : Type} (l : List α) (i : Nat) (x : α) : l.toArray.setIfInBounds i x = (l.set i x).toArray := List.setIfInBounds_toArray l i x
theorem pZ {α : Type} (a b : α) (l : List α) : (a :: l).set 0 b = b :: l := rfl
theorem pS {α : Type} (a b : α) (l : List α) (n : Nat) : (a :: l).set (n + 1) b = a :: l.set n b := rfl
theorem pT {α : Type} (a : α) (l : List α) (n : Nat) : (a :: l).take (n + 1) = a :: l.take n := rfl
theorem pU {α : Type} (l : List α) : l.take 0 = [] := rfl
theorem pV {α : Type} (a : α) (l : List α) (n : Nat) : (a :: l).drop (n + 1) = l.drop n := rfl
theorem pW {α : Type} (l : List α) : l.drop 0 = l := rfl
theorem kc {w w' : World} (h : KB (fun _ => False) w w') {p : Addr} {v : Value} (hc : w.cell? p = some v) : w'.cell? p = some v := KB.cell h (fun x => x) hc

inductive Ty where
 | mk (k : Int) (m : Bool) (r : Int) (s : Int) (of : List Ty)
namespace Ty
def k : Ty → Int | mk k _ _ _ _ => k
def m : Ty → Bool | mk _ m _ _ _ => m
def r : Ty → Int | mk _ _ r _ _ => r
def s : Ty → Int | mk _ _ _ s _ => s
def of : Ty → List Ty | mk _ _ _ _ l => l
end Ty
def ty0 : Ty := .mk 0 false 0 0 []
def in0 (t : Ty) : Ty := t.of.getD 0 ty0
def lookB (S : Nat) : Nat → Ty → Bool
 | 0, _ => false
 | n + 1, t =>
  let inn := decide (t.of.length = 1) && lookB S n (in0 t)
  let bare := !t.m && decide (t.r = 0)
  if t.k = 1 ∨ t.k = 2 then bare && (decide (t.s = 0) && decide (t.of.length = 0))
  else if t.k = 5 then bare && (decide (t.of.length = 0) && (decide (0 ≤ t.s) && decide (t.s < S)))
  else if t.k = 3 then bare && (decide (t.s = 0) && inn)
  else if t.k = 4 then decide (-1 ≤ t.r) && (decide (t.s = 0) && inn)
  else false
def lookV (S : Nat) (k : Int) (m : Bool) (r s : Int) (L : Nat) (q : Bool) : Bool :=
 if k = 1 ∨ k = 2 then (!m && decide (r = 0)) && (decide (s = 0) && decide (L = 0))
 else if k = 5 then (!m && decide (r = 0)) && (decide (L = 0) && (decide (0 ≤ s) && decide (s < (S : Int))))
 else if k = 3 then (!m && decide (r = 0)) && (decide (s = 0) && q)
 else if k = 4 then decide (-1 ≤ r) && (decide (s = 0) && q)
 else false
theorem lookB_succ (S n : Nat) (t : Ty) : lookB S (n + 1) t = lookV S t.k t.m t.r t.s t.of.length (decide (t.of.length = 1) && lookB S n (in0 t)) := rfl
def mayB (S : Nat) (refs : Bool) : Nat → Ty → Bool
 | 0, _ => false
 | n + 1, t =>
  if (t.k ≠ 4 ∧ (t.m = true ∨ t.r ≠ 0)) ∨ (t.k ≠ 5 ∧ t.s ≠ 0) then false
  else if t.k = 1 ∨ t.k = 2 then decide (t.of.length = 0)
  else if t.k = 5 then decide (t.of.length = 0) && (decide (0 ≤ t.s) && decide (t.s < S))
  else if t.k = 3 then decide (t.of.length = 1) && mayB S refs n (in0 t)
  else if t.k = 4 then refs && (decide (t.of.length = 1) && (decide (-1 ≤ t.r) && mayB S refs n (in0 t)))
  else false
def mayV (S : Nat) (refs : Bool) (k : Int) (m : Bool) (r s : Int) (L : Nat) (q : Bool) : Bool :=
 if (k ≠ 4 ∧ (m = true ∨ r ≠ 0)) ∨ (k ≠ 5 ∧ s ≠ 0) then false
 else if k = 1 ∨ k = 2 then decide (L = 0)
 else if k = 5 then decide (L = 0) && (decide (0 ≤ s) && decide (s < (S : Int)))
 else if k = 3 then decide (L = 1) && q
 else if k = 4 then refs && (decide (L = 1) && (decide (-1 ≤ r) && q))
 else false
theorem mayB_succ (S n : Nat) (refs : Bool) (t : Ty) : mayB S refs (n + 1) t = mayV S refs t.k t.m t.r t.s t.of.length (mayB S refs n (in0 t)) := rfl
def regsF : Nat → Ty → List Int
 | 0, _ => []
 | n + 1, t => (if t.k = 4 then [t.r] else []) ++ (if t.of.length = 0 then [] else regsF n (in0 t))
theorem mayB_bare (S : Nat) : ∀ n t, mayB S false n t = (lookB S n t && decide (regsF n t = [])) := by
 intro n
 induction n with
 | zero => intro t; rfl
 | succ n ih =>
  intro t
  obtain ⟨k, m, r, s, l⟩ := t
  unfold mayB lookB regsF
  simp only [Ty.k, Ty.m, Ty.r, Ty.s, Ty.of]
  rw [ih]
  by_cases h1 : k = 1 ∨ k = 2
  ·have h4 : k ≠ 4 := by omega
   have h5 : k ≠ 5 := by omega
   by_cases hl : l.length = 0
   ·cases m <;> by_cases hr : r = 0 <;> by_cases hs : s = 0 <;> simp [h1, h4, h5, hr, hs, hl]
   ·cases m <;> by_cases hr : r = 0 <;> by_cases hs : s = 0 <;> simp [h1, h4, h5, hr, hs, hl]
  ·by_cases h5 : k = 5
   ·subst h5
    by_cases hl : l.length = 0
    ·cases m <;> by_cases hr : r = 0 <;> simp [hr, hl]
    ·cases m <;> by_cases hr : r = 0 <;> simp [hr, hl]
   ·by_cases h3 : k = 3
    ·subst h3
     by_cases hl : l.length = 1
     ·cases m <;> by_cases hr : r = 0 <;> by_cases hs : s = 0 <;> simp [hr, hs, hl]
     ·cases m <;> by_cases hr : r = 0 <;> by_cases hs : s = 0 <;> simp [hr, hs, hl]
    ·by_cases h4 : k = 4
     ·subst h4
      by_cases hs : s = 0 <;> simp [hs]
     ·simp [h1, h5, h3, h4]
end Go.Proofs.YtaeppaaolkcbbaaGreatDoor

/- A tree that may be: the shapes of its nodes; how long its texts are. How long the texts of a tree are. -/
import Derived.Test.YtoophdcagpfmpaaGreatDoorMg12
import Derived.Lib.ItoaLen
namespace Go.Proofs.YtoophdcagpfmpaaGreatDoor
open Go.RowKit

structure TOk (ts : List Nd) : Prop where
  good : Good ts
  len : ts.length ≤ 16384
  asks : ∀ n, n < ts.length → asksN ts (ts.getD n nd0) = true
theorem tok_of {ts : List Nd} (h : mayN ts = true) : TOk ts :=
  have q := may_parts h
  ⟨q.1, q.2.1, fun _ hn => List.all_eq_true.1 q.2.2.1 _ (getD_memN hn)⟩
theorem ask_k {k : Nat} {n : Int} {s : ByteArray} {l : List Nat} (h : askB k n s l = true) : (askR k n s l).1 = true ∧ (askR k n s l).2.1 = true ∧ (askR k n s l).2.2.1 ≤ n ∧ n ≤ (askR k n s l).2.2.2 := by
  unfold askB at h
  simp only [Bool.and_eq_true, decide_eq_true_eq] at h
  exact ⟨h.1.1.1, h.1.1.2, h.1.2, h.2⟩
theorem just_parts {l : List Nat} {cs : List Cls} (h : justB l cs = true) : l.length = cs.length ∧ ∀ i, i < cs.length → (cs.getD i .ty).ok (l.getD i 0) = true := by
  unfold justB justF at h
  simp only [Bool.and_eq_true, decide_eq_true_eq, List.all_eq_true, List.mem_range] at h
  exact h
theorem getD_memK {l : List Nat} {k : Nat} (h : k < l.length) : l.getD k 0 ∈ l := by
  rw [List.getD_eq_getElem?_getD, List.getElem?_eq_getElem h]; exact List.getElem_mem h
theorem asked_parts {l : List Nat} {lo hi : Int} {c : Cls} (h : askedB l lo hi c = true) : lo ≤ (l.length : Int) ∧ (l.length : Int) ≤ hi ∧ ∀ i, i < l.length → c.ok (l.getD i 0) = true := by
  unfold askedB at h
  simp only [Bool.and_eq_true, decide_eq_true_eq, List.all_eq_true] at h
  exact ⟨h.1.1, h.1.2, fun i hi => h.2 _ (getD_memK hi)⟩
theorem kinds_get {ts : List Nd} {x : Nd} {i : Nat} (hi : i < x.l.length) : (x.l.map (kindOf ts)).getD i 0 = (ts.getD (kid x i) nd0).k := by
  have e : x.l.getD i 0 = x.l[i] := by rw [List.getD_eq_getElem?_getD, List.getElem?_eq_getElem hi]; rfl
  rw [List.getD_eq_getElem?_getD, List.getElem?_map, kid, e, List.getElem?_eq_getElem hi]
  rfl
theorem kd_two {a b j : Nat} (h : (Cls.kd [a, b]).ok j = true) : j = a ∨ j = b := by
  simp [Cls.ok] at h; omega
theorem kd_one {k j : Nat} (h : (Cls.kd [k]).ok j = true) : j = k := by
  simp [Cls.ok] at h; exact h.symm
section
variable {ts : List Nd} (h : TOk ts) {n : Nat} (hn : n < ts.length)
include h
theorem TOk.down : Down ts := good_down h.good
include hn
theorem TOk.ask : askB (ts.getD n nd0).k (ts.getD n nd0).n (ts.getD n nd0).s ((ts.getD n nd0).l.map (kindOf ts)) = true := by
  have := h.asks n hn
  unfold asksN at this
  simp only [Bool.and_eq_true] at this
  exact this.2
theorem TOk.kid {i : Nat} (hi : i < (ts.getD n nd0).l.length) : n < kid (ts.getD n nd0) i ∧ kid (ts.getD n nd0) i < ts.length ∧ (ts.getD n nd0).l.getD i 0 = ((kid (ts.getD n nd0) i : Nat) : Int) := by
  have h1 := down_kid h.down hn hi
  have h2 := h.down n hn _ (getD_memI hi)
  exact ⟨h1.1, h1.2, by unfold Go.Proofs.YtoophdcagpfmpaaGreatDoor.kid; omega⟩
theorem TOk.short : (ts.getD n nd0).l.length < ts.length := good_len h.good hn
theorem TOk.js {cs : List Cls} (hj : justB ((ts.getD n nd0).l.map (kindOf ts)) cs = true) : (ts.getD n nd0).l.length = cs.length ∧ ∀ i, i < cs.length → (cs.getD i .ty).ok (ts.getD (Go.Proofs.YtoophdcagpfmpaaGreatDoor.kid (ts.getD n nd0) i) nd0).k = true := by
  have _ := h; have _ := hn
  have h1 := just_parts hj
  rw [List.length_map] at h1
  exact ⟨h1.1, fun i hi => by rw [← kinds_get (by omega)]; exact h1.2 i hi⟩
theorem TOk.as {lo hi : Int} {c : Cls} (hj : askedB ((ts.getD n nd0).l.map (kindOf ts)) lo hi c = true) : lo ≤ ((ts.getD n nd0).l.length : Int) ∧ ((ts.getD n nd0).l.length : Int) ≤ hi ∧ ∀ i, i < (ts.getD n nd0).l.length → c.ok (ts.getD (Go.Proofs.YtoophdcagpfmpaaGreatDoor.kid (ts.getD n nd0) i) nd0).k = true := by
  have _ := h; have _ := hn
  have h1 := asked_parts hj
  rw [List.length_map] at h1
  exact ⟨h1.1, h1.2.1, fun i hi => by rw [← kinds_get hi]; exact h1.2.2 i hi⟩
theorem TOk.ex1 (hk : (ts.getD n nd0).k = 27 ∨ (ts.getD n nd0).k = 28 ∨ (ts.getD n nd0).k = 29 ∨ (ts.getD n nd0).k = 30 ∨ (ts.getD n nd0).k = 31 ∨ (ts.getD n nd0).k = 36 ∨ (ts.getD n nd0).k = 21 ∨ (ts.getD n nd0).k = 22 ∨ (ts.getD n nd0).k = 35) :
    (ts.getD n nd0).l.length = 1 ∧ isExprB (ts.getD (Go.Proofs.YtoophdcagpfmpaaGreatDoor.kid (ts.getD n nd0) 0) nd0).k = true := by
  have q := ask_k (h.ask hn)
  have hj : justB ((ts.getD n nd0).l.map (kindOf ts)) [.ex] = true := by
    rcases hk with e | e | e | e | e | e | e | e | e <;> (rw [e] at q; exact q.1)
  have := h.js hn hj
  exact ⟨this.1, this.2 0 (by decide)⟩
theorem TOk.ty1 (hk : (ts.getD n nd0).k = 10 ∨ (ts.getD n nd0).k = 11 ∨ (ts.getD n nd0).k = 3 ∨ (ts.getD n nd0).k = 7) :
    (ts.getD n nd0).l.length = 1 ∧ isTypeB (ts.getD (Go.Proofs.YtoophdcagpfmpaaGreatDoor.kid (ts.getD n nd0) 0) nd0).k = true := by
  have q := ask_k (h.ask hn)
  have hj : justB ((ts.getD n nd0).l.map (kindOf ts)) [.ty] = true := by
    rcases hk with e | e | e | e <;> (rw [e] at q; exact q.1)
  have := h.js hn hj
  exact ⟨this.1, this.2 0 (by decide)⟩
theorem TOk.ex2 (hk : (ts.getD n nd0).k = 32 ∨ (ts.getD n nd0).k = 15) :
    (ts.getD n nd0).l.length = 2 ∧ isExprB (ts.getD (Go.Proofs.YtoophdcagpfmpaaGreatDoor.kid (ts.getD n nd0) 0) nd0).k = true ∧ isExprB (ts.getD (Go.Proofs.YtoophdcagpfmpaaGreatDoor.kid (ts.getD n nd0) 1) nd0).k = true := by
  have q := ask_k (h.ask hn)
  have hj : justB ((ts.getD n nd0).l.map (kindOf ts)) [.ex, .ex] = true := by
    rcases hk with e | e <;> (rw [e] at q; exact q.1)
  have := h.js hn hj
  exact ⟨this.1, this.2 0 (by decide), this.2 1 (by decide)⟩
theorem TOk.call (hk : (ts.getD n nd0).k = 33) : (ts.getD n nd0).l.length ≤ 8 ∧ ∀ i, i < (ts.getD n nd0).l.length → isExprB (ts.getD (Go.Proofs.YtoophdcagpfmpaaGreatDoor.kid (ts.getD n nd0) i) nd0).k = true := by
  have q := ask_k (h.ask hn)
  rw [hk] at q
  have := h.as hn (lo := 0) (hi := 8) (c := .ex) q.1
  exact ⟨by omega, this.2.2⟩
theorem TOk.kd {lo hi : Int} {k : Nat} (hj : askedB ((ts.getD n nd0).l.map (kindOf ts)) lo hi (.kd [k]) = true) : lo ≤ ((ts.getD n nd0).l.length : Int) ∧ ((ts.getD n nd0).l.length : Int) ≤ hi ∧ ∀ i, i < (ts.getD n nd0).l.length → (ts.getD (Go.Proofs.YtoophdcagpfmpaaGreatDoor.kid (ts.getD n nd0) i) nd0).k = k := by
  have := h.as hn hj
  exact ⟨this.1, this.2.1, fun i hi => kd_one (this.2.2 i hi)⟩
theorem TOk.make (hk : (ts.getD n nd0).k = 34) : (ts.getD n nd0).l.length ≤ 8 ∧ ∀ i, i < (ts.getD n nd0).l.length → (ts.getD (Go.Proofs.YtoophdcagpfmpaaGreatDoor.kid (ts.getD n nd0) i) nd0).k = 35 := by
  have q := ask_k (h.ask hn)
  rw [hk] at q
  have := h.kd hn (lo := 1) (hi := 8) q.1
  exact ⟨by omega, this.2.2⟩
theorem TOk.struct (hk : (ts.getD n nd0).k = 2) : (ts.getD n nd0).l.length ≤ 8 ∧ ∀ i, i < (ts.getD n nd0).l.length → (ts.getD (Go.Proofs.YtoophdcagpfmpaaGreatDoor.kid (ts.getD n nd0) i) nd0).k = 3 := by
  have q := ask_k (h.ask hn)
  rw [hk] at q
  have := h.kd hn (lo := 1) (hi := 8) q.1
  exact ⟨by omega, this.2.2⟩
theorem TOk.life (hk : (ts.getD n nd0).k = 5) : (ts.getD n nd0).l.length ≤ 8 ∧ ∀ i, i < (ts.getD n nd0).l.length → (ts.getD (Go.Proofs.YtoophdcagpfmpaaGreatDoor.kid (ts.getD n nd0) i) nd0).k = 6 := by
  have q := ask_k (h.ask hn)
  rw [hk] at q
  have := h.kd hn (lo := 0) (hi := 8) q.1
  exact ⟨by omega, this.2.2⟩
theorem TOk.block (hk : (ts.getD n nd0).k = 13) : ∀ i, i < (ts.getD n nd0).l.length → isStmtB (ts.getD (Go.Proofs.YtoophdcagpfmpaaGreatDoor.kid (ts.getD n nd0) i) nd0).k = true := by
  have q := ask_k (h.ask hn)
  rw [hk] at q
  exact (h.as hn (lo := 0) (hi := 16384) (c := .st) q.1).2.2
theorem TOk.file (hk : (ts.getD n nd0).k = 1) : ∀ i, i < (ts.getD n nd0).l.length → (ts.getD (Go.Proofs.YtoophdcagpfmpaaGreatDoor.kid (ts.getD n nd0) i) nd0).k = 2 ∨ (ts.getD (Go.Proofs.YtoophdcagpfmpaaGreatDoor.kid (ts.getD n nd0) i) nd0).k = 4 := by
  have q := ask_k (h.ask hn)
  rw [hk] at q
  intro i hi
  exact kd_two ((h.as hn (lo := 0) (hi := 16384) (c := .kd [2, 4]) q.1).2.2 i hi)
theorem TOk.if_ (hk : (ts.getD n nd0).k = 16) : isExprB (ts.getD (Go.Proofs.YtoophdcagpfmpaaGreatDoor.kid (ts.getD n nd0) 0) nd0).k = true ∧ (ts.getD (Go.Proofs.YtoophdcagpfmpaaGreatDoor.kid (ts.getD n nd0) 1) nd0).k = 13 ∧
    ((ts.getD n nd0).n = 0 ∧ (ts.getD n nd0).l.length = 2 ∨ (ts.getD n nd0).n = 1 ∧ (ts.getD n nd0).l.length = 3 ∧ ((ts.getD (Go.Proofs.YtoophdcagpfmpaaGreatDoor.kid (ts.getD n nd0) 2) nd0).k = 13 ∨ (ts.getD (Go.Proofs.YtoophdcagpfmpaaGreatDoor.kid (ts.getD n nd0) 2) nd0).k = 16)) := by
  have q := ask_k (h.ask hn)
  rw [hk] at q
  have q1 : (decide ((ts.getD n nd0).n = 0) && justB ((ts.getD n nd0).l.map (kindOf ts)) [.ex, .kd [13]] || decide ((ts.getD n nd0).n = 1) && justB ((ts.getD n nd0).l.map (kindOf ts)) [.ex, .kd [13], .kd [13, 16]]) = true := q.1
  simp only [Bool.or_eq_true, Bool.and_eq_true, decide_eq_true_eq] at q1
  rcases q1 with ⟨a, b⟩ | ⟨a, b⟩
  · have := h.js hn b
    exact ⟨this.2 0 (by decide), kd_one (this.2 1 (by decide)), Or.inl ⟨a, this.1⟩⟩
  · have := h.js hn b
    refine ⟨this.2 0 (by decide), kd_one (this.2 1 (by decide)), Or.inr ⟨a, this.1, ?_⟩⟩
    exact kd_two (this.2 2 (by decide))
theorem TOk.while_ (hk : (ts.getD n nd0).k = 17) : (ts.getD n nd0).l.length = 2 ∧ isExprB (ts.getD (Go.Proofs.YtoophdcagpfmpaaGreatDoor.kid (ts.getD n nd0) 0) nd0).k = true ∧ (ts.getD (Go.Proofs.YtoophdcagpfmpaaGreatDoor.kid (ts.getD n nd0) 1) nd0).k = 13 := by
  have q := ask_k (h.ask hn)
  rw [hk] at q
  have := h.js hn (cs := [.ex, .kd [13]]) q.1
  exact ⟨this.1, this.2 0 (by decide), kd_one (this.2 1 (by decide))⟩
theorem TOk.loop (hk : (ts.getD n nd0).k = 18) : (ts.getD n nd0).l.length = 1 ∧ (ts.getD (Go.Proofs.YtoophdcagpfmpaaGreatDoor.kid (ts.getD n nd0) 0) nd0).k = 13 := by
  have q := ask_k (h.ask hn)
  rw [hk] at q
  have := h.js hn (cs := [.kd [13]]) q.1
  exact ⟨this.1, kd_one (this.2 0 (by decide))⟩
theorem TOk.expr (hk : (ts.getD n nd0).k = 23) : (ts.getD n nd0).l.length = 1 ∧ isExprB (ts.getD (Go.Proofs.YtoophdcagpfmpaaGreatDoor.kid (ts.getD n nd0) 0) nd0).k = true := by
  have q := ask_k (h.ask hn)
  rw [hk] at q
  have := h.js hn (cs := [.kd [33]]) q.1
  exact ⟨this.1, by rw [kd_one (this.2 0 (by decide))]; rfl⟩
theorem TOk.let_ (hk : (ts.getD n nd0).k = 14) :
    (ts.getD n nd0).n = 1 ∧ (ts.getD n nd0).l.length = 1 ∧ isTypeB (ts.getD (Go.Proofs.YtoophdcagpfmpaaGreatDoor.kid (ts.getD n nd0) 0) nd0).k = true ∨
    (ts.getD n nd0).n = 2 ∧ (ts.getD n nd0).l.length = 1 ∧ isExprB (ts.getD (Go.Proofs.YtoophdcagpfmpaaGreatDoor.kid (ts.getD n nd0) 0) nd0).k = true ∨
    (ts.getD n nd0).n = 3 ∧ (ts.getD n nd0).l.length = 2 ∧ isTypeB (ts.getD (Go.Proofs.YtoophdcagpfmpaaGreatDoor.kid (ts.getD n nd0) 0) nd0).k = true ∧ isExprB (ts.getD (Go.Proofs.YtoophdcagpfmpaaGreatDoor.kid (ts.getD n nd0) 1) nd0).k = true := by
  have q := ask_k (h.ask hn)
  rw [hk] at q
  have q1 : (if (ts.getD n nd0).n = 1 then justB ((ts.getD n nd0).l.map (kindOf ts)) [.ty] else if (ts.getD n nd0).n = 2 then justB ((ts.getD n nd0).l.map (kindOf ts)) [.ex] else justB ((ts.getD n nd0).l.map (kindOf ts)) [.ty, .ex]) = true := q.1
  have q2 : (1 : Int) ≤ (ts.getD n nd0).n := q.2.2.1
  have q3 : (ts.getD n nd0).n ≤ (3 : Int) := q.2.2.2
  split at q1
  · have := h.js hn q1
    exact Or.inl ⟨by assumption, this.1, this.2 0 (by decide)⟩
  · split at q1
    · have := h.js hn q1
      exact Or.inr (Or.inl ⟨by assumption, this.1, this.2 0 (by decide)⟩)
    · have := h.js hn q1
      exact Or.inr (Or.inr ⟨by omega, this.1, this.2 0 (by decide), this.2 1 (by decide)⟩)
theorem TOk.fn (hk : (ts.getD n nd0).k = 4) : ∃ k : Nat, (ts.getD n nd0).n = (k : Int) ∧ k ≤ 8 ∧ k + 2 ≤ (ts.getD n nd0).l.length ∧ (ts.getD n nd0).l.length ≤ 18 ∧
    (∀ i, i < k → (ts.getD (Go.Proofs.YtoophdcagpfmpaaGreatDoor.kid (ts.getD n nd0) i) nd0).k = 5) ∧ (∀ i, k ≤ i → i + 2 < (ts.getD n nd0).l.length → (ts.getD (Go.Proofs.YtoophdcagpfmpaaGreatDoor.kid (ts.getD n nd0) i) nd0).k = 7) ∧
    isTypeB (ts.getD (Go.Proofs.YtoophdcagpfmpaaGreatDoor.kid (ts.getD n nd0) ((ts.getD n nd0).l.length - 2)) nd0).k = true ∧ (ts.getD (Go.Proofs.YtoophdcagpfmpaaGreatDoor.kid (ts.getD n nd0) ((ts.getD n nd0).l.length - 1)) nd0).k = 13 := by
  have q := ask_k (h.ask hn)
  rw [hk] at q
  have q2 : (0 : Int) ≤ (ts.getD n nd0).n := q.2.2.1
  have q3 : (ts.getD n nd0).n ≤ (8 : Int) := q.2.2.2
  have q1 : fnB (ts.getD n nd0).n ((ts.getD n nd0).l.map (kindOf ts)) = true := q.1
  obtain ⟨k, e⟩ : ∃ k : Nat, (ts.getD n nd0).n = (k : Int) := ⟨(ts.getD n nd0).n.toNat, by omega⟩
  have hg : ∀ i, i < (ts.getD n nd0).l.length → ((ts.getD n nd0).l.map (kindOf ts)).getD i 0 = (ts.getD (Go.Proofs.YtoophdcagpfmpaaGreatDoor.kid (ts.getD n nd0) i) nd0).k := fun i hi => kinds_get hi
  have hL : ((ts.getD n nd0).l.map (kindOf ts)).length = (ts.getD n nd0).l.length := List.length_map _
  rw [e] at q1 q2 q3
  generalize (ts.getD n nd0).l.map (kindOf ts) = L at q1 hg hL
  unfold fnB at q1
  have e2 : (max 0 (min (k : Int) 8)).toNat = k := by omega
  simp only [e2] at q1
  split at q1
  · rename_i hle
    simp only [Bool.and_eq_true] at q1
    obtain ⟨a, b, c⟩ := q1
    have a1 := asked_parts a
    have b1 := asked_parts b
    have c1 := just_parts c
    simp only [List.length_take, List.length_drop] at a1 b1 c1
    refine ⟨k, e, by omega, by omega, by omega, ?_, ?_, ?_, ?_⟩
    · intro i hi
      have := kd_one (a1.2.2 i (by omega))
      rw [← hg i (by omega), ← this, List.getD_eq_getElem?_getD, List.getD_eq_getElem?_getD, List.getElem?_take_of_lt hi]
    · intro i hi h2
      have := kd_one (b1.2.2 (i - k) (by omega))
      rw [← hg i (by omega), ← this, List.getD_eq_getElem?_getD, List.getD_eq_getElem?_getD, List.getElem?_take_of_lt (by omega), List.getElem?_drop, show k + (i - k) = i by omega]
    · have : isTypeB ((L.drop (L.length - 2)).getD 0 0) = true := c1.2 0 (by decide)
      rw [← hg _ (by omega), ← hL]
      rw [List.getD_eq_getElem?_getD (l := L.drop _), List.getElem?_drop, Nat.add_zero, ← List.getD_eq_getElem?_getD] at this
      exact this
    · have := kd_one (c1.2 1 (by decide))
      rw [← hg _ (by omega), ← this, ← hL]
      rw [List.getD_eq_getElem?_getD (l := L.drop _), List.getElem?_drop, ← List.getD_eq_getElem?_getD, show L.length - 2 + 1 = L.length - 1 by omega]
  · cases q1
end
/-! Names. -/
theorem letters_size {first all : Nat → Bool} {s : ByteArray} (h : lettersB first all s = true) : 1 ≤ s.size ∧ s.size ≤ 32 := by
  unfold lettersB at h
  simp only [Bool.and_eq_true, decide_eq_true_eq] at h
  exact ⟨h.1.1.1, h.1.1.2⟩
theorem name_size {s : ByteArray} (h : nameB s = true) : 1 ≤ s.size ∧ s.size ≤ 32 := by
  unfold nameB at h
  rw [Bool.and_eq_true] at h
  exact letters_size h.1
theorem typeName_size {s : ByteArray} (h : typeNameB s = true) : 1 ≤ s.size ∧ s.size ≤ 32 := by
  unfold typeNameB at h
  rw [Bool.and_eq_true] at h
  exact letters_size h.1
theorem empty_size {s : ByteArray} (h : emptyB s = true) : s.size = 0 := by
  unfold emptyB at h
  rw [isEmpty_size, decide_eq_true_eq] at h
  exact h
theorem sign_size {s : ByteArray} (h : sgB s = true) : 1 ≤ s.size ∧ s.size ≤ 32 := by
  unfold sgB sgl at h
  simp only [List.any_cons, List.any_nil, Bool.or_false, Bool.or_eq_true, beq_iff_eq] at h
  rw [ByteArray.toList_eq] at h
  have e : s.size = s.data.toList.length := by simp
  rw [e]
  rcases h with h | h | h | h | h | h | h | h | h | h | h | h | h <;> (rw [h]; decide)
section
variable {ts : List Nd} (h : TOk ts) {n : Nat} (hn : n < ts.length)
include h hn
theorem TOk.txt : ((ts.getD n nd0).k = 2 ∨ (ts.getD n nd0).k = 3 ∨ (ts.getD n nd0).k = 4 ∨ (ts.getD n nd0).k = 5 ∨ (ts.getD n nd0).k = 6 ∨ (ts.getD n nd0).k = 7 ∨ (ts.getD n nd0).k = 12 ∨ (ts.getD n nd0).k = 14 ∨ (ts.getD n nd0).k = 26 ∨ (ts.getD n nd0).k = 27 ∨ (ts.getD n nd0).k = 33 ∨ (ts.getD n nd0).k = 34 ∨ (ts.getD n nd0).k = 35 → 1 ≤ (ts.getD n nd0).s.size) ∧ (ts.getD n nd0).s.size ≤ 32 ∧ ((ts.getD n nd0).k = 32 → sgB (ts.getD n nd0).s = true) := by
  have q := (ask_k (h.ask hn)).2.1
  have q0 := (ask_k (h.ask hn)).1
  generalize (ts.getD n nd0).k = k at q q0
  generalize (ts.getD n nd0).s = s at q q0
  by_cases h38 : 38 ≤ k
  · exfalso
    obtain ⟨j, rfl⟩ : ∃ j, k = j + 38 := ⟨k - 38, by omega⟩
    exact Bool.false_ne_true q0
  · have : k = 0 ∨ k = 1 ∨ k = 2 ∨ k = 3 ∨ k = 4 ∨ k = 5 ∨ k = 6 ∨ k = 7 ∨ k = 8 ∨ k = 9 ∨ k = 10 ∨ k = 11 ∨ k = 12 ∨ k = 13 ∨ k = 14 ∨ k = 15 ∨ k = 16 ∨ k = 17 ∨ k = 18 ∨ k = 19 ∨ k = 20 ∨ k = 21 ∨ k = 22 ∨ k = 23 ∨ k = 24 ∨ k = 25 ∨ k = 26 ∨ k = 27 ∨ k = 28 ∨ k = 29 ∨ k = 30 ∨ k = 31 ∨ k = 32 ∨ k = 33 ∨ k = 34 ∨ k = 35 ∨ k = 36 ∨ k = 37 := by omega
    have hNm : nameB s = true → 1 ≤ s.size ∧ s.size ≤ 32 := name_size
    have hTn : typeNameB s = true → 1 ≤ s.size ∧ s.size ≤ 32 := typeName_size
    have hEm : emptyB s = true → s.size = 0 := empty_size
    have hSg : sgB s = true → 1 ≤ s.size ∧ s.size ≤ 32 := sign_size
    have hor : (emptyB s || nameB s) = true → s.size ≤ 32 := fun e => by
      rw [Bool.or_eq_true] at e
      rcases e with e | e
      · have := hEm e; omega
      · exact (hNm e).2
    rcases this with rfl | rfl | rfl | rfl | rfl | rfl | rfl | rfl | rfl | rfl | rfl | rfl | rfl | rfl | rfl | rfl | rfl | rfl | rfl | rfl | rfl | rfl | rfl | rfl | rfl | rfl | rfl | rfl | rfl | rfl | rfl | rfl | rfl | rfl | rfl | rfl | rfl | rfl
    all_goals
      first
        | exact ⟨fun _ => (hNm q).1, (hNm q).2, fun e => by omega⟩
        | exact ⟨fun _ => (hTn q).1, (hTn q).2, fun e => by omega⟩
        | exact ⟨fun e => by omega, by have := hEm q; omega, fun e => by omega⟩
        | exact ⟨fun e => by omega, hor q, fun e => by omega⟩
        | exact ⟨fun e => by omega, (hSg q).2, fun _ => q⟩
end
end Go.Proofs.YtoophdcagpfmpaaGreatDoor

namespace Go.Proofs.YtoophdcagpfmpaaGreatDoor
open Go.RowKit

def sumK (g : Nat → Nat) : Nat → Nat
  | 0 => 0
  | k + 1 => sumK g k + g k
theorem sumK_mono (g : Nat → Nat) {j k : Nat} (h : j ≤ k) : sumK g j ≤ sumK g k := by
  induction k with
  | zero => have : j = 0 := by omega
            subst this; exact Nat.le_refl _
  | succ k ih =>
    rcases Nat.lt_or_eq_of_le h with h | rfl
    · have := ih (by omega)
      show sumK g j ≤ sumK g k + g k
      omega
    · exact Nat.le_refl _
theorem sumK_le {f g : Nat → Nat} {k : Nat} (h : ∀ i, i < k → f i ≤ g i) : sumK f k ≤ sumK g k := by
  induction k with
  | zero => exact Nat.le_refl _
  | succ k ih =>
    have := ih (fun i hi => h i (by omega))
    have := h k (by omega)
    unfold sumK; omega
theorem sumK_mul (c : Nat) (g : Nat → Nat) (k : Nat) : sumK (fun i => c * g i) k = c * sumK g k := by
  induction k with
  | zero => rfl
  | succ k ih => unfold sumK; rw [ih, Nat.mul_add]
theorem sumK_shift (g : Nat → Nat) (a k : Nat) : sumK g a + sumK (fun i => g (a + i)) k = sumK g (a + k) := by
  induction k with
  | zero => rfl
  | succ k ih =>
    have e : sumK (fun i => g (a + i)) (k + 1) = sumK (fun i => g (a + i)) k + g (a + k) := rfl
    have e2 : sumK g (a + (k + 1)) = sumK g (a + k) + g (a + k) := rfl
    omega
theorem sumK_list (f : Int → Nat) (l : List Int) (k : Nat) (hk : k ≤ l.length) : sumK (fun i => if i < l.length then f (l.getD i 0) else 0) k = ((l.take k).map f).sum := by
  induction k with
  | zero => rfl
  | succ k ih =>
    unfold sumK
    rw [ih (by omega), if_pos (by omega), List.take_succ_eq_append_getElem (by omega), List.map_append, List.sum_append, List.getD_eq_getElem?_getD, List.getElem?_eq_getElem (by omega)]
    simp
theorem sumK_full (f : Int → Nat) (l : List Int) (k : Nat) : sumK (fun i => if i < l.length then f (l.getD i 0) else 0) k ≤ (l.map f).sum := by
  have h1 : sumK (fun i => if i < l.length then f (l.getD i 0) else 0) l.length = (l.map f).sum := by rw [sumK_list f l _ (Nat.le_refl _), List.take_length]
  rw [← h1]
  by_cases hk : k ≤ l.length
  · exact sumK_mono _ hk
  · obtain ⟨d, rfl⟩ : ∃ d, k = l.length + d := ⟨k - l.length, by omega⟩
    rw [← sumK_shift]
    have : sumK (fun i => if l.length + i < l.length then f (l.getD (l.length + i) 0) else 0) d ≤ sumK (fun _ => 0) d := sumK_le (fun i _ => by rw [if_neg (by omega)]; exact Nat.le_refl _)
    have h0 : ∀ d, sumK (fun _ => 0) d = 0 := fun d => by
      induction d with
      | zero => rfl
      | succ d ih => unfold sumK; rw [ih]
    have := h0 d
    omega
theorem chain_sum {rec : Nat → Option Nat} {N : Nat} (hrec : ∀ m k, m < N → rec m = some k → m < k ∧ k ≤ N) (l : List Int) : ∀ m k, walkC rec N l m = some k → (l.map fun c => (rec c.toNat).getD 0 - c.toNat).sum + m = k := by
  induction l with
  | nil => intro m k h; simp only [walkC, Option.some.injEq] at h; simp [h]
  | cons c cs ih =>
    intro m k h
    unfold walkC at h
    split at h
    · rename_i hc
      obtain ⟨m', h1, h2⟩ := Option.bind_eq_some_iff.1 h
      have h3 := hrec m m' hc.2 h1
      have h4 := ih m' k h2
      have e : c.toNat = m := by omega
      rw [List.map_cons, List.sum_cons, e, h1]
      simp only [Option.getD_some]
      omega
    · cases h
section
variable (ts : List Nd)
/-- How many nodes there are from a node on. -/
def wt1 (n : Nat) : Nat := En ts n - n
def wK (x : Nd) (i : Nat) : Nat := if i < x.l.length then wt1 ts (kid x i) else 0
end
section
variable {ts : List Nd}
theorem wK_sum (hg : Good ts) {n : Nat} (hn : n < ts.length) (k : Nat) : sumK (wK ts (ts.getD n nd0)) k + 1 ≤ wt1 ts n := by
  have h1 := En_spec hg hn
  have h2 := chain_sum (wt_rec (ts := ts)) _ _ _ (wt_kids hn h1.1)
  have h3 := sumK_full (fun c => (Wt ts c.toNat).getD 0 - c.toNat) (kids ts n) k
  have h4 : sumK (wK ts (ts.getD n nd0)) k = sumK (fun i => if i < (kids ts n).length then (fun c : Int => (Wt ts c.toNat).getD 0 - c.toNat) ((kids ts n).getD i 0) else 0) k := rfl
  have h5 : sumK (wK ts (ts.getD n nd0)) k ≤ ((kids ts n).map fun c => (Wt ts c.toNat).getD 0 - c.toNat).sum := by rw [h4]; exact h3
  unfold wt1
  omega
theorem wt1_pos (hg : Good ts) {n : Nat} (hn : n < ts.length) : 1 ≤ wt1 ts n ∧ wt1 ts n + n ≤ ts.length := by
  have h1 := En_spec hg hn
  unfold wt1
  omega
theorem jnK_size {sep : ByteArray} {g : Nat → ByteArray} {C : Nat} {w : Nat → Nat} {k : Nat} (h : ∀ i, i < k → (g i).size + sep.size ≤ C * w i) : (jnK sep g k).size ≤ C * sumK w k := by
  induction k with
  | zero => exact Nat.zero_le _
  | succ k ih =>
    have h1 := ih (fun i hi => h i (by omega))
    have h2 := h k (by omega)
    unfold jnK sumK
    rw [Nat.mul_add]
    split
    · rename_i h0
      subst h0
      omega
    · rw [ByteArray.size_append, ByteArray.size_append]; omega
theorem ampB_size (life : ByteArray) (m : Bool) (s : ByteArray) : (ampB life m s).size ≤ s.size + life.size + 7 := by
  unfold ampB
  split
  · split
    · rw [ByteArray.size_append]; have : (⟨#[38, 109, 117, 116, 32]⟩ : ByteArray).size = 5 := rfl; omega
    · split
      · rw [ByteArray.size_append]; have : (⟨#[38, 32]⟩ : ByteArray).size = 2 := rfl; omega
      · rw [ByteArray.size_append]; have : (⟨#[38]⟩ : ByteArray).size = 1 := rfl; omega
  · split
    · rw [ByteArray.size_append, ByteArray.size_append, ByteArray.size_append]
      have h1 : (⟨#[38, 39]⟩ : ByteArray).size = 2 := rfl
      have h2 : (⟨#[32, 109, 117, 116, 32]⟩ : ByteArray).size = 5 := rfl
      omega
    · rw [ByteArray.size_append, ByteArray.size_append, ByteArray.size_append]
      have h1 : (⟨#[38, 39]⟩ : ByteArray).size = 2 := rfl
      have h2 : (⟨#[32]⟩ : ByteArray).size = 1 := rfl
      omega
theorem itoa_size {n : Int} (h1 : -9223372036854775808 ≤ n) (h2 : n ≤ 9223372036854775807) : (⟨(Lib.itoa n).toArray⟩ : ByteArray).size ≤ 21 := Lib.itoa_length_le n h1 h2

theorem wK_at {x : Nd} {i : Nat} (hi : i < x.l.length) : wK ts x i = wt1 ts (kid x i) := if_pos hi
theorem wK_two (x : Nd) : wK ts x 0 + wK ts x 1 = sumK (wK ts x) 2 := by simp [sumK]
theorem wK_three (x : Nd) : wK ts x 0 + wK ts x 1 + wK ts x 2 = sumK (wK ts x) 3 := by simp [sumK]

theorem ex_size (h : TOk ts) (hok : ∀ x ∈ ts, NdOk x) (d : Nat) : ∀ n least, n < ts.length → ts.length ≤ n + d → (Ex ts n least).size + 10 ≤ 200 * wt1 ts n := by
  induction d with
  | zero => intro n least h1 h2; omega
  | succ d ih =>
    intro n least hn h2
    have hs := (h.txt hn).2.1
    have hx := hok _ (getD_memN hn)
    have hch : ∀ i l, (chE (Ex ts) (ts.getD n nd0) i l).size + (if i < (ts.getD n nd0).l.length then 10 else 0) ≤ 200 * wK ts (ts.getD n nd0) i := by
      intro i l
      unfold chE wK
      by_cases hi : i < (ts.getD n nd0).l.length
      · have hk := h.kid hn hi
        rw [if_pos hi, if_pos hi, if_pos hi]
        exact ih _ l hk.2.1 (by omega)
      · rw [if_neg hi, if_neg hi, if_neg hi]; exact Nat.le_refl _
    have hini : ∀ i, i < (ts.getD n nd0).l.length → (iniE ts (Ex ts) (ts.getD n nd0) i).size + 10 ≤ 200 * wK ts (ts.getD n nd0) i := by
      intro i hi
      have hk := h.kid hn hi
      have hs2 := (h.txt hk.2.1).2.1
      have hw := wK_sum h.good hk.2.1 1
      unfold iniE
      rw [if_pos hi, wK_at hi, ByteArray.size_append, ByteArray.size_append]
      have h3 : (⟨#[58, 32]⟩ : ByteArray).size = 2 := rfl
      have h4 : (chE (Ex ts) (ts.getD (kid (ts.getD n nd0) i) nd0) 0 1).size ≤ 200 * wK ts (ts.getD (kid (ts.getD n nd0) i) nd0) 0 := by
        unfold chE wK
        by_cases hj : 0 < (ts.getD (kid (ts.getD n nd0) i) nd0).l.length
        · have hk2 := h.kid hk.2.1 hj
          rw [if_pos hj, if_pos hj]
          have := ih _ 1 hk2.2.1 (by omega)
          omega
        · rw [if_neg hj, if_neg hj]; exact Nat.le_refl _
      simp only [sumK] at hw
      omega
    have hb : (bareN (ts.getD n nd0) (chE (Ex ts) (ts.getD n nd0)) (iniE ts (Ex ts) (ts.getD n nd0))).size ≤ 200 * (wt1 ts n - 1) + 100 := by
      have w2 := wK_sum h.good hn 2
      have wl := wK_sum h.good hn (ts.getD n nd0).l.length
      simp only [sumK] at w2
      have j1 : (jnK ⟨#[44, 32]⟩ (fun i => chE (Ex ts) (ts.getD n nd0) i 1) (ts.getD n nd0).l.length).size ≤ 200 * sumK (wK ts (ts.getD n nd0)) (ts.getD n nd0).l.length := jnK_size (fun i hi => by
        have := hch i 1
        rw [if_pos hi] at this
        have : (⟨#[44, 32]⟩ : ByteArray).size = 2 := rfl
        omega)
      have j2 : (jnK ⟨#[44, 32]⟩ (iniE ts (Ex ts) (ts.getD n nd0)) (ts.getD n nd0).l.length).size ≤ 200 * sumK (wK ts (ts.getD n nd0)) (ts.getD n nd0).l.length := jnK_size (fun i hi => by
        have := hini i hi
        have : (⟨#[44, 32]⟩ : ByteArray).size = 2 := rfl
        omega)
      generalize sumK (wK ts (ts.getD n nd0)) (ts.getD n nd0).l.length = SL at j1 j2 wl
      have hi := itoa_size hx.n1 hx.n2
      have c0 := fun l => hch 0 l
      have c1 := fun l => hch 1 l
      generalize wK ts (ts.getD n nd0) 0 = k0 at c0 w2
      generalize wK ts (ts.getD n nd0) 1 = k1 at c1 w2
      unfold bareN
      split
      · omega
      · split
        · have : (⟨#[116, 114, 117, 101]⟩ : ByteArray).size = 4 := rfl
          omega
        · have : (⟨#[102, 97, 108, 115, 101]⟩ : ByteArray).size = 5 := rfl
          omega
      · omega
      · have := c0 7
        have : (⟨#[46]⟩ : ByteArray).size = 1 := rfl
        simp only [ByteArray.size_append]; omega
      · have := c0 6
        have : (⟨#[42]⟩ : ByteArray).size = 1 := rfl
        simp only [ByteArray.size_append]; omega
      · have := c0 6
        have := ampB_size ByteArray.empty ((ts.getD n nd0).n == 1) (chE (Ex ts) (ts.getD n nd0) 0 6)
        have : ByteArray.empty.size = 0 := rfl
        omega
      · have := c0 6
        have : (⟨#[45]⟩ : ByteArray).size = 1 := rfl
        simp only [ByteArray.size_append]; omega
      · have := c0 6
        have : (⟨#[33]⟩ : ByteArray).size = 1 := rfl
        simp only [ByteArray.size_append]; omega
      · have := c0 (if lvP 32 (ts.getD n nd0).s = 3 then 4 else lvP 32 (ts.getD n nd0).s)
        have := c1 (lvP 32 (ts.getD n nd0).s + 1)
        have : (⟨#[32]⟩ : ByteArray).size = 1 := rfl
        simp only [ByteArray.size_append]; omega
      · have : (⟨#[40]⟩ : ByteArray).size = 1 := rfl
        have : (⟨#[41]⟩ : ByteArray).size = 1 := rfl
        simp only [ByteArray.size_append]; omega
      · have : (⟨#[32, 123, 32]⟩ : ByteArray).size = 3 := rfl
        have : (⟨#[32, 125]⟩ : ByteArray).size = 2 := rfl
        simp only [ByteArray.size_append]; omega
      · have := c0 1
        have : (⟨#[98, 111, 120, 40]⟩ : ByteArray).size = 4 := rfl
        have : (⟨#[41]⟩ : ByteArray).size = 1 := rfl
        simp only [ByteArray.size_append]; omega
      · have : (⟨#[114, 101, 97, 100, 40, 41]⟩ : ByteArray).size = 6 := rfl
        omega
    have hp := wt1_pos h.good hn
    rw [Ex_eq h.down hn, wrapN]
    split
    · have : (⟨#[40]⟩ : ByteArray).size = 1 := rfl
      have : (⟨#[41]⟩ : ByteArray).size = 1 := rfl
      simp only [ByteArray.size_append]; omega
    · omega
theorem Ex_size (h : TOk ts) (hok : ∀ x ∈ ts, NdOk x) {n : Nat} (least : Nat) (hn : n < ts.length) : (Ex ts n least).size + 10 ≤ 200 * wt1 ts n := ex_size h hok ts.length n least hn (by omega)
theorem ty_size (h : TOk ts) (d : Nat) : ∀ n, n < ts.length → ts.length ≤ n + d → (Ty ts n).size + 10 ≤ 200 * wt1 ts n := by
  induction d with
  | zero => intro n h1 h2; omega
  | succ d ih =>
    intro n hn h2
    have hs := (h.txt hn).2.1
    have hch : (tyK ts (ts.getD n nd0) 0).size ≤ 200 * wK ts (ts.getD n nd0) 0 := by
      unfold tyK wK
      by_cases hi : 0 < (ts.getD n nd0).l.length
      · have hk := h.kid hn hi
        rw [if_pos hi, if_pos hi]
        have := ih _ hk.2.1 (by omega)
        omega
      · rw [if_neg hi, if_neg hi]; exact Nat.le_refl _
    have w2 := wK_sum h.good hn 1
    simp only [sumK] at w2
    rw [Ty_eq h.down hn]
    unfold tyN
    split
    · have : (⟨#[105, 54, 52]⟩ : ByteArray).size = 3 := rfl
      omega
    · have : (⟨#[98, 111, 111, 108]⟩ : ByteArray).size = 4 := rfl
      omega
    · have : (⟨#[66, 111, 120, 60]⟩ : ByteArray).size = 4 := rfl
      have : (⟨#[62]⟩ : ByteArray).size = 1 := rfl
      simp only [ByteArray.size_append]; omega
    · have := ampB_size (ts.getD n nd0).s ((ts.getD n nd0).n == 1) (tyK ts (ts.getD n nd0) 0)
      omega
    · omega
theorem Ty_size (h : TOk ts) {n : Nat} (hn : n < ts.length) : (Ty ts n).size + 10 ≤ 200 * wt1 ts n := ty_size h ts.length n hn (by omega)
end
end Go.Proofs.YtoophdcagpfmpaaGreatDoor

/- A tree that may be: the shapes of its nodes; how long its texts are. -/
import Derived.Test.YtoophdcagpfmpaaGreatDoorPrA
namespace Go.Proofs.YtoophdcagpfmpaaGreatDoor
open Go.RowKit

structure TOk (ts : List Nd) : Prop where
  good : Good ts
  len : ts.length ≤ 16384
  asks : ∀ n, n < ts.length → asksN ts (ts.getD n nd0) = true
theorem tok_of {ts : List Nd} (h : mayN ts = true) : TOk ts :=
  have q := may_parts h
  ⟨q.1, q.2.1, fun _ hn => List.all_eq_true.1 q.2.2.1 _ (getD_memN hn)⟩
theorem ask_k {k : Nat} {n : Int} {s : ByteArray} {l : List Nat} (h : askB k n s l = true) : (askR k n s l).1 = true ∧ (askR k n s l).2.1 = true ∧ (askR k n s l).2.2.1 ≤ n ∧ n ≤ (askR k n s l).2.2.2 := by
  unfold askB at h
  simp only [Bool.and_eq_true, decide_eq_true_eq] at h
  exact ⟨h.1.1.1, h.1.1.2, h.1.2, h.2⟩
theorem just_parts {l : List Nat} {cs : List Cls} (h : justB l cs = true) : l.length = cs.length ∧ ∀ i, i < cs.length → (cs.getD i .ty).ok (l.getD i 0) = true := by
  unfold justB justF at h
  simp only [Bool.and_eq_true, decide_eq_true_eq, List.all_eq_true, List.mem_range] at h
  exact h
theorem getD_memK {l : List Nat} {k : Nat} (h : k < l.length) : l.getD k 0 ∈ l := by
  rw [List.getD_eq_getElem?_getD, List.getElem?_eq_getElem h]; exact List.getElem_mem h
theorem asked_parts {l : List Nat} {lo hi : Int} {c : Cls} (h : askedB l lo hi c = true) : lo ≤ (l.length : Int) ∧ (l.length : Int) ≤ hi ∧ ∀ i, i < l.length → c.ok (l.getD i 0) = true := by
  unfold askedB at h
  simp only [Bool.and_eq_true, decide_eq_true_eq, List.all_eq_true] at h
  exact ⟨h.1.1, h.1.2, fun i hi => h.2 _ (getD_memK hi)⟩
theorem kinds_get {ts : List Nd} {x : Nd} {i : Nat} (hi : i < x.l.length) : (x.l.map (kindOf ts)).getD i 0 = (ts.getD (kid x i) nd0).k := by
  have e : x.l.getD i 0 = x.l[i] := by rw [List.getD_eq_getElem?_getD, List.getElem?_eq_getElem hi]; rfl
  rw [List.getD_eq_getElem?_getD, List.getElem?_map, kid, e, List.getElem?_eq_getElem hi]
  rfl
theorem kd_two {a b j : Nat} (h : (Cls.kd [a, b]).ok j = true) : j = a ∨ j = b := by
  simp [Cls.ok] at h; omega
theorem kd_one {k j : Nat} (h : (Cls.kd [k]).ok j = true) : j = k := by
  simp [Cls.ok] at h; exact h.symm
section
variable {ts : List Nd} (h : TOk ts) {n : Nat} (hn : n < ts.length)
include h
theorem TOk.down : Down ts := good_down h.good
include hn
theorem TOk.ask : askB (ts.getD n nd0).k (ts.getD n nd0).n (ts.getD n nd0).s ((ts.getD n nd0).l.map (kindOf ts)) = true := by
  have := h.asks n hn
  unfold asksN at this
  simp only [Bool.and_eq_true] at this
  exact this.2
theorem TOk.kid {i : Nat} (hi : i < (ts.getD n nd0).l.length) : n < kid (ts.getD n nd0) i ∧ kid (ts.getD n nd0) i < ts.length ∧ (ts.getD n nd0).l.getD i 0 = ((kid (ts.getD n nd0) i : Nat) : Int) := by
  have h1 := down_kid h.down hn hi
  have h2 := h.down n hn _ (getD_memI hi)
  exact ⟨h1.1, h1.2, by unfold Go.Proofs.YtoophdcagpfmpaaGreatDoor.kid; omega⟩
theorem TOk.short : (ts.getD n nd0).l.length < ts.length := good_len h.good hn
theorem TOk.js {cs : List Cls} (hj : justB ((ts.getD n nd0).l.map (kindOf ts)) cs = true) : (ts.getD n nd0).l.length = cs.length ∧ ∀ i, i < cs.length → (cs.getD i .ty).ok (ts.getD (Go.Proofs.YtoophdcagpfmpaaGreatDoor.kid (ts.getD n nd0) i) nd0).k = true := by
  have _ := h; have _ := hn
  have h1 := just_parts hj
  rw [List.length_map] at h1
  exact ⟨h1.1, fun i hi => by rw [← kinds_get (by omega)]; exact h1.2 i hi⟩
theorem TOk.as {lo hi : Int} {c : Cls} (hj : askedB ((ts.getD n nd0).l.map (kindOf ts)) lo hi c = true) : lo ≤ ((ts.getD n nd0).l.length : Int) ∧ ((ts.getD n nd0).l.length : Int) ≤ hi ∧ ∀ i, i < (ts.getD n nd0).l.length → c.ok (ts.getD (Go.Proofs.YtoophdcagpfmpaaGreatDoor.kid (ts.getD n nd0) i) nd0).k = true := by
  have _ := h; have _ := hn
  have h1 := asked_parts hj
  rw [List.length_map] at h1
  exact ⟨h1.1, h1.2.1, fun i hi => by rw [← kinds_get hi]; exact h1.2.2 i hi⟩
theorem TOk.ex1 (hk : (ts.getD n nd0).k = 27 ∨ (ts.getD n nd0).k = 28 ∨ (ts.getD n nd0).k = 29 ∨ (ts.getD n nd0).k = 30 ∨ (ts.getD n nd0).k = 31 ∨ (ts.getD n nd0).k = 36 ∨ (ts.getD n nd0).k = 21 ∨ (ts.getD n nd0).k = 22 ∨ (ts.getD n nd0).k = 35) :
    (ts.getD n nd0).l.length = 1 ∧ isExprB (ts.getD (Go.Proofs.YtoophdcagpfmpaaGreatDoor.kid (ts.getD n nd0) 0) nd0).k = true := by
  have q := ask_k (h.ask hn)
  have hj : justB ((ts.getD n nd0).l.map (kindOf ts)) [.ex] = true := by
    rcases hk with e | e | e | e | e | e | e | e | e <;> (rw [e] at q; exact q.1)
  have := h.js hn hj
  exact ⟨this.1, this.2 0 (by decide)⟩
theorem TOk.ty1 (hk : (ts.getD n nd0).k = 10 ∨ (ts.getD n nd0).k = 11 ∨ (ts.getD n nd0).k = 3 ∨ (ts.getD n nd0).k = 7) :
    (ts.getD n nd0).l.length = 1 ∧ isTypeB (ts.getD (Go.Proofs.YtoophdcagpfmpaaGreatDoor.kid (ts.getD n nd0) 0) nd0).k = true := by
  have q := ask_k (h.ask hn)
  have hj : justB ((ts.getD n nd0).l.map (kindOf ts)) [.ty] = true := by
    rcases hk with e | e | e | e <;> (rw [e] at q; exact q.1)
  have := h.js hn hj
  exact ⟨this.1, this.2 0 (by decide)⟩
theorem TOk.ex2 (hk : (ts.getD n nd0).k = 32 ∨ (ts.getD n nd0).k = 15) :
    (ts.getD n nd0).l.length = 2 ∧ isExprB (ts.getD (Go.Proofs.YtoophdcagpfmpaaGreatDoor.kid (ts.getD n nd0) 0) nd0).k = true ∧ isExprB (ts.getD (Go.Proofs.YtoophdcagpfmpaaGreatDoor.kid (ts.getD n nd0) 1) nd0).k = true := by
  have q := ask_k (h.ask hn)
  have hj : justB ((ts.getD n nd0).l.map (kindOf ts)) [.ex, .ex] = true := by
    rcases hk with e | e <;> (rw [e] at q; exact q.1)
  have := h.js hn hj
  exact ⟨this.1, this.2 0 (by decide), this.2 1 (by decide)⟩
theorem TOk.call (hk : (ts.getD n nd0).k = 33) : (ts.getD n nd0).l.length ≤ 8 ∧ ∀ i, i < (ts.getD n nd0).l.length → isExprB (ts.getD (Go.Proofs.YtoophdcagpfmpaaGreatDoor.kid (ts.getD n nd0) i) nd0).k = true := by
  have q := ask_k (h.ask hn)
  rw [hk] at q
  have := h.as hn (lo := 0) (hi := 8) (c := .ex) q.1
  exact ⟨by omega, this.2.2⟩
theorem TOk.kd {lo hi : Int} {k : Nat} (hj : askedB ((ts.getD n nd0).l.map (kindOf ts)) lo hi (.kd [k]) = true) : lo ≤ ((ts.getD n nd0).l.length : Int) ∧ ((ts.getD n nd0).l.length : Int) ≤ hi ∧ ∀ i, i < (ts.getD n nd0).l.length → (ts.getD (Go.Proofs.YtoophdcagpfmpaaGreatDoor.kid (ts.getD n nd0) i) nd0).k = k := by
  have := h.as hn hj
  exact ⟨this.1, this.2.1, fun i hi => kd_one (this.2.2 i hi)⟩
theorem TOk.make (hk : (ts.getD n nd0).k = 34) : (ts.getD n nd0).l.length ≤ 8 ∧ ∀ i, i < (ts.getD n nd0).l.length → (ts.getD (Go.Proofs.YtoophdcagpfmpaaGreatDoor.kid (ts.getD n nd0) i) nd0).k = 35 := by
  have q := ask_k (h.ask hn)
  rw [hk] at q
  have := h.kd hn (lo := 1) (hi := 8) q.1
  exact ⟨by omega, this.2.2⟩
theorem TOk.struct (hk : (ts.getD n nd0).k = 2) : (ts.getD n nd0).l.length ≤ 8 ∧ ∀ i, i < (ts.getD n nd0).l.length → (ts.getD (Go.Proofs.YtoophdcagpfmpaaGreatDoor.kid (ts.getD n nd0) i) nd0).k = 3 := by
  have q := ask_k (h.ask hn)
  rw [hk] at q
  have := h.kd hn (lo := 1) (hi := 8) q.1
  exact ⟨by omega, this.2.2⟩
theorem TOk.life (hk : (ts.getD n nd0).k = 5) : (ts.getD n nd0).l.length ≤ 8 ∧ ∀ i, i < (ts.getD n nd0).l.length → (ts.getD (Go.Proofs.YtoophdcagpfmpaaGreatDoor.kid (ts.getD n nd0) i) nd0).k = 6 := by
  have q := ask_k (h.ask hn)
  rw [hk] at q
  have := h.kd hn (lo := 0) (hi := 8) q.1
  exact ⟨by omega, this.2.2⟩
theorem TOk.block (hk : (ts.getD n nd0).k = 13) : ∀ i, i < (ts.getD n nd0).l.length → isStmtB (ts.getD (Go.Proofs.YtoophdcagpfmpaaGreatDoor.kid (ts.getD n nd0) i) nd0).k = true := by
  have q := ask_k (h.ask hn)
  rw [hk] at q
  exact (h.as hn (lo := 0) (hi := 16384) (c := .st) q.1).2.2
theorem TOk.file (hk : (ts.getD n nd0).k = 1) : ∀ i, i < (ts.getD n nd0).l.length → (ts.getD (Go.Proofs.YtoophdcagpfmpaaGreatDoor.kid (ts.getD n nd0) i) nd0).k = 2 ∨ (ts.getD (Go.Proofs.YtoophdcagpfmpaaGreatDoor.kid (ts.getD n nd0) i) nd0).k = 4 := by
  have q := ask_k (h.ask hn)
  rw [hk] at q
  intro i hi
  exact kd_two ((h.as hn (lo := 0) (hi := 16384) (c := .kd [2, 4]) q.1).2.2 i hi)
theorem TOk.if_ (hk : (ts.getD n nd0).k = 16) : isExprB (ts.getD (Go.Proofs.YtoophdcagpfmpaaGreatDoor.kid (ts.getD n nd0) 0) nd0).k = true ∧ (ts.getD (Go.Proofs.YtoophdcagpfmpaaGreatDoor.kid (ts.getD n nd0) 1) nd0).k = 13 ∧
    ((ts.getD n nd0).n = 0 ∧ (ts.getD n nd0).l.length = 2 ∨ (ts.getD n nd0).n = 1 ∧ (ts.getD n nd0).l.length = 3 ∧ ((ts.getD (Go.Proofs.YtoophdcagpfmpaaGreatDoor.kid (ts.getD n nd0) 2) nd0).k = 13 ∨ (ts.getD (Go.Proofs.YtoophdcagpfmpaaGreatDoor.kid (ts.getD n nd0) 2) nd0).k = 16)) := by
  have q := ask_k (h.ask hn)
  rw [hk] at q
  have q1 : (decide ((ts.getD n nd0).n = 0) && justB ((ts.getD n nd0).l.map (kindOf ts)) [.ex, .kd [13]] || decide ((ts.getD n nd0).n = 1) && justB ((ts.getD n nd0).l.map (kindOf ts)) [.ex, .kd [13], .kd [13, 16]]) = true := q.1
  simp only [Bool.or_eq_true, Bool.and_eq_true, decide_eq_true_eq] at q1
  rcases q1 with ⟨a, b⟩ | ⟨a, b⟩
  · have := h.js hn b
    exact ⟨this.2 0 (by decide), kd_one (this.2 1 (by decide)), Or.inl ⟨a, this.1⟩⟩
  · have := h.js hn b
    refine ⟨this.2 0 (by decide), kd_one (this.2 1 (by decide)), Or.inr ⟨a, this.1, ?_⟩⟩
    exact kd_two (this.2 2 (by decide))
theorem TOk.while_ (hk : (ts.getD n nd0).k = 17) : (ts.getD n nd0).l.length = 2 ∧ isExprB (ts.getD (Go.Proofs.YtoophdcagpfmpaaGreatDoor.kid (ts.getD n nd0) 0) nd0).k = true ∧ (ts.getD (Go.Proofs.YtoophdcagpfmpaaGreatDoor.kid (ts.getD n nd0) 1) nd0).k = 13 := by
  have q := ask_k (h.ask hn)
  rw [hk] at q
  have := h.js hn (cs := [.ex, .kd [13]]) q.1
  exact ⟨this.1, this.2 0 (by decide), kd_one (this.2 1 (by decide))⟩
theorem TOk.loop (hk : (ts.getD n nd0).k = 18) : (ts.getD n nd0).l.length = 1 ∧ (ts.getD (Go.Proofs.YtoophdcagpfmpaaGreatDoor.kid (ts.getD n nd0) 0) nd0).k = 13 := by
  have q := ask_k (h.ask hn)
  rw [hk] at q
  have := h.js hn (cs := [.kd [13]]) q.1
  exact ⟨this.1, kd_one (this.2 0 (by decide))⟩
theorem TOk.expr (hk : (ts.getD n nd0).k = 23) : (ts.getD n nd0).l.length = 1 ∧ isExprB (ts.getD (Go.Proofs.YtoophdcagpfmpaaGreatDoor.kid (ts.getD n nd0) 0) nd0).k = true := by
  have q := ask_k (h.ask hn)
  rw [hk] at q
  have := h.js hn (cs := [.kd [33]]) q.1
  exact ⟨this.1, by rw [kd_one (this.2 0 (by decide))]; rfl⟩
theorem TOk.let_ (hk : (ts.getD n nd0).k = 14) :
    (ts.getD n nd0).n = 1 ∧ (ts.getD n nd0).l.length = 1 ∧ isTypeB (ts.getD (Go.Proofs.YtoophdcagpfmpaaGreatDoor.kid (ts.getD n nd0) 0) nd0).k = true ∨
    (ts.getD n nd0).n = 2 ∧ (ts.getD n nd0).l.length = 1 ∧ isExprB (ts.getD (Go.Proofs.YtoophdcagpfmpaaGreatDoor.kid (ts.getD n nd0) 0) nd0).k = true ∨
    (ts.getD n nd0).n = 3 ∧ (ts.getD n nd0).l.length = 2 ∧ isTypeB (ts.getD (Go.Proofs.YtoophdcagpfmpaaGreatDoor.kid (ts.getD n nd0) 0) nd0).k = true ∧ isExprB (ts.getD (Go.Proofs.YtoophdcagpfmpaaGreatDoor.kid (ts.getD n nd0) 1) nd0).k = true := by
  have q := ask_k (h.ask hn)
  rw [hk] at q
  have q1 : (if (ts.getD n nd0).n = 1 then justB ((ts.getD n nd0).l.map (kindOf ts)) [.ty] else if (ts.getD n nd0).n = 2 then justB ((ts.getD n nd0).l.map (kindOf ts)) [.ex] else justB ((ts.getD n nd0).l.map (kindOf ts)) [.ty, .ex]) = true := q.1
  have q2 : (1 : Int) ≤ (ts.getD n nd0).n := q.2.2.1
  have q3 : (ts.getD n nd0).n ≤ (3 : Int) := q.2.2.2
  split at q1
  · have := h.js hn q1
    exact Or.inl ⟨by assumption, this.1, this.2 0 (by decide)⟩
  · split at q1
    · have := h.js hn q1
      exact Or.inr (Or.inl ⟨by assumption, this.1, this.2 0 (by decide)⟩)
    · have := h.js hn q1
      exact Or.inr (Or.inr ⟨by omega, this.1, this.2 0 (by decide), this.2 1 (by decide)⟩)
theorem TOk.fn (hk : (ts.getD n nd0).k = 4) : ∃ k : Nat, (ts.getD n nd0).n = (k : Int) ∧ k ≤ 8 ∧ k + 2 ≤ (ts.getD n nd0).l.length ∧ (ts.getD n nd0).l.length ≤ 18 ∧
    (∀ i, i < k → (ts.getD (Go.Proofs.YtoophdcagpfmpaaGreatDoor.kid (ts.getD n nd0) i) nd0).k = 5) ∧ (∀ i, k ≤ i → i + 2 < (ts.getD n nd0).l.length → (ts.getD (Go.Proofs.YtoophdcagpfmpaaGreatDoor.kid (ts.getD n nd0) i) nd0).k = 7) ∧
    isTypeB (ts.getD (Go.Proofs.YtoophdcagpfmpaaGreatDoor.kid (ts.getD n nd0) ((ts.getD n nd0).l.length - 2)) nd0).k = true ∧ (ts.getD (Go.Proofs.YtoophdcagpfmpaaGreatDoor.kid (ts.getD n nd0) ((ts.getD n nd0).l.length - 1)) nd0).k = 13 := by
  have q := ask_k (h.ask hn)
  rw [hk] at q
  have q2 : (0 : Int) ≤ (ts.getD n nd0).n := q.2.2.1
  have q3 : (ts.getD n nd0).n ≤ (8 : Int) := q.2.2.2
  have q1 : fnB (ts.getD n nd0).n ((ts.getD n nd0).l.map (kindOf ts)) = true := q.1
  obtain ⟨k, e⟩ : ∃ k : Nat, (ts.getD n nd0).n = (k : Int) := ⟨(ts.getD n nd0).n.toNat, by omega⟩
  have hg : ∀ i, i < (ts.getD n nd0).l.length → ((ts.getD n nd0).l.map (kindOf ts)).getD i 0 = (ts.getD (Go.Proofs.YtoophdcagpfmpaaGreatDoor.kid (ts.getD n nd0) i) nd0).k := fun i hi => kinds_get hi
  have hL : ((ts.getD n nd0).l.map (kindOf ts)).length = (ts.getD n nd0).l.length := List.length_map _
  rw [e] at q1 q2 q3
  generalize (ts.getD n nd0).l.map (kindOf ts) = L at q1 hg hL
  unfold fnB at q1
  have e2 : (max 0 (min (k : Int) 8)).toNat = k := by omega
  simp only [e2] at q1
  split at q1
  · rename_i hle
    simp only [Bool.and_eq_true] at q1
    obtain ⟨a, b, c⟩ := q1
    have a1 := asked_parts a
    have b1 := asked_parts b
    have c1 := just_parts c
    simp only [List.length_take, List.length_drop] at a1 b1 c1
    refine ⟨k, e, by omega, by omega, by omega, ?_, ?_, ?_, ?_⟩
    · intro i hi
      have := kd_one (a1.2.2 i (by omega))
      rw [← hg i (by omega), ← this, List.getD_eq_getElem?_getD, List.getD_eq_getElem?_getD, List.getElem?_take_of_lt hi]
    · intro i hi h2
      have := kd_one (b1.2.2 (i - k) (by omega))
      rw [← hg i (by omega), ← this, List.getD_eq_getElem?_getD, List.getD_eq_getElem?_getD, List.getElem?_take_of_lt (by omega), List.getElem?_drop, show k + (i - k) = i by omega]
    · have : isTypeB ((L.drop (L.length - 2)).getD 0 0) = true := c1.2 0 (by decide)
      rw [← hg _ (by omega), ← hL]
      rw [List.getD_eq_getElem?_getD (l := L.drop _), List.getElem?_drop, Nat.add_zero, ← List.getD_eq_getElem?_getD] at this
      exact this
    · have := kd_one (c1.2 1 (by decide))
      rw [← hg _ (by omega), ← this, ← hL]
      rw [List.getD_eq_getElem?_getD (l := L.drop _), List.getElem?_drop, ← List.getD_eq_getElem?_getD, show L.length - 2 + 1 = L.length - 1 by omega]
  · cases q1
end
/-! Names. -/
theorem letters_size {first all : Nat → Bool} {s : ByteArray} (h : lettersB first all s = true) : 1 ≤ s.size ∧ s.size ≤ 32 := by
  unfold lettersB at h
  simp only [Bool.and_eq_true, decide_eq_true_eq] at h
  exact ⟨h.1.1.1, h.1.1.2⟩
theorem name_size {s : ByteArray} (h : nameB s = true) : 1 ≤ s.size ∧ s.size ≤ 32 := by
  unfold nameB at h
  rw [Bool.and_eq_true] at h
  exact letters_size h.1
theorem typeName_size {s : ByteArray} (h : typeNameB s = true) : 1 ≤ s.size ∧ s.size ≤ 32 := by
  unfold typeNameB at h
  rw [Bool.and_eq_true] at h
  exact letters_size h.1
theorem empty_size {s : ByteArray} (h : emptyB s = true) : s.size = 0 := by
  unfold emptyB at h
  rw [isEmpty_size, decide_eq_true_eq] at h
  exact h
theorem sign_size {s : ByteArray} (h : sgB s = true) : 1 ≤ s.size ∧ s.size ≤ 32 := by
  unfold sgB sgl at h
  simp only [List.any_cons, List.any_nil, Bool.or_false, Bool.or_eq_true, beq_iff_eq] at h
  rw [ByteArray.toList_eq] at h
  have e : s.size = s.data.toList.length := by simp
  rw [e]
  rcases h with h | h | h | h | h | h | h | h | h | h | h | h | h <;> (rw [h]; decide)
section
variable {ts : List Nd} (h : TOk ts) {n : Nat} (hn : n < ts.length)
include h hn
theorem TOk.txt : ((ts.getD n nd0).k = 2 ∨ (ts.getD n nd0).k = 3 ∨ (ts.getD n nd0).k = 4 ∨ (ts.getD n nd0).k = 5 ∨ (ts.getD n nd0).k = 6 ∨ (ts.getD n nd0).k = 7 ∨ (ts.getD n nd0).k = 12 ∨ (ts.getD n nd0).k = 14 ∨ (ts.getD n nd0).k = 26 ∨ (ts.getD n nd0).k = 27 ∨ (ts.getD n nd0).k = 33 ∨ (ts.getD n nd0).k = 34 ∨ (ts.getD n nd0).k = 35 → 1 ≤ (ts.getD n nd0).s.size) ∧ (ts.getD n nd0).s.size ≤ 32 ∧ ((ts.getD n nd0).k = 32 → sgB (ts.getD n nd0).s = true) := by
  have q := (ask_k (h.ask hn)).2.1
  have q0 := (ask_k (h.ask hn)).1
  generalize (ts.getD n nd0).k = k at q q0
  generalize (ts.getD n nd0).s = s at q q0
  by_cases h38 : 38 ≤ k
  · exfalso
    obtain ⟨j, rfl⟩ : ∃ j, k = j + 38 := ⟨k - 38, by omega⟩
    exact Bool.false_ne_true q0
  · have : k = 0 ∨ k = 1 ∨ k = 2 ∨ k = 3 ∨ k = 4 ∨ k = 5 ∨ k = 6 ∨ k = 7 ∨ k = 8 ∨ k = 9 ∨ k = 10 ∨ k = 11 ∨ k = 12 ∨ k = 13 ∨ k = 14 ∨ k = 15 ∨ k = 16 ∨ k = 17 ∨ k = 18 ∨ k = 19 ∨ k = 20 ∨ k = 21 ∨ k = 22 ∨ k = 23 ∨ k = 24 ∨ k = 25 ∨ k = 26 ∨ k = 27 ∨ k = 28 ∨ k = 29 ∨ k = 30 ∨ k = 31 ∨ k = 32 ∨ k = 33 ∨ k = 34 ∨ k = 35 ∨ k = 36 ∨ k = 37 := by omega
    have hNm : nameB s = true → 1 ≤ s.size ∧ s.size ≤ 32 := name_size
    have hTn : typeNameB s = true → 1 ≤ s.size ∧ s.size ≤ 32 := typeName_size
    have hEm : emptyB s = true → s.size = 0 := empty_size
    have hSg : sgB s = true → 1 ≤ s.size ∧ s.size ≤ 32 := sign_size
    have hor : (emptyB s || nameB s) = true → s.size ≤ 32 := fun e => by
      rw [Bool.or_eq_true] at e
      rcases e with e | e
      · have := hEm e; omega
      · exact (hNm e).2
    rcases this with rfl | rfl | rfl | rfl | rfl | rfl | rfl | rfl | rfl | rfl | rfl | rfl | rfl | rfl | rfl | rfl | rfl | rfl | rfl | rfl | rfl | rfl | rfl | rfl | rfl | rfl | rfl | rfl | rfl | rfl | rfl | rfl | rfl | rfl | rfl | rfl | rfl | rfl
    all_goals
      first
        | exact ⟨fun _ => (hNm q).1, (hNm q).2, fun e => by omega⟩
        | exact ⟨fun _ => (hTn q).1, (hTn q).2, fun e => by omega⟩
        | exact ⟨fun e => by omega, by have := hEm q; omega, fun e => by omega⟩
        | exact ⟨fun e => by omega, hor q, fun e => by omega⟩
        | exact ⟨fun e => by omega, (hSg q).2, fun _ => q⟩
end
end Go.Proofs.YtoophdcagpfmpaaGreatDoor

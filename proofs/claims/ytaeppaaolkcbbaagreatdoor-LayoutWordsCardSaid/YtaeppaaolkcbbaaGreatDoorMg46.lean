/- awake's unit in memory. A drawn region within which one element of one cell is appended to a slice of the call's own (the element's block may be the old one). -/
import Derived.Test.YtaeppaaolkcbbaaGreatDoorMg45
import Derived.Test.YtaeppaaolkcbbaaGreatDoorMg42
import Derived.Test.YtaeppaaolkcbbaaGreatDoorMg09
import Derived.Test.YtaeppaaolkcbbaaGreatDoorMg02
namespace Go.Proofs.YtaeppaaolkcbbaaGreatDoor
open Go.RowKit

abbrev awCb (r : Nat) : Array Value := #[.int .u8 3, .bool false, .int .i64 0, .int .i64 0, .slice (some ⟨r, 0, none⟩) 1 1]
structure AwU (w0 : World) (Bb Bu r0 r1 F P Q g : Nat) (va vn : Value) (n m : Nat) (us ss : List Value) (w : World) : Prop where
 kb : KB F0 w0 w
 b : w.heap[Bb]? = some (.cells (awCb r1) 26 (0, 0))
 hr1 : w.heap[r1]? = some (.cells (awCb r0) 26 (0, 0))
 hr0 : w.heap[r0]? = some (.cells awCi 26 (0, 0))
 u : w.heap[Bu]? = some (.cells #[.slice none 0 0, .slice (some ⟨F, 0, none⟩) 1 1, .int .i64 0] 49 (0, 0))
 f : w.heap[F]? = some (.cells #[.string ⟨#[]⟩, .int .i64 0, .slice none 0 0, .int .i64 0, va, vn, .slice (some ⟨P, 0, none⟩) 4 4] 88 (0, 0))
 p : w.heap[P]? = some (.cells (awCp Q).toArray 129 (0, 0))
 q : w.heap[Q]? = some (.cells #[.int .i64 (-1)] 92 (0, 0))
 hg : w.heap[g]? = some (.cells awCi 26 (0, 0))
 lo : w0.heap.size ≤ Bb ∧ w0.heap.size ≤ r0 ∧ w0.heap.size ≤ r1 ∧ w0.heap.size ≤ Bu ∧ w0.heap.size ≤ F ∧ w0.heap.size ≤ P ∧ w0.heap.size ≤ Q ∧ w0.heap.size ≤ g
 la : w.ownsRow w0.heap.size 26 5 va n us
 na : w.ownsRow w0.heap.size 9 1 vn m ss
theorem AwU.kbF {w0 : World} {Bb Bu r0 r1 F P Q g : Nat} {va vn : Value} {n m : Nat} {us ss : List Value} {w w' : World} (h : AwU w0 Bb Bu r0 r1 F P Q g va vn n m us ss w) (hk : KB F0 w w') : AwU w0 Bb Bu r0 r1 F P Q g va vn n m us ss w' :=
 ⟨h.kb.trans hk, hk.heap (fun x => x) h.b, hk.heap (fun x => x) h.hr1, hk.heap (fun x => x) h.hr0, hk.heap (fun x => x) h.u, hk.heap (fun x => x) h.f, hk.heap (fun x => x) h.p, hk.heap (fun x => x) h.q, hk.heap (fun x => x) h.hg, h.lo, own_kb h.la hk (fun _ _ x => x), own_kb h.na hk (fun _ _ x => x)⟩
theorem own_full {w : World} {B g size n : Nat} {e : TypeId} {cs : List Value} (hB : B ≤ g) (hg : w.heap[g]? = some (.cells cs.toArray e (0, 0))) (hn : n ≤ maxLen) (hs : cs.length = n * size) : w.ownsRow B e size (.slice (some ⟨g, 0, none⟩) n n) n cs :=
 ⟨hs, Or.inr ⟨g, n, cs.toArray, rfl, hB, hg, Nat.le_refl _, hn, by simp [hs], by simp [← hs]⟩⟩
theorem AwU.next {w0 : World} {Bb Bu r0 r1 F P Q g : Nat} {va vn va' vn' : Value} {n m n' m' : Nat} {us ss us' ss' : List Value} {w w' : World} {S : Nat → Prop} (h : AwU w0 Bb Bu r0 r1 F P Q g va vn n m us ss w) (hk : KB S w w')
  (hS : ∀ k, k < w.heap.size → S k → va.ownBlock = some k ∨ vn.ownBlock = some k ∨ k = F) (hne : ∀ k, S k → k ≠ Bb ∧ k ≠ r0 ∧ k ≠ r1 ∧ k ≠ g ∧ k ≠ Bu ∧ k ≠ P ∧ k ≠ Q)
  (hF : w'.heap[F]? = some (.cells #[.string ⟨#[]⟩, .int .i64 0, .slice none 0 0, .int .i64 0, va', vn', .slice (some ⟨P, 0, none⟩) 4 4] 88 (0, 0))) (la : w'.ownsRow w0.heap.size 26 5 va' n' us') (na : w'.ownsRow w0.heap.size 9 1 vn' m' ss') : AwU w0 Bb Bu r0 r1 F P Q g va' vn' n' m' us' ss' w' :=
 ⟨h.kb.oldS hk (fun k hk2 e => by
   have hz := h.kb.size
   rcases hS k (by omega) e with e | e | e
   ·have := (h.la.lt k e).1; omega
   ·have := (h.na.lt k e).1; omega
   ·have := h.lo.2.2.2.2.1; omega),
  hk.heap (fun e => (hne _ e).1 rfl) h.b, hk.heap (fun e => (hne _ e).2.2.1 rfl) h.hr1, hk.heap (fun e => (hne _ e).2.1 rfl) h.hr0, hk.heap (fun e => (hne _ e).2.2.2.2.1 rfl) h.u, hF, hk.heap (fun e => (hne _ e).2.2.2.2.2.1 rfl) h.p, hk.heap (fun e => (hne _ e).2.2.2.2.2.2 rfl) h.q, hk.heap (fun e => (hne _ e).2.2.2.1 rfl) h.hg, h.lo, la, na⟩
abbrev awLs (g r : Nat) : List Value := (awCi ++ awCi ++ awCr g).toList ++ (awCb r).toList
theorem tyI_at (n : Nat) (w : World) : TyAt n w awI none 0 := by
 cases n with
 | zero => trivial
 | succ n => exact ⟨Nat.le_refl _, fun i hi => absurd hi (Nat.not_lt_zero i)⟩
theorem ty1_at {w : World} {t x : Ty} {g : Nat} {a : Option Addr} {c : Nat} (ht : t.of = [x]) (hg : w.heap[g]? = some (tyObj x a c)) (hx : ∀ n, TyAt n w x a c) (n : Nat) : TyAt n w t (some ⟨g, 0, none⟩) 1 := by
 cases n with
 | zero => trivial
 | succ n =>
  refine ⟨by rw [ht]; exact Nat.le_refl _, fun i hi => ?_⟩
  rw [ht] at hi ⊢
  obtain rfl : i = 0 := by simpa using hi
  exact ⟨g, 0, a, c, rfl, TyCells.of_block hg, hx n⟩
section
variable {w0 : World} {Bb Bu r0 r1 F P Q g : Nat} {va vn : Value} {n m : Nat} {us ss : List Value} {w : World}
theorem AwU.tyR (h : AwU w0 Bb Bu r0 r1 F P Q g va vn n m us ss w) (k : Nat) : TyAt k w awR (some ⟨g, 0, none⟩) 1 := ty1_at (x := awI) rfl h.hg (fun k => tyI_at k w) k
theorem AwU.tyB1 (h : AwU w0 Bb Bu r0 r1 F P Q g va vn n m us ss w) (k : Nat) : TyAt k w awB1 (some ⟨r0, 0, none⟩) 1 := ty1_at (x := awI) rfl h.hr0 (fun k => tyI_at k w) k
theorem AwU.tyB (h : AwU w0 Bb Bu r0 r1 F P Q g va vn n m us ss w) (k : Nat) : TyAt k w awB (some ⟨r1, 0, none⟩) 1 := ty1_at (x := awB1) rfl h.hr1 (fun k => h.tyB1 k) k
theorem own_cells {w : World} {B size n c : Nat} {e : TypeId} {a : Option Addr} {cs : List Value} (h : w.ownsRow B e size (.slice a n c) n cs) (hn : 0 < n) : ∃ q, a = some ⟨q, 0, none⟩ ∧ n ≤ c ∧ ∀ j, j < n * size → w.cell? ⟨q, j, none⟩ = cs[j]? := by
 rcases h.2 with ⟨h1, h2⟩ | ⟨q, cap, cur, h1, -, -, h4, -⟩
 ·omega
 ·cases h1
  exact ⟨q, rfl, h4, fun j hj => h.cellAt j hj⟩
theorem awP_cells {l : List Value} {P : Nat} (hp : w.heap[P]? = some (.cells l.toArray 129 (0, 0))) (k : Nat) (a : Array Value) (h : (l.drop (k * 21)).take 21 = a.toList) : ∀ j, j < 21 → w.cell? ⟨P, 0 + k * 21 + j, none⟩ = a[j]? := fun j hj => by
 rw [blk_cell hp, ← Array.getElem?_toList (xs := a), ← h, List.getElem?_take, if_pos hj, List.getElem?_drop, Nat.zero_add]
 simp
theorem ints_nil (w : World) (a : Option Addr) : IntsAt w a [] := fun k hk => absurd hk (Nat.not_lt_zero k)
theorem pl_nil (w : World) (z : Int) : PlAt w ⟨z, []⟩ none 0 := ⟨ints_nil w none, Nat.le_refl _, Nat.zero_le _⟩
theorem AwU.pts (h : AwU w0 Bb Bu r0 r1 F P Q g va vn n m us ss w) : PtsAt w (some ⟨P, 0, none⟩) awG.points := by
 have ops : ∀ a, OpdsAt w a [] := fun a k hk => absurd hk (Nat.not_lt_zero k)
 intro k hk
 have hk4 : k < 4 := hk
 obtain rfl | rfl | rfl | rfl : k = 0 ∨ k = 1 ∨ k = 2 ∨ k = 3 := by omega
 ·exact ⟨P, 0, ⟨none, 0, none, 0, none, 0, none, 0, none, 0⟩, rfl, awP_cells h.p 0 _ rfl, ⟨pl_nil w _, pl_nil w _, pl_nil w _, ops _, pl_nil w _, by show (0 : Nat) ≤ _; exact Nat.zero_le _, by show (0 : Nat) ≤ _; exact Nat.zero_le _⟩⟩
 ·exact ⟨P, 0, ⟨none, 0, none, 0, none, 0, none, 0, none, 0⟩, rfl, awP_cells h.p 1 _ rfl, ⟨pl_nil w _, pl_nil w _, pl_nil w _, ops _, pl_nil w _, by show (0 : Nat) ≤ _; exact Nat.zero_le _, by show (0 : Nat) ≤ _; exact Nat.zero_le _⟩⟩
 ·refine ⟨P, 0, ⟨some ⟨Q, 0, none⟩, 1, none, 0, none, 0, none, 0, none, 0⟩, rfl, awP_cells h.p 2 _ rfl, ⟨⟨fun i hi => ?_, Nat.le_refl _, by show (1 : Nat) ≤ 100000; decide⟩, pl_nil w _, pl_nil w _, ops _, pl_nil w _, by show (0 : Nat) ≤ _; exact Nat.zero_le _, by show (0 : Nat) ≤ _; exact Nat.zero_le _⟩⟩
  obtain rfl : i = 0 := by simpa [awG, awP2] using hi
  exact ⟨Q, 0, rfl, blk_cell h.q 0⟩
 ·exact ⟨P, 0, ⟨none, 0, none, 0, none, 0, none, 0, none, 0⟩, rfl, awP_cells h.p 3 _ rfl, ⟨pl_nil w _, pl_nil w _, pl_nil w _, ops _, pl_nil w _, by show (0 : Nat) ≤ _; exact Nat.zero_le _, by show (0 : Nat) ≤ _; exact Nat.zero_le _⟩⟩
end
theorem aw_pok : (awG.points.all fun p => ptOk awG.points.length p) = true := by kernel_rfl
theorem aw_ho : ∀ k (h : k < [awG].length), ∀ j (hj : j < [awG][k].points.length), ptOk [awG][k].points.length [awG][k].points[j] = true := fun k hk j hj => by
 obtain rfl : k = 0 := by simpa using hk
 exact List.all_eq_true.1 aw_pok _ (List.getElem_mem hj)
def awA (F : Nat) : AskA := ⟨none, 0, some ⟨F, 0, none⟩, 1, 0⟩
theorem AwU.unit {w0 : World} {Bb Bu r0 r1 F P Q g : Nat} {vb : Option Addr} {vc : Nat} {vn : Value} {ss : List Value} {w : World} (h : AwU w0 Bb Bu r0 r1 F P Q g (.slice vb 4 vc) vn 4 4 (awLs g r1) ss w) : UnAt [] [awG] (awA F) w := by
 obtain ⟨nb, nc, rfl, -⟩ := own_shape h.na
 refine ⟨by decide, fun i => by simp [fds], Nat.le_refl _, fun i hi => absurd hi (Nat.not_lt_zero i), fun k hk => ?_, by decide, aw_ho⟩
 obtain rfl : k = 0 := by simpa using hk
 obtain ⟨q, rfl, hc, hcell⟩ := own_cells h.la (by decide)
 refine ⟨F, 0, ⟨none, 0, some ⟨q, 0, none⟩, vc, nb, nc, some ⟨P, 0, none⟩, 4⟩, rfl, fun j hj => ?_, ⟨fun k hk => absurd hk (Nat.not_lt_zero k), fun i hi => ?_, h.pts, hc, by show (0 : Nat) ≤ _; exact Nat.zero_le _, by show (4 : Nat) ≤ 1000000; decide, by show (4 : Nat) ≤ 1000000; decide, by show (4 : Nat) ≤ 1000000; decide⟩⟩
 ·rw [show 0 + 0 * 7 + j = j from by omega, blk_cell h.f j]
  rw [List.getElem?_toArray]
  rfl
 ·have hi4 : i < 4 := hi
  obtain rfl | rfl | rfl | rfl : i = 0 ∨ i = 1 ∨ i = 2 ∨ i = 3 := by omega
  ·exact ⟨q, 0, none, 0, rfl, ⟨hcell 0 (by decide), hcell 1 (by decide), hcell 2 (by decide), hcell 3 (by decide), hcell 4 (by decide)⟩, tyI_at _ w⟩
  ·exact ⟨q, 0, none, 0, rfl, ⟨hcell 5 (by decide), hcell 6 (by decide), hcell 7 (by decide), hcell 8 (by decide), hcell 9 (by decide)⟩, tyI_at _ w⟩
  ·exact ⟨q, 0, _, _, rfl, ⟨hcell 10 (by decide), hcell 11 (by decide), hcell 12 (by decide), hcell 13 (by decide), hcell 14 (by decide)⟩, h.tyR _⟩
  ·exact ⟨q, 0, _, _, rfl, ⟨hcell 15 (by decide), hcell 16 (by decide), hcell 17 (by decide), hcell 18 (by decide), hcell 19 (by decide)⟩, h.tyB _⟩
theorem bxCs_at : ∀ (L : List (Int × Int × Int)) (j : Nat) (hj : j < L.length), (bxCs L)[j * 3]? = some (.int .i64 L[j].1) ∧ (bxCs L)[j * 3 + 1]? = some (.int .i64 L[j].2.1) ∧ (bxCs L)[j * 3 + 2]? = some (.int .i64 L[j].2.2) := by
 intro L
 induction L with
 | nil => intro j hj; simp at hj
 | cons x L ih =>
  intro j hj
  cases j with
  | zero => exact ⟨rfl, rfl, rfl⟩
  | succ j =>
   have := ih j (by simpa using hj)
   have e : bxCs (x :: L) = [.int .i64 x.1, .int .i64 x.2.1, .int .i64 x.2.2] ++ bxCs L := rfl
   rw [e, List.getElem?_append_right (by simp; omega), List.getElem?_append_right (by simp; omega), List.getElem?_append_right (by simp; omega)]
   simp only [List.length_cons, List.length_nil, List.getElem_cons_succ]
   rw [show (j + 1) * 3 - (0 + 1 + 1 + 1) = j * 3 by omega, show (j + 1) * 3 + 1 - (0 + 1 + 1 + 1) = j * 3 + 1 by omega, show (j + 1) * 3 + 2 - (0 + 1 + 1 + 1) = j * 3 + 2 by omega]
   exact this
theorem bxs_own {B : Nat} {w : World} {a : Option Addr} {c : Nat} {l : List (Int × Int × Int)} (h : w.ownsRow B 61 3 (.slice a l.length c) l.length (bxCs l)) : BxsAt w a l := fun j hj => by
 obtain ⟨q2, rfl, -, hc2⟩ := own_cells h (by omega)
 obtain ⟨f1, f2, f3⟩ := bxCs_at _ j hj
 refine ⟨q2, 0, rfl, ?_, ?_, ?_⟩
 ·rw [Nat.zero_add, hc2 _ (by omega), f1]
 ·rw [Nat.zero_add, hc2 _ (by omega), f2]
 ·rw [Nat.zero_add, hc2 _ (by omega), f3]
theorem OwnSh.shs {B : Nat} {w : World} {a : Option Addr} {c : Nat} {l : List ShpL} {us : List Value} (h : OwnSh B w (.slice a l.length c) l us) : ShsAt w a l := fun k hk => by
 have hl : 0 < l.length := by omega
 obtain ⟨q, rfl, hc, hcell⟩ := own_cells h.row hl
 obtain ⟨bv, e1, e2, e3⟩ := h.bxs k hk
 obtain ⟨ba, bc, rfl, -⟩ := own_shape e3
 have e : l.getD k shp0 = l[k] := by rw [List.getD_eq_getElem?_getD, List.getElem?_eq_getElem hk]; rfl
 refine ⟨q, 0, ba, bc, rfl, ?_, ?_, ?_⟩
 ·rw [e, Nat.zero_add, hcell _ (by omega), e1]
 ·rw [e, Nat.zero_add, hcell _ (by omega), e2]
 ·rw [e]
  exact bxs_own e3
section
variable {w0 : World} {Bb Bu r0 r1 F P Q g : Nat} {vb : Option Addr} {vc : Nat} {vn : Value} {ss : List Value} {w : World}
abbrev awUn (F : Nat) : Value := .agg #[.slice none 0 0, .slice (some ⟨F, 0, none⟩) 1 1, .int .i64 0]
theorem aw_len : ¬ 4096 < (ofL [] [awG]).length := by rw [aw_of]; decide
theorem AwU.shapes (h : AwU w0 Bb Bu r0 r1 F P Q g (.slice vb 4 vc) vn 4 4 (awLs g r1) ss w) : Calls Tryz.prog 21 #[awUn F] w fun e w' => KB F0 w w' ∧ ∃ a c us, e = .returned (.tuple #[.slice a 2 c, .int .i64 0]) ∧ OwnSh w.heap.size w' (.slice a 2 c) awS us := by
 refine Calls.mono (lyShapes_any [] [awG] (awA F) w h.unit) ?_
 rintro e w' ⟨hk, h1 | h1 | ⟨-, -, v, us, rfl, hS⟩⟩
 ·exact absurd aw_unit h1.1
 ·exact absurd h1.2.1 aw_len
 ·rw [aw_shapes] at hS
  obtain ⟨a, c, rfl, -⟩ := own_shape hS.row
  exact ⟨hk, a, c, us, rfl, hS⟩
theorem AwU.shape (h : AwU w0 Bb Bu r0 r1 F P Q g (.slice vb 4 vc) vn 4 4 (awLs g r1) ss w) : Calls Tryz.prog 24 #[awUn F, .agg (awCb r0)] w fun e w' => e = .returned (.tuple #[.int .i64 1, .int .i64 0]) ∧ KB F0 w w' := by
 refine Calls.mono (lyShapeX_any [] [awG] (awA F) awB1 (some ⟨r0, 0, none⟩) 1 w h.unit (h.tyB1 49)) ?_
 rintro e w' ⟨hk, h1 | h1 | ⟨-, -, -, rfl⟩⟩
 ·exact absurd ⟨⟨goodS_nil, by kernel_rfl⟩, aw_unit⟩ h1.1
 ·exact absurd h1.2.2.1 aw_len
 ·exact ⟨by rw [aw_idx]; rfl, hk⟩
theorem AwU.frame (h : AwU w0 Bb Bu r0 r1 F P Q g (.slice vb 4 vc) vn 4 4 (awLs g r1) ss w) : Calls Tryz.prog 26 #[awUn F, .int .i64 0] w fun e w' => KB F0 w w' ∧ ∃ G, e = .returned (.tuple #[.slice (some ⟨G, 0, none⟩) 4 4, .int .i64 4, .int .i64 0]) := by
 refine Calls.mono (lyFrame_any [] [awG] (awA F) 0 w h.unit) ?_
 rintro e w' ⟨hk, h1 | ⟨k, hkl, h1, -, G, -, rfl, -⟩⟩
 ·exact absurd ⟨by decide, by decide, aw_unit⟩ h1.1
 ·obtain rfl : k = 0 := by omega
  refine ⟨hk, G, ?_⟩
  show Ending.returned (.tuple #[.slice (some ⟨G, 0, none⟩) 4 4, .int .i64 ((frF [] awG).2 : Nat), .int .i64 0]) = _
  rw [aw_fr]
  rfl
theorem AwU.place (h : AwU w0 Bb Bu r0 r1 F P Q g (.slice vb 4 vc) vn 4 4 (awLs g r1) ss w) {q : Nat} (hq : w.heap[q]? = some (.cells #[.int .i64 (-1)] 92 (0, 0))) : Calls Tryz.prog 28 #[awUn F, .int .i64 0, .agg #[.int .i64 2, .slice (some ⟨q, 0, none⟩) 1 1]] w fun e w' =>
  KB F0 w w' ∧ ∃ x c, e = .returned (.tuple #[.int .i64 2, .slice (some ⟨x, 0, none⟩) 2 c, .int .i64 0]) ∧ 2 ≤ c ∧ w'.cell? ⟨x, 1, none⟩ = some (.bool true) := by
 refine Calls.mono (lyPlace_any [] [awG] (awA F) 0 awPl (some ⟨q, 0, none⟩) 1 w h.unit ⟨fun i hi => ?_, Nat.le_refl _, by decide⟩) ?_
 ·obtain rfl : i = 0 := by simpa [awPl] using hi
  exact ⟨q, 0, rfl, blk_cell hq 0⟩
 rintro e w' ⟨hk, ⟨h1, -⟩ | ⟨k, hkl, h1, -, -, v, rfl, hr⟩⟩
 ·exact absurd (by show (wkP [] awG.locals awPl).isSome = true; rw [aw_wk]; rfl) (h1 0 (by decide) rfl aw_unit)
 ·obtain rfl : k = 0 := by omega
  have hg : goF [] (([awG][0]).locals.getD awPl.loc.toNat ty0) awPl.path = [(0, true), (0, false)] := aw_go
  rw [hg] at hr
  have hr : w'.ownsRow w.heap.size 74 2 v 2 (goCs [(0, true), (0, false)]) := hr
  obtain ⟨a, c, rfl, -⟩ := own_shape hr
  obtain ⟨x, rfl, hc, hcell⟩ := own_cells hr (by decide)
  refine ⟨hk, x, c, ?_, hc, hcell 1 (by decide)⟩
  show Ending.returned (.tuple #[.int .i64 ((frF [] awG).1.getD 2 0), _, _]) = _
  rw [aw_fr]
  rfl
theorem AwU.boxes (h : AwU w0 Bb Bu r0 r1 F P Q g (.slice vb 4 vc) vn 4 4 (awLs g r1) ss w) : Calls Tryz.prog 15 #[.slice none 0 0, .agg (awCb r1)] w fun e w' => KB F0 w w' ∧ ∃ a c, e = .returned (.tuple #[.slice a 1 c, .int .i64 0]) := by
 refine Calls.mono (lyBoxes_any [] (by decide) (fun i => by simp [fds]) none 0 (Nat.le_refl _) awB (some ⟨r1, 0, none⟩) 1 w (fun i hi => absurd hi (Nat.not_lt_zero i)) (h.tyB 49)) ?_
 rintro e w' (⟨-, v, rfl, hr, hk⟩ | ⟨h1, -⟩)
 ·have e : (bxN [] awB).length = 1 := by kernel_rfl
  rw [e] at hr
  obtain ⟨a, c, rfl, -⟩ := own_shape hr
  exact ⟨hk, a, c, rfl⟩
 ·exact absurd ⟨goodS_nil, by kernel_rfl⟩ h1
end
theorem awMay_any {B : Nat} {w V : World} {a : Option Addr} {c : Nat} {us : List Value} (h : OwnSh B w (.slice a 2 c) awS us) (hV : KB F0 w V) : Calls Tryz.prog 17 #[.slice a 2 c] V fun e w' => e = .returned (.bool true) ∧ KB F0 V w' := by
 have hs : ShsAt w a awS := OwnSh.shs h
 have hm := lyMay_any awS (by decide) (fun s hs => by simp only [awS, List.mem_cons, List.not_mem_nil, or_false] at hs; rcases hs with rfl | rfl <;> decide) a c V (hs.kbF hV)
 rw [aw_may] at hm
 exact hm
theorem awShape1 {B : Nat} {w : World} {a : Option Addr} {c : Nat} {us : List Value} (h : OwnSh B w (.slice a 2 c) awS us) : ∃ q b bc, a = some ⟨q, 0, none⟩ ∧ 2 ≤ c ∧ 1 ≤ bc ∧ w.cell? ⟨q, 1, none⟩ = some (.slice (some ⟨b, 0, none⟩) 1 bc) ∧ w.cell? ⟨b, 2, none⟩ = some (.int .i64 1) := by
 have hr : w.ownsRow B 32 2 (.slice a 2 c) 2 us := h.row
 obtain ⟨q, rfl, hc, hcell⟩ := own_cells hr (by decide)
 obtain ⟨bv, -, e2, e3⟩ := h.bxs 0 (by decide)
 have e3 : w.ownsRow B 61 3 bv 1 (bxCs [(0, 0, 1)]) := e3
 obtain ⟨ba, bc, rfl, -⟩ := own_shape e3
 obtain ⟨b, rfl, hbc, hc2⟩ := own_cells e3 (by decide)
 exact ⟨q, b, bc, rfl, hc, hbc, by rw [hcell 1 (by decide)]; exact e2, hc2 2 (by decide)⟩
theorem awField_any {p q : Nat} {w : World} (hp : w.heap[p]? = some (.cells #[.string ⟨#[97]⟩, .int .u8 1, .bool false, .int .i64 0, .int .i64 0, .slice none 0 0, .string ⟨#[98]⟩, .int .u8 1, .bool false, .int .i64 0, .int .i64 0, .slice none 0 0] 83 (0, 0))) (hq : w.heap[q]? = some (.cells #[.string ⟨#[83]⟩, .slice (some ⟨p, 0, none⟩) 2 2] 81 (0, 0))) :
  Calls Tryz.prog 13 #[.slice (some ⟨q, 0, none⟩) 1 1, .int .i64 0, .int .i64 1] w fun e w' => e = .returned (.tuple #[.int .i64 1, .int .i64 0]) ∧ KB F0 w w' := by
 refine Calls.mono (lyField_any [[awI, awI]] (by decide) (fun i => ?_) (some ⟨q, 0, none⟩) 1 (Nat.le_refl _) 0 1 w (fun i hi => ?_)) ?_
 ·exact Nat.le_trans (aw_good2.len8 i) (by decide)
 ·obtain rfl : i = 0 := by simpa using hi
  refine ⟨q, 0, _, some ⟨p, 0, none⟩, 2, rfl, blk_cell hq 0, blk_cell hq 1, Nat.le_refl _, fun j hj => ?_⟩
  have hj2 : j < 2 := hj
  obtain rfl | rfl : j = 0 ∨ j = 1 := by omega
  ·exact ⟨p, 0, _, none, 0, rfl, blk_cell hp 0, ⟨blk_cell hp 1, blk_cell hp 2, blk_cell hp 3, blk_cell hp 4, blk_cell hp 5⟩, tyI_at _ w⟩
  ·exact ⟨p, 0, _, none, 0, rfl, blk_cell hp 6, ⟨blk_cell hp 7, blk_cell hp 8, blk_cell hp 9, blk_cell hp 10, blk_cell hp 11⟩, tyI_at _ w⟩
 rintro e w' (⟨-, rfl, hk⟩ | ⟨h1, -⟩)
 ·refine ⟨?_, hk⟩
  show Ending.returned (.tuple #[.int .i64 ((wsum [[awI, awI]] 34 0 1 : Nat) : Int), _]) = _
  rw [aw_fld]
  rfl
 ·exact absurd ⟨aw_good2, by decide, by decide, by decide, by decide⟩ h1
end Go.Proofs.YtaeppaaolkcbbaaGreatDoor

namespace Go.Proofs.YtaeppaaolkcbbaaGreatDoor.A1
open Go.RowKit

def inPlace (v : Value) (n : Nat) : Value := match v with
 | .slice a _ c => .slice a n c
 | v => v
theorem inPlace_block (v : Value) (n : Nat) : (inPlace v n).ownBlock = v.ownBlock := by
 cases v with
 | slice a l c => cases a <;> rfl
 | _ => rfl
theorem own_at1 {w w' : World} {B : Nat} {e : TypeId} {size n : Nat} {v : Value} {xs : List Value} (h : w.ownsRow B e size v n xs) (hs : ∀ g, v.ownBlock = some g → w'.heap[g]? = w.heap[g]?) : w'.ownsRow B e size v n xs := by
 obtain ⟨h1, h2⟩ := h
 refine ⟨h1, ?_⟩
 rcases h2 with h2 | ⟨g, cap, cur, hv, hg, hh, r⟩
 ·exact Or.inl h2
 ·exact Or.inr ⟨g, cap, cur, hv, hg, by rw [hs g (by rw [hv]; rfl)]; exact hh, r⟩
theorem own_prefix {w : World} {B : Nat} {e : TypeId} {v : Value} {n m : Nat} {ys : List Value} (h : w.ownsRow B e 1 (inPlace v n) n ys) (hm : m ≤ n) (hv : ∃ g c, v = .slice (some ⟨g, 0, none⟩) m c) : w.ownsRow B e 1 v m (ys.take (m * 1)) := by
 obtain ⟨g, c, rfl⟩ := hv
 obtain ⟨h1, h2⟩ := h
 rcases h2 with ⟨h2, -⟩ | ⟨g', cap, cur, hv, hg, hh, hcap, hmx, hsz, hx⟩
 ·simp [inPlace] at h2
 ·simp only [inPlace, Value.slice.injEq, Option.some.injEq, Addr.mk.injEq, and_true, true_and] at hv
  obtain ⟨rfl, rfl⟩ := hv
  refine ⟨by rw [List.length_take, h1]; omega, Or.inr ⟨g, c, cur, rfl, hg, hh, by omega, hmx, hsz, ?_⟩⟩
  rw [← hx, List.take_take]
  congr 1; omega
def GA (B : Nat) (e : TypeId) (v : Value) (n : Nat) (ys : List Value) (a b : World) : Prop :=
 KB (fun k => v.ownBlock = some k) a b ∧ ∀ g, v.ownBlock = some g → b.heap[g]? = a.heap[g]? ∨ b.ownsRow B e 1 (inPlace v n) n ys
section
variable {B : Nat} {e : TypeId} {v : Value} {n : Nat} {ys : List Value}
theorem GA.refl (a : World) : GA B e v n ys a a := ⟨KB.refl _ _, fun _ _ => .inl rfl⟩
theorem GA.trans (a b c : World) (h : GA B e v n ys a b) (k : GA B e v n ys b c) : GA B e v n ys a c := by
 refine ⟨h.1.trans k.1, fun g hg => ?_⟩
 rcases k.2 g hg with h2 | h2
 ·rcases h.2 g hg with h1 | h1
  ·exact .inl (h2.trans h1)
  ·refine .inr (own_at1 h1 fun g' hg' => ?_)
   rw [inPlace_block, hg] at hg'
   obtain rfl := Option.some.inj hg'
   exact h2
 ·exact .inr h2
theorem GA.start (a : World) : GA B e v n ys a a.drew := ⟨(KB.refl _ _).drew, fun _ _ => .inl rfl⟩
theorem GA.kb {F0' : Nat → Prop} {a b : World} (hk : KB F0' a b) (hF : ∀ k, ¬ F0' k) (hlt : ∀ g, v.ownBlock = some g → g < a.heap.size) : GA B e v n ys a b :=
 ⟨hk.mono (fun k _ h => (hF k h).elim), fun g hg => .inl (hk.block g (hlt g hg) (hF g))⟩
theorem GA.old {a b : World} {m : Nat} (h : GA B e v n ys a b) (ho : a.ownsRow B e 1 v m (ys.take (m * 1))) (hm : m ≤ n) : b.ownsRow B e 1 v m (ys.take (m * 1)) := by
 obtain ⟨h1, h2⟩ := ho
 rcases h2 with ⟨rfl, h2⟩ | ⟨g, cap, cur, rfl, hb, hh, r⟩
 ·exact ⟨h1, Or.inl ⟨rfl, h2⟩⟩
 ·rcases h.2 g rfl with h3 | h3
  ·exact ⟨h1, Or.inr ⟨g, cap, cur, rfl, hb, by rw [h3]; exact hh, r⟩⟩
  ·exact own_prefix h3 hm ⟨g, cap, rfl⟩
def FA (B N0 : Nat) (e : TypeId) (v : Value) (n : Nat) (ys : List Value) (v' : Value) (w : World) : Prop :=
 w.ownsRow B e 1 v' n ys ∧ (v' = inPlace v n ∨ ∀ g, v'.ownBlock = some g → v.ownBlock ≠ some g ∧ N0 ≤ g)
theorem FA.lasts {N0 : Nat} {v' : Value} {a b : World} (h : GA B e v n ys a b) (f : FA B N0 e v n ys v' a) : FA B N0 e v n ys v' b := by
 obtain ⟨f1, f2⟩ := f
 refine ⟨?_, f2⟩
 rcases f2 with rfl | f2
 ·cases hv : v.ownBlock with
  | none => exact own_at1 f1 (fun g hg => by rw [inPlace_block, hv] at hg; cases hg)
  | some g =>
   rcases h.2 g hv with h1 | h1
   ·refine own_at1 f1 (fun g' hg' => ?_)
    rw [inPlace_block, hv] at hg'
    obtain rfl := Option.some.inj hg'
    exact h1
   ·exact h1
 ·exact own_kb f1 h.1 (fun g hg hS => (f2 g hg).1 hS)
end
theorem kindW_monoG {G : World → World → Prop} (l : List (Nat × (Value → Prop) × (Value → World → Prop))) (hl : ∀ p ∈ l, ∀ v a b, G a b → p.2.2 v a → p.2.2 v b) : ∀ i Fp Fw, kindW l i = .rel Fp Fw → ∀ xs v a b, G a b → Fw xs v a → Fw xs v b := by
 intro i Fp Fw h xs v a b hG hf
 unfold kindW at h
 split at h
 ·rename_i p hp
  cases h
  exact hl p (List.mem_of_find?_eq_some hp) v a b hG hf
 ·cases h
theorem run_append_two {P : Program} (w : World) (base N0 : Nat) (hN0 : N0 ≤ w.heap.size) (t ty e : TypeId) {z : Value} {bytes : Nat} (hinfo : (P.info? e).map (fun i => (i.zero, i.size, i.bytes)) = some (some z, 1, bytes)) (ht : P.underlying t = some (.slice e)) (hzs : z.cells.size = 1)
  (v : Value) (n : Nat) (xs : List Value) (hown : w.ownsRow base e 1 v n xs) (a : Addr) (c : Nat) (cs : List Value) (hcl : cs.length = 1) (hu : ∀ j x, cs[j]? = some x → w.cell? (a.add j) = some x) (h1 : ∀ x ∈ cs, x.oneCell' = true)
  (h63 : n + 1 ≤ maxLen) (hbytes : (n + 1) * bytes ≤ 140737488355328) (hbase : base ≤ w.heap.size) :
  ∃ v' w', (Builtin.append_ #[t, t] ty #[v, .slice (some a) 1 c]).run P w = .ok v' w' ∧ FA base N0 e v (n + 1) (xs ++ cs) v' w' ∧ GA base e v (n + 1) (xs ++ cs) w w' := by
 obtain ⟨i, hi, hz, hsize, hby⟩ := info_parts hinfo
 by_cases hroom : ∃ g cap, v = .slice (some ⟨g, 0, none⟩) n cap ∧ n + 1 ≤ cap
 ·obtain ⟨g, cap, rfl, hcap⟩ := hroom
  obtain ⟨w', hr, h2, h3⟩ := run_append_fits (P := P) w base t ty e i 1 ht hi hsize g n cap xs hown a 1 c cs (by rw [hcl]) hu h1 hcap
  refine ⟨_, w', hr, ⟨h2, .inl rfl⟩, ⟨⟨h3.os, h3.tape, h3.output, h3.size, fun k hk hn => h3.block k hk (fun e => hn (by rw [e]; rfl))⟩, fun g' hg' => .inr h2⟩⟩
 ·-- a new block
  have hlen := hown.1
  have mk : ∀ (old : Nat), old < n + 1 →
    (w.drew.alloc (.cells (xs.toArray ++ cs.toArray ++ Builtin.zeroCells z.cells (grownCap w (n + 1) old e - (n + 1))) e)).ownsRow base e 1
     (.slice (some ⟨w.heap.size, 0, none⟩) (n + 1) (grownCap w (n + 1) old e)) (n + 1) (xs ++ cs) ∧
    KB (fun _ => False) w (w.drew.alloc (.cells (xs.toArray ++ cs.toArray ++ Builtin.zeroCells z.cells (grownCap w (n + 1) old e - (n + 1))) e)) := by
   intro old ho
   have hge := grownCap_ge w (n + 1) old e
   have hcm : grownCap w (n + 1) old e ≤ maxLen := grownCap_le_maxLen w (n + 1) old e h63
   refine ⟨⟨by rw [List.length_append, hlen, hcl]; omega, .inr ⟨w.heap.size, _, _, rfl, hbase, heap_alloc_new w.drew _, hge, hcm, ?_, ?_⟩⟩, (KB.refl _ _).drew.alloc _⟩
   ·simp only [Array.size_append, List.size_toArray, size_zeroCells, hzs, hlen, hcl]
    omega
   ·simp only [Array.toList_append, List.append_assoc]
    rw [← List.append_assoc, show (n + 1) * 1 = (xs ++ cs).length by rw [List.length_append, hlen, hcl]; omega]
    exact List.take_left
  have hlt : ∀ g, v.ownBlock = some g → g < w.heap.size := fun g hg => by
   rcases hown.2 with ⟨rfl, -⟩ | ⟨g', cap, cur, rfl, -, hh, -⟩
   ·cases hg
   ·simp [Value.ownBlock] at hg; subst hg; exact heap_lt hh
  have fin : ∀ {w' : World} {cap' : Nat}, w'.ownsRow base e 1 (.slice (some ⟨w.heap.size, 0, none⟩) (n + 1) cap') (n + 1) (xs ++ cs) → KB (fun _ => False) w w' →
    FA base N0 e v (n + 1) (xs ++ cs) (.slice (some ⟨w.heap.size, 0, none⟩) (n + 1) cap') w' ∧ GA base e v (n + 1) (xs ++ cs) w w' := fun h2 hk =>
   ⟨⟨h2, .inr (fun g hg => by
    simp [Value.ownBlock] at hg
    exact ⟨fun hv => by have := hlt g hv; omega, by omega⟩)⟩, hk.mono (fun _ _ h => h.elim), fun g hg => .inl (hk.block g (hlt g hg) (fun x => x))⟩
  rcases hown.2 with ⟨rfl, rfl⟩ | ⟨g, cap, cur, rfl, hbg, hg, hnc, hcm, hcs, htake⟩
  ·have hx : xs = [] := List.eq_nil_of_length_eq_zero (by simpa using hlen)
   subst hx
   have hr := run_append_nil (P := P) w t ty e i z ht hi hz a 1 c cs (by rw [hsize, hcl]) hu (by omega) (by omega) (by rw [hby]; simp only [Nat.zero_add, Nat.one_mul] at hbytes; omega)
   obtain ⟨m1, m2⟩ := mk 0 (by omega)
   simp only [Nat.zero_add, List.nil_append, Array.empty_append] at m1 m2 fin ⊢
   exact ⟨_, _, hr, fin m1 m2⟩
  ·have hcap : cap < n + 1 := by
    apply Classical.byContradiction
    intro h
    exact hroom ⟨g, cap, rfl, by omega⟩
   have hr := run_append_grow (P := P) w t ty e i z ht hi hz ⟨g, 0, none⟩ n cap xs (by rw [hsize]; exact hlen) (hown.cells (g := g) rfl) a 1 c cs (by rw [hsize, hcl]) hu (by omega) (by unfold maxLen at h63; omega)
    (growslice_fits (by omega) (by rw [hby]; exact hbytes))
   obtain ⟨m1, m2⟩ := mk cap hcap
   exact ⟨_, _, hr, fin m1 m2⟩
theorem opVal_append {P : Program} {o : Oper} {act : Act} {w : World} (base N0 : Nat) (hN0 : N0 ≤ w.heap.size) (s x : Operand) (t e : TypeId) {z : Value} {bytes : Nat} (ho : o.op = .call { callee := .builtin .append, args := #[s, x], argTypes := #[t, t] })
  (hinfo : (P.info? e).map (fun i => (i.zero, i.size, i.bytes)) = some (some z, 1, bytes)) (ht : P.underlying t = some (.slice e)) (hzs : z.cells.size = 1)
  (v : Value) (n : Nat) (xs : List Value) (hs : act.eval s = v) (hown : w.ownsRow base e 1 v n xs) (nb c : Nat) (cs : List Value) (hcl : cs.length = 1) (te : TypeId) (hx : act.eval x = .slice (some ⟨nb, 0, none⟩) 1 c) (hu : w.heap[nb]? = some (.cells cs.toArray te (0, 0))) (h1 : ∀ x ∈ cs, x.oneCell' = true)
  (h63 : n + 1 ≤ maxLen) (hbytes : (n + 1) * bytes ≤ 140737488355328) (hbase : base ≤ w.heap.size) :
  OpVal P o act w (fun v' w' => FA base N0 e v (n + 1) (xs ++ cs) v' w' ∧ GA base e v (n + 1) (xs ++ cs) w w') := by
 obtain ⟨v', w', hr, h2, h3⟩ := run_append_two (P := P) w base N0 hN0 t o.type e hinfo ht hzs v n xs hown ⟨nb, 0, none⟩ c cs hcl (cells_of_block hu) h1 h63 hbytes hbase
 refine opVal_value (v := v') (w' := w') ?_ ⟨h2, h3⟩
 unfold execOp
 simp only [ho, resolve, invoke, builtin, Sem.run_bind, Sem.run_pure, Result.andThen_ok, List.map_toArray, List.map_cons, List.map_nil, hs, hx, hr]
theorem opVal_imp {P : Program} {o : Oper} {a : Act} {w : World} {ψ φ : Value → World → Prop} (h : OpVal P o a w ψ) (hi : ∀ v w', ψ v w' → φ v w') : OpVal P o a w φ := by
 unfold OpVal at h ⊢
 split at h
 ·exact hi _ _ h
 ·exact h.mono fun e w' ⟨v, h1, h2⟩ => ⟨v, h1, hi _ _ h2⟩
 ·exact h
end Go.Proofs.YtaeppaaolkcbbaaGreatDoor.A1

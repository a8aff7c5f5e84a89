/- types.Anew with no regions: the own type's references lose theirs. -/
import Derived.Test.YtaeppaaolkcbbaaGreatDoorMg11
import Derived.Test.YtaeppaaolkcbbaaGreatDoorMg12
namespace Go.Proofs.YtaeppaaolkcbbaaGreatDoor
open Go.RowKit

def bareF : Nat → Ty → Ty
 | 0, t => t
 | n + 1, t => .mk t.k t.m (if t.k = 4 then -1 else t.r) t.s (if t.of.length = 1 then [bareF n (in0 t)] else t.of)
def OwnU : Nat → World → Nat → Nat → Ty → Option Addr → Nat → Prop
 | 0, _, _, _, t, a, c => t.of.length = 0 ∧ a = none ∧ c = 0
 | n + 1, w, B, U, t, a, c => (t.of.length = 0 ∧ a = none ∧ c = 0) ∨ (t.of.length = 1 ∧ ∃ g a' c', a = some ⟨g, 0, none⟩ ∧ c = 1 ∧ B ≤ g ∧ g < U ∧ w.heap[g]? = some (tyObj (in0 t) a' c') ∧ OwnU n w B g (in0 t) a' c')
theorem OwnU.kb {S : Nat → Prop} {w w' : World} {B : Nat} (hk : KB S w w') : ∀ {n U : Nat} {t : Ty} {a : Option Addr} {c : Nat}, (∀ k, B ≤ k → k < U → k < w.heap.size → ¬ S k) → OwnU n w B U t a c → OwnU n w' B U t a c := by
 intro n
 induction n with
 | zero => intro U t a c _ h; exact h
 | succ n ih =>
  intro U t a c hS h
  rcases h with h | ⟨h1, g, a', c', h2, h3, h4, h5, h6, h7⟩
  ·exact Or.inl h
  ·exact Or.inr ⟨h1, g, a', c', h2, h3, h4, h5, hk.heap (hS g h4 h5 (heap_lt h6)) h6, ih (fun k hk1 hk2 hk3 => hS k hk1 (by omega) hk3) h7⟩
theorem OwnU.base {w : World} {B B' U U' : Nat} (hB : B' ≤ B) (hU : U ≤ U') : ∀ {n : Nat} {t : Ty} {a : Option Addr} {c : Nat}, OwnU n w B U t a c → OwnU n w B' U' t a c := by
 intro n
 induction n generalizing U U' with
 | zero => intro t a c h; exact h
 | succ n ih =>
  intro t a c h
  rcases h with h | ⟨h1, g, a', c', h2, h3, h4, h5, h6, h7⟩
  ·exact Or.inl h
  ·exact Or.inr ⟨h1, g, a', c', h2, h3, by omega, by omega, h6, ih (Nat.le_refl g) h7⟩
theorem OwnU.none {w : World} {B U n : Nat} {t : Ty} (h : t.of.length = 0) : OwnU n w B U t none 0 := by
 cases n with
 | zero => exact ⟨h, rfl, rfl⟩
 | succ n => exact Or.inl ⟨h, rfl, rfl⟩
theorem OwnU.own {w : World} {B U : Nat} : ∀ {n : Nat} {t : Ty} {a : Option Addr} {c : Nat}, OwnU n w B U t a c → OwnT n w B t a c := by
 intro n
 induction n generalizing U with
 | zero => intro t a c h; exact h
 | succ n ih =>
  intro t a c h
  rcases h with h | ⟨h1, g, a', c', h2, h3, h4, h5, h6, h7⟩
  ·exact Or.inl h
  ·exact Or.inr ⟨h1, g, a', c', h2, h3, h4, h6, ih h7⟩
def OwnEndU (n : Nat) (t : Ty) (w : World) (e : Ending) (w' : World) : Prop := KB F0 w w' ∧ ∃ ga gc, e = .returned (tyV t ga gc) ∧ OwnU n w' w.heap.size w'.heap.size t ga gc
set_option maxRecDepth 100000 in
set_option maxHeartbeats 16000000 in
theorem own_oneU (t : Ty) (ab ao : Nat) (a' : Option Addr) (c' c : Nat) (w : World) (h1 : t.of.length = 1) (hc : 1 ≤ c) (hca : TyCells w ab ao (in0 t) a' c') (n : Nat)
  (rec : ∀ V, KB F0 w V → Calls Tryz.prog 112 #[tyV (in0 t) a' c'] V (OwnEndU n (in0 t) V)) :
  Calls Tryz.prog 112 #[tyV t (some ⟨ab, ao, none⟩) c] w (OwnEndU (n + 1) t w) := by
 obtain ⟨w0, rfl⟩ : ∃ w0, w0 = w := ⟨_, rfl⟩
 have HE : Hid (∀ e w' , (KB F0 w0 w' ∧ ∃ g a' c', e = .returned (.agg #[.int .u8 t.k, .bool t.m, .int .i64 t.r, .int .i64 t.s, .slice (some ⟨g, 0, none⟩) 1 1]) ∧ w0.heap.size ≤ g ∧ w'.heap[g]? = some (tyObj (in0 t) a' c') ∧ OwnU n w' w0.heap.size g (in0 t) a' c') → OwnEndU (n + 1) t w0 e w') := Lib.hid (fun e w' h => by
  obtain ⟨hk, g, a', c', e1, h2, h3, h4⟩ := h
  refine ⟨hk, some ⟨g, 0, none⟩, 1, ?_, Or.inr ⟨h1, g, a', c', rfl, rfl, h2, heap_lt h3, h3, h4⟩⟩
  rw [e1]; unfold tyV; rw [h1])
 generalize OwnEndU (n + 1) t w0 = EE at HE ⊢
 have RC := Lib.hid rec
 clear rec
 unfold tyV at RC ⊢
 rw [h1]
 clear h1
 obtain ⟨hk, hb1, hb2⟩ := new2 w0 #[.int .u8 t.k, .bool t.m, .int .i64 t.r, .int .i64 t.s, .slice (some ⟨ab, ao, none⟩) 1 c] ty0c 26 26
 unfold ty0c at hk hb1 hb2
 obtain ⟨W, hW⟩ : ∃ W, W = ((w0.alloc (.cells #[.int .u8 t.k, .bool t.m, .int .i64 t.r, .int .i64 t.s, .slice (some ⟨ab, ao, none⟩) 1 c] 26)).alloc (.cells #[.int .u8 0, .bool false, .int .i64 0, .int .i64 0, .slice none 0 0] 26)) := ⟨_, rfl⟩
 rw [← hW] at hk hb1 hb2
 have a0 : W.cell? ⟨w0.heap.size, 0, none⟩ = some (.int .u8 t.k) := blk_cell hb1 0
 have a1 : W.cell? ⟨w0.heap.size, 1, none⟩ = some (.bool t.m) := blk_cell hb1 1
 have a2 : W.cell? ⟨w0.heap.size, 2, none⟩ = some (.int .i64 t.r) := blk_cell hb1 2
 have a3 : W.cell? ⟨w0.heap.size, 3, none⟩ = some (.int .i64 t.s) := blk_cell hb1 3
 have a4 : W.cell? ⟨w0.heap.size, 4, none⟩ = some (.slice (some ⟨ab, ao, none⟩) 1 c) := blk_cell hb1 4
 have b0 : W.cell? ⟨w0.heap.size + 1, 0, none⟩ = some (.int .u8 0) := blk_cell hb2 0
 have b1 : W.cell? ⟨w0.heap.size + 1, 1, none⟩ = some (.bool false) := blk_cell hb2 1
 have b2 : W.cell? ⟨w0.heap.size + 1, 2, none⟩ = some (.int .i64 0) := blk_cell hb2 2
 have b3 : W.cell? ⟨w0.heap.size + 1, 3, none⟩ = some (.int .i64 0) := blk_cell hb2 3
 have b4 : W.cell? ⟨w0.heap.size + 1, 4, none⟩ = some (.slice none 0 0) := blk_cell hb2 4
 have f4 := blk_frozen hb1 4
 have g0 := blk_frozen hb2 0
 have g1 := blk_frozen hb2 1
 have g2 := blk_frozen hb2 2
 have g3 := blk_frozen hb2 3
 have g4 := blk_frozen hb2 4
 have HB := Lib.hid (And.intro hk (And.intro hb1 hb2))
 have HW := Lib.hid hW
 obtain ⟨i0, i1, i2, i3, i4⟩ := hca.kbF hk
 have hcI : (1 : Int) ≤ (c : Int) := by omega
 generalize in0 t = u at *
 generalize t.k = k at *
 generalize t.m = m at *
 generalize t.r = rg at *
 generalize t.s = st at *
 clear hk hb1 hb2 hW
 go_enter Tryz.func112, Tryz.ntmps112
 go_upto_region 1 with fail
 rw [← HW.out]
 go_wp2_with fail
 refine (RC.out _ HB.out.1).mono ?_
 rintro e w2 ⟨k2, ga, gc, rfl, ho⟩
 unfold tyV
 have ka := (KB.refl F0 w2).alloc (.cells #[.int .u8 u.k, .bool u.m, .int .i64 u.r, .int .i64 u.s, .slice ga u.of.length gc] 26)
 have hg := alloc_new w2 (.cells #[.int .u8 u.k, .bool u.m, .int .i64 u.r, .int .i64 u.s, .slice ga u.of.length gc] 26)
 have h1 := ka.heap (fun x => x) (k2.heap (fun x => x) HB.out.2.1)
 have h2 := ka.heap (fun x => x) (k2.heap (fun x => x) HB.out.2.2)
 have hsz : w0.heap.size + 1 < w2.heap.size := heap_lt (k2.heap (fun x => x) HB.out.2.2)
 have K2 := Lib.hid (And.intro k2 (And.intro ho (And.intro ka (And.intro hg (And.intro h1 h2)))))
 clear a0 a1 a2 a3 a4 b0 b1 b2 b3 b4 f4 g0 g1 g2 g3 g4
 have f4 := blk_frozen h1 4
 have a4 := blk_cell h1 4
 simp only [List.getElem?_toArray, List.getElem?_cons_zero, List.getElem?_cons_succ] at a4
 have a0 := blk_cell h1 0
 simp only [List.getElem?_toArray, List.getElem?_cons_zero] at a0
 have a1 := blk_cell h1 1
 simp only [List.getElem?_toArray, List.getElem?_cons_zero, List.getElem?_cons_succ] at a1
 have a2 := blk_cell h1 2
 simp only [List.getElem?_toArray, List.getElem?_cons_zero, List.getElem?_cons_succ] at a2
 have a3 := blk_cell h1 3
 simp only [List.getElem?_toArray, List.getElem?_cons_zero, List.getElem?_cons_succ] at a3
 have b0 := blk_cell h2 0
 have b1 := blk_cell h2 1
 have b2 := blk_cell h2 2
 have b3 := blk_cell h2 3
 have b4 := blk_cell h2 4
 simp only [List.getElem?_toArray, List.getElem?_cons_zero, List.getElem?_cons_succ] at b0 b1 b2 b3 b4
 have g0 := blk_frozen h2 0
 have g1 := blk_frozen h2 1
 have g2 := blk_frozen h2 2
 have g3 := blk_frozen h2 3
 have g4 := blk_frozen h2 4
 clear k2 ho ka hg h1 h2
 go_wp2_with fail
 obtain ⟨k2, ho, ka, hg, h1, h2⟩ := K2.out
 have hWs := heap_lt HB.out.2.2
 have e1 := kb_set (w2.alloc (.cells #[.int .u8 u.k, .bool u.m, .int .i64 u.r, .int .i64 u.s, .slice ga u.of.length gc] 26)) w0.heap.size 4 (.slice (some ⟨w2.heap.size, 0, none⟩) 1 1)
 have e2 := set5_kb ((w2.alloc (.cells #[.int .u8 u.k, .bool u.m, .int .i64 u.r, .int .i64 u.s, .slice ga u.of.length gc] 26)).setCell ⟨w0.heap.size, 4, none⟩ (.slice (some ⟨w2.heap.size, 0, none⟩) 1 1)) (w0.heap.size + 1) (.int .u8 k) (.bool m) (.int .i64 rg) (.int .i64 st) (.slice (some ⟨w2.heap.size, 0, none⟩) 1 1)
 refine ret_ty1 (X := w0.heap.size + 1) rfl rfl (set5_blk (e1.heap (by omega) h2) (.int .u8 k) (.bool m) (.int .i64 rg) (.int .i64 st) (.slice (some ⟨w2.heap.size, 0, none⟩) 1 1)) rfl ?_
 refine HE.out _ _ ⟨set5_new (kb_new (HB.out.1.trans (k2.trans ka)) (Nat.le_refl _) _ _) (show w0.heap.size ≤ w0.heap.size + 1 by omega) _ _ _ _ _, w2.heap.size, ga, gc, rfl, by omega, e2.heap (by omega) (e1.heap (by omega) hg), ?_⟩
 exact (((ho.kb ka (fun k _ _ _ h => h)).kb e1 (fun k h _ _ e => by omega)).kb e2 (fun k h _ _ e => by omega)).base (by omega) (by omega)
theorem own_anyU : ∀ n : Nat, ∀ (t : Ty) (a : Option Addr) (c : Nat) (w : World), deepT n t = true → TyAt (n + 1) w t a c → Calls Tryz.prog 112 #[tyV t a c] w (OwnEndU n t w) := by
 intro n
 induction n with
 | zero =>
  intro t a c w hd _
  have h0 : t.of.length = 0 := by unfold deepT at hd; simpa using hd
  exact (own_zero t a c w h0).mono fun e w' ⟨he, hk⟩ => ⟨hk, none, 0, he, OwnU.none h0⟩
 | succ n ih =>
  intro t a c w hd ha
  have hle := deep_le hd
  rcases Nat.lt_or_ge 0 t.of.length with h0 | h0
  ·have h1 : t.of.length = 1 := by omega
   obtain ⟨m, hm, hdi⟩ := deep_in hd h1
   obtain rfl : n = m := by omega
   obtain ⟨ab, ao, a', c', rfl, hca, hta⟩ := ha.in0 h0
   exact own_oneU t ab ao a' c' c w h1 (by have := ha.1; omega) hca n (fun V hV => ih (in0 t) a' c' V hdi (hta.kbF hV))
  ·exact (own_zero t a c w (by omega)).mono fun e w' ⟨he, hk⟩ => ⟨hk, none, 0, he, OwnU.none (by omega)⟩
structure AnSt (X3 X6 G N j : Nat) (w : World) : Prop where
 h3 : w.heap[X3]? = some (.cells #[.slice (some ⟨G, 0, none⟩) N N] 40 (0, 0))
 hg : w.heap[G]? = some (.cells (repC (-1) N N).toArray 3 (0, 0))
 h6 : w.heap[X6]? = some (.cells #[.int .i64 (j : Nat)] 3 (0, 0))
 ne : G ≠ X6
theorem repC_at {N j : Nat} (h : j < N) : (repC (-1) N N).toArray[j]? = some (.int .i64 (-1)) := by
 unfold repC
 rw [List.getElem?_toArray, List.getElem?_append_left (by simp; omega), List.getElem?_replicate, if_pos (by omega)]
theorem obj_ne {w : World} {x y : Nat} {cs ds : Array Value} {t u : TypeId} (h1 : w.heap[x]? = some (.cells cs t (0, 0))) (h2 : w.heap[y]? = some (.cells ds u (0, 0))) (h : t ≠ u) : x ≠ y := fun e => by
 subst e
 rw [h1] at h2
 simp only [Option.some.injEq, Obj.cells.injEq] at h2
 exact h h2.2.1
set_option maxRecDepth 100000 in
set_option maxHeartbeats 8000000 in
theorem anew2_any (X3 X6 G N j b : Nat) (hN : N ≤ 1000000) (hj : j < N) (w : World) (hS : AnSt X3 X6 G N j w) (k : Int) (m : Bool) (r s : Int) (v : Value) (hb : w.heap[b]? = some (.cells #[.int .u8 k, .bool m, .int .i64 r, .int .i64 s, v] 26 (0, 0))) :
  Calls Tryz.prog 113 #[.pointer (some ⟨b, 0, none⟩), .pointer (some ⟨X3, 0, none⟩), .pointer (some ⟨X6, 0, none⟩)] w fun e w' => e = .returned (.tuple #[]) ∧ w'.heap[b]? = some (.cells #[.int .u8 k, .bool m, .int .i64 (-1), .int .i64 s, v] 26 (0, 0)) ∧ AnSt X3 X6 G N (j + 1) w' ∧ KB (fun q => q = b ∨ q = X6) w w' := by
 obtain ⟨w0, rfl⟩ : ∃ w0, w0 = w := ⟨_, rfl⟩
 have hne1 : b ≠ X6 := obj_ne hb hS.h6 (by decide)
 have c3 : w0.cell? ⟨X3, 0, none⟩ = some (.slice (some ⟨G, 0, none⟩) N N) := blk_cell hS.h3 0
 have cg : w0.cell? ⟨G, j, none⟩ = some (.int .i64 (-1)) := by rw [blk_cell hS.hg, repC_at hj]
 have c6 : w0.cell? ⟨X6, 0, none⟩ = some (.int .i64 (j : Nat)) := blk_cell hS.h6 0
 have cb : w0.cell? ⟨b, 2, none⟩ = some (.int .i64 r) := blk_cell hb 2
 have fb := blk_frozen hb 2
 have f6 := blk_frozen hS.h6 0
 obtain ⟨w1, h1⟩ : ∃ w1, w1 = w0.setCell ⟨b, 2, none⟩ (.int .i64 (-1)) := ⟨_, rfl⟩
 have k1 : KB (fun q => q = b) w0 w1 := by rw [h1]; exact kb_set _ _ _ _
 have h61 := k1.heap (b := X6) (fun e => hne1 e.symm) hS.h6
 have d6 : w1.cell? ⟨X6, 0, none⟩ = some (.int .i64 (j : Nat)) := blk_cell h61 0
 have g6 := blk_frozen h61 0
 have hjI : (j : Int) < (N : Int) := by omega
 have hj0 : ¬ (j : Int) < 0 := by omega
 have HS := Lib.hid hS
 have HB := Lib.hid hb
 have H1 := Lib.hid h1
 have HK1 := Lib.hid (And.intro k1 (And.intro h61 hne1))
 clear hS hb h1 k1 h61 hne1
 go_enter Tryz.func113, Tryz.ntmps113
 go_upto_region 1 with fail
 rw [← H1.out]
 clear c3 cg c6 cb fb f6
 go_wp2_with fail
 go_end0
 have k2 := kb_set w1 X6 0 (.int .i64 ((j : Int) + 1))
 obtain ⟨k1, h61, hne⟩ := HK1.out
 have hb1 : w1.heap[b]? = some (.cells #[.int .u8 k, .bool m, .int .i64 (-1), .int .i64 s, v] 26 (0, 0)) := by rw [H1.out]; exact setCell_blk (i := 2) HB.out _
 refine ⟨rfl, k2.heap hne hb1, ⟨k2.heap (obj_ne HS.out.h3 HS.out.h6 (by decide)) (k1.heap (obj_ne HS.out.h3 HB.out (by decide)) HS.out.h3), k2.heap HS.out.ne (k1.heap (obj_ne HS.out.hg HB.out (by decide)) HS.out.hg), setCell_blk (i := 0) h61 _, HS.out.ne⟩, (k1.mono (fun q _ h => Or.inl h)).trans (k2.mono (fun q _ h => Or.inr h))⟩
theorem bareF_k (n : Nat) (t : Ty) : (bareF n t).k = t.k := by cases n <;> rfl
theorem bareF_m (n : Nat) (t : Ty) : (bareF n t).m = t.m := by cases n <;> rfl
theorem bareF_s (n : Nat) (t : Ty) : (bareF n t).s = t.s := by cases n <;> rfl
theorem bareF_len (n : Nat) (t : Ty) : (bareF n t).of.length = t.of.length := by
 cases n with
 | zero => rfl
 | succ n =>
  show (if t.of.length = 1 then [bareF n (in0 t)] else t.of).length = _
  split
  ·rename_i h; rw [h]; rfl
  ·rfl
theorem bareF_in {n : Nat} {t : Ty} (h : t.of.length = 1) : in0 (bareF (n + 1) t) = bareF n (in0 t) := by
 show (if t.of.length = 1 then [bareF n (in0 t)] else t.of).getD 0 ty0 = _
 rw [if_pos h]
 rfl
theorem bareF_r (n : Nat) (t : Ty) : (bareF (n + 1) t).r = if t.k = 4 then -1 else t.r := rfl
def AnEnd (n : Nat) (t : Ty) (b : Nat) (a : Option Addr) (c B U X3 X6 G N j : Nat) (w : World) (e : Ending) (w' : World) : Prop :=
 e = .returned (.tuple #[]) ∧ w'.heap[b]? = some (tyObj (bareF (n + 1) t) a c) ∧ OwnU n w' B U (bareF (n + 1) t) a c ∧ AnSt X3 X6 G N (j + (regsF (n + 1) t).length) w' ∧ KB (fun q => (q = b ∨ q = X6) ∨ (B ≤ q ∧ q < U)) w w'
theorem tyObj_bare {n : Nat} {t : Ty} {a : Option Addr} {c : Nat} (r : Int) (h : r = if t.k = 4 then -1 else t.r) : tyObj (bareF (n + 1) t) a c = .cells #[.int .u8 t.k, .bool t.m, .int .i64 r, .int .i64 t.s, .slice a t.of.length c] 26 (0, 0) := by
 unfold tyObj
 rw [bareF_k, bareF_m, bareF_s, bareF_len, bareF_r, h]
set_option maxRecDepth 100000 in
set_option maxHeartbeats 16000000 in
theorem anWalk_leaf (X3 X6 G N B : Nat) (hN : N ≤ 1000000) (n : Nat) (t : Ty) (b U j : Nat) (w : World) (h0 : t.of.length = 0) (hb : w.heap[b]? = some (tyObj t none 0)) (hj : j + (regsF (n + 1) t).length ≤ N) (hS : AnSt X3 X6 G N j w) :
  Calls Tryz.prog 90 #[.pointer (some ⟨b, 0, none⟩), .func (.func 113) #[] #[.pointer (some ⟨X3, 0, none⟩), .pointer (some ⟨X6, 0, none⟩)]] w (AnEnd n t b none 0 B U X3 X6 G N j w) := by
 obtain ⟨w1, rfl⟩ : ∃ w1, w1 = w := ⟨_, rfl⟩
 have hb0 : w1.heap[b]? = some (.cells #[.int .u8 t.k, .bool t.m, .int .i64 t.r, .int .i64 t.s, .slice none 0 0] 26 (0, 0)) := by rw [hb]; unfold tyObj; rw [h0]
 have c0 : w1.cell? ⟨b, 0, none⟩ = some (.int .u8 t.k) := blk_cell hb0 0
 have c4 : w1.cell? ⟨b, 4, none⟩ = some (.slice none 0 0) := blk_cell hb0 4
 have HO : Hid (∀ (W : World), OwnU n W B U (bareF (n + 1) t) none 0) := Lib.hid (fun W => OwnU.none (by rw [bareF_len]; exact h0))
 by_cases hk : t.k = 4
 ·have R1 := Lib.hid (anew2_any X3 X6 G N j b hN (by simp [regsF, hk] at hj; omega) w1 hS t.k t.m t.r t.s (.slice none 0 0) hb0)
  have HC : Hid (tyObj (bareF (n + 1) t) none 0 = .cells #[.int .u8 t.k, .bool t.m, .int .i64 (-1), .int .i64 t.s, .slice none 0 0] 26 (0, 0) ∧ (regsF (n + 1) t).length = 1) := Lib.hid ⟨by rw [tyObj_bare (-1) (by rw [if_pos hk]), h0], by simp [regsF, hk, h0]⟩
  rw [hk] at c0
  clear hb hj hS hb0 h0 hk
  go_enter Tryz.func90, Tryz.ntmps90
  go_wp2_with fail
  refine R1.out.mono ?_
  rintro e w2 ⟨rfl, h1, h2, h3⟩
  have H2 := Lib.hid (And.intro h1 (And.intro h2 h3))
  have d4 : w2.cell? ⟨b, 4, none⟩ = some (.slice none 0 0) := blk_cell h1 4
  clear h1 h2 h3 c0 c4
  go_wp2_with fail
  go_end0
  exact ⟨rfl, by rw [HC.out.1]; exact H2.out.1, HO.out _, by rw [HC.out.2]; exact H2.out.2.1, H2.out.2.2.mono (fun q _ h => Or.inl h)⟩
 ·have hk4 : (t.k == 4) = false := by simpa using hk
  have HC : Hid (tyObj (bareF (n + 1) t) none 0 = tyObj t none 0 ∧ (regsF (n + 1) t).length = 0) := Lib.hid ⟨by rw [tyObj_bare t.r (by rw [if_neg hk])], by simp [regsF, hk, h0]⟩
  have H2 := Lib.hid (And.intro hb hS)
  generalize t.k = k at c0 hk4
  clear hb hj hS hb0 h0 hk
  go_enter Tryz.func90, Tryz.ntmps90
  go_wp2_with fail
  go_end0
  exact ⟨rfl, by rw [HC.out.1]; exact H2.out.1, HO.out _, by rw [HC.out.2]; exact H2.out.2, KB.refl _ _⟩
set_option maxRecDepth 100000 in
set_option maxHeartbeats 16000000 in
theorem anWalk_any (X3 X6 G N B : Nat) (hN : N ≤ 1000000) : ∀ (n : Nat) (t : Ty) (b : Nat) (a : Option Addr) (c U j : Nat) (w : World), deepT n t = true → w.heap[b]? = some (tyObj t a c) → OwnU n w B U t a c → (b < B ∨ U ≤ b) → (X6 < B ∨ U ≤ X6) → j + (regsF (n + 1) t).length ≤ N → AnSt X3 X6 G N j w →
  Calls Tryz.prog 90 #[.pointer (some ⟨b, 0, none⟩), .func (.func 113) #[] #[.pointer (some ⟨X3, 0, none⟩), .pointer (some ⟨X6, 0, none⟩)]] w (AnEnd n t b a c B U X3 X6 G N j w) := by
 intro n
 induction n with
 | zero =>
  intro t b a c U j w hd hb ho hbB hxB hj hS
  obtain ⟨h0, rfl, rfl⟩ := ho
  exact anWalk_leaf X3 X6 G N B hN 0 t b U j w h0 hb hj hS
 | succ n ih =>
  intro t b a c U j w hd hb ho hbB hxB hj hS
  rcases ho with ⟨h0, rfl, rfl⟩ | ⟨h1, g, a', c', rfl, rfl, hBg, hgU, hg, hoi⟩
  ·exact anWalk_leaf X3 X6 G N B hN (n + 1) t b U j w h0 hb hj hS
  obtain ⟨m, hm, hdi⟩ := deep_in hd h1
  obtain rfl : n = m := by omega
  obtain ⟨w1, rfl⟩ : ∃ w1, w1 = w := ⟨_, rfl⟩
  have hb0 : w1.heap[b]? = some (.cells #[.int .u8 t.k, .bool t.m, .int .i64 t.r, .int .i64 t.s, .slice (some ⟨g, 0, none⟩) 1 1] 26 (0, 0)) := by rw [hb]; unfold tyObj; rw [h1]
  have c0 : w1.cell? ⟨b, 0, none⟩ = some (.int .u8 t.k) := blk_cell hb0 0
  have c4 : w1.cell? ⟨b, 4, none⟩ = some (.slice (some ⟨g, 0, none⟩) 1 1) := blk_cell hb0 4
  have hbX : b ≠ X6 := obj_ne hb0 hS.h6 (by decide)
  have hgX : g ≠ X6 := obj_ne hg hS.h6 (by decide)
  have HI : Hid (∀ (j' : Nat) (V : World), KB (fun q => q = b ∨ q = X6) w1 V → j' + (regsF (n + 1) (in0 t)).length ≤ N → AnSt X3 X6 G N j' V → Calls Tryz.prog 90 #[.pointer (some ⟨g, 0, none⟩), .func (.func 113) #[] #[.pointer (some ⟨X3, 0, none⟩), .pointer (some ⟨X6, 0, none⟩)]] V (AnEnd n (in0 t) g a' c' B g X3 X6 G N j' V)) := Lib.hid (fun j' V hV hj' hS' =>
   ih (in0 t) g a' c' g j' V hdi (hV.heap (by rintro (e | e) <;> omega) hg) (hoi.kb hV (fun k k1 k2 _ => by rintro (e | e) <;> omega)) (Or.inr (Nat.le_refl _)) (by omega) hj' hS')
  have HE : Hid (∀ (j' : Nat) (r : Int) (V V' : World) (e : Ending), r = (if t.k = 4 then -1 else t.r) → V.heap[b]? = some (.cells #[.int .u8 t.k, .bool t.m, .int .i64 r, .int .i64 t.s, .slice (some ⟨g, 0, none⟩) 1 1] 26 (0, 0)) → j' + (regsF (n + 1) (in0 t)).length = j + (regsF (n + 1 + 1) t).length → KB (fun q => q = b ∨ q = X6) w1 V → AnEnd n (in0 t) g a' c' B g X3 X6 G N j' V e V' → AnEnd (n + 1) t b (some ⟨g, 0, none⟩) 1 B U X3 X6 G N j w1 e V') := Lib.hid (fun j' r V V' e hr hbV hjj hkV h => by
   obtain ⟨he, hA, hO, hST, hK⟩ := h
   refine ⟨he, ?_, Or.inr ⟨by rw [bareF_len]; exact h1, g, a', c', rfl, rfl, hBg, hgU, by rw [bareF_in h1]; exact hA, by rw [bareF_in h1]; exact hO⟩, by rw [← hjj]; exact hST, ?_⟩
   ·rw [tyObj_bare r hr, h1]
    exact hK.heap (by rintro ((e | e) | ⟨e1, e2⟩) <;> omega) hbV
   ·refine (hkV.mono (fun q _ h => Or.inl h)).trans (hK.mono (fun q _ h => ?_))
    rcases h with (rfl | rfl) | ⟨e1, e2⟩
    ·exact Or.inr ⟨hBg, hgU⟩
    ·exact Or.inl (Or.inr rfl)
    ·exact Or.inr ⟨e1, by omega⟩)
  have hlen : (regsF (n + 1 + 1) t).length = (if t.k = 4 then 1 else 0) + (regsF (n + 1) (in0 t)).length := by
   rw [show regsF (n + 1 + 1) t = (if t.k = 4 then [t.r] else []) ++ (if t.of.length = 0 then [] else regsF (n + 1) (in0 t)) from rfl, if_neg (by omega : ¬ t.of.length = 0), List.length_append]
   split <;> rfl
  by_cases hk : t.k = 4
  ·rw [if_pos hk] at hlen
   have R1 := Lib.hid (anew2_any X3 X6 G N j b hN (by omega) w1 hS t.k t.m t.r t.s (.slice (some ⟨g, 0, none⟩) 1 1) hb0)
   have HJ : Hid (j + 1 + (regsF (n + 1) (in0 t)).length ≤ N ∧ j + 1 + (regsF (n + 1) (in0 t)).length = j + (regsF (n + 1 + 1) t).length) := Lib.hid ⟨by omega, by omega⟩
   have HR4 : Hid ((-1 : Int) = if t.k = 4 then -1 else t.r) := Lib.hid (by rw [if_pos hk])
   rw [hk] at c0
   clear hd hb hbB hxB hj hS hb0 h1 hk hlen hg hoi hdi hm ih hbX hgX
   go_enter Tryz.func90, Tryz.ntmps90
   go_wp2_with fail
   refine R1.out.mono ?_
   rintro e w2 ⟨rfl, h1, h2, h3⟩
   have H2 := Lib.hid (And.intro h1 (And.intro h2 h3))
   have d4 : w2.cell? ⟨b, 4, none⟩ = some (.slice (some ⟨g, 0, none⟩) 1 1) := blk_cell h1 4
   clear h1 h2 h3 c0 c4
   go_wp2_with fail
   refine (HI.out (j + 1) w2 H2.out.2.2 HJ.out.1 H2.out.2.1).mono ?_
   intro e w3 h3
   have H3 := Lib.hid (HE.out (j + 1) (-1) w2 w3 e HR4.out H2.out.1 HJ.out.2 H2.out.2.2 h3)
   obtain ⟨rfl, -⟩ := h3
   go_wp2_with fail
   go_end0
   exact H3.out
  ·rw [if_neg hk] at hlen
   have hk4 : (t.k == 4) = false := by simpa using hk
   have H2 := Lib.hid (And.intro hb0 hS)
   have HJ : Hid (j + (regsF (n + 1) (in0 t)).length ≤ N ∧ j + (regsF (n + 1) (in0 t)).length = j + (regsF (n + 1 + 1) t).length) := Lib.hid ⟨by omega, by omega⟩
   have HR4 : Hid (t.r = if t.k = 4 then -1 else t.r) := Lib.hid (by rw [if_neg hk])
   have H5 := Lib.hid (HE.out j t.r w1)
   clear HE
   have H6 : Hid (∀ (V' : World) (e : Ending), AnEnd n (in0 t) g a' c' B g X3 X6 G N j w1 e V' → AnEnd (n + 1) t b (some ⟨g, 0, none⟩) 1 B U X3 X6 G N j w1 e V') := Lib.hid (fun V' e h => H5.out V' e HR4.out H2.out.1 HJ.out.2 (KB.refl _ _) h)
   clear H5 HR4
   have H7 : Hid (AnSt X3 X6 G N j w1) := Lib.hid hS
   clear H2
   obtain ⟨k, hkk⟩ : ∃ k, k = t.k := ⟨_, rfl⟩
   rw [← hkk] at c0 hk4
   clear hd hb hbB hxB hj hS hb0 h1 hk hlen hg hoi hdi hm ih hbX hgX hkk
   go_enter Tryz.func90, Tryz.ntmps90
   go_wp2_with fail
   refine (HI.out j w1 (KB.refl _ _) HJ.out.1 H7.out).mono ?_
   intro e w3 h3
   have H3 := Lib.hid (H6.out w3 e h3)
   obtain ⟨rfl, -⟩ := h3
   go_wp2_with fail
   go_end0
   exact H3.out
end Go.Proofs.YtaeppaaolkcbbaaGreatDoor

/- awake's unit, in plain Lean: it may be, and what layout answers for it. loanwordlaw23's hand-made types, constants, unit. -/
import Derived.Test.YtaeppaaolkcbbaaGreatDoorMg18
import Derived.Test.YtaeppaaolkcbbaaGreatDoorMg44
namespace Go.Proofs.YtaeppaaolkcbbaaGreatDoor
open Go.RowKit

def awI : Ty := .mk 1 false 0 0 []
def awR : Ty := .mk 4 true (-1) 0 [awI]
def awB1 : Ty := .mk 3 false 0 0 [awI]
def awB : Ty := .mk 3 false 0 0 [awB1]
def awO0 : Opd := ⟨0, 0, ⟨0, []⟩⟩
def awP0 : Pt := ⟨4, ⟨2, []⟩, awO0, awO0, [], ⟨#[]⟩, ⟨1, []⟩, true, 0, 0, 1, 0, 0⟩
def awP1 : Pt := ⟨1, ⟨1, []⟩, ⟨1, 2, ⟨0, []⟩⟩, awO0, [], ⟨#[]⟩, ⟨0, []⟩, false, 0, 0, 2, 0, 0⟩
def awP2 : Pt := ⟨1, ⟨2, [-1]⟩, ⟨1, 3, ⟨0, []⟩⟩, awO0, [], ⟨#[]⟩, ⟨0, []⟩, false, 0, 0, 3, 0, 0⟩
def awP3 : Pt := ⟨14, ⟨0, []⟩, awO0, awO0, [], ⟨#[]⟩, ⟨0, []⟩, false, 0, 0, 0, 0, 0⟩
def awG : Gr := ⟨⟨#[]⟩, 0, [], 0, [awI, awI, awR, awB], [⟨#[]⟩, ⟨#[]⟩, ⟨#[]⟩, ⟨#[]⟩], [awP0, awP1, awP2, awP3]⟩
def awPl : Pl := ⟨2, [-1]⟩
theorem goodS_nil : GoodS [] := ⟨by decide, fun i h => by simp at h, fun i h => by simp at h, fun i h => by simp at h⟩
theorem aw_points : (awG.points.all fun p => pointB [] awG.locals [awG] awG.points.length p) = true := by kernel_rfl
theorem aw_regI : regX awI = [] := by kernel_rfl
theorem aw_regR : regX awR = [-1] := by kernel_rfl
theorem aw_regB : regX awB = [] := by kernel_rfl
theorem aw_look : ∀ t ∈ awG.locals, lookB 0 48 t = true := by
 have h : (awG.locals.all fun t => lookB 0 48 t) = true := by kernel_rfl
 exact List.all_eq_true.1 h
theorem aw_head : HeadP [] awG (0 : Nat) 0 := by
 refine ⟨⟨by decide, by decide, by decide, by decide, by decide, by decide, rfl⟩, fun i hi => ⟨⟨goodS_nil, aw_look _ (List.getElem_mem hi)⟩, ?_⟩, ⟨by decide, by decide⟩, ?_, by decide, Or.inr ⟨rfl, rfl, rfl⟩⟩
 ·have hi4 : i < 4 := hi
  obtain rfl | rfl | rfl | rfl : i = 0 ∨ i = 1 ∨ i = 2 ∨ i = 3 := by omega
  ·intro r hr
   have hr : r ∈ regX awI := hr
   rw [aw_regI] at hr
   cases hr
  ·intro r hr
   have hr : r ∈ regX awI := hr
   rw [aw_regI] at hr
   cases hr
  ·intro r hr
   have hr : r ∈ regX awR := hr
   rw [aw_regR] at hr
   simp only [List.mem_cons, List.not_mem_nil, or_false] at hr
   subst hr
   exact ⟨by decide, by decide⟩
  ·intro r hr
   have hr : r ∈ regX awB := hr
   rw [aw_regB] at hr
   cases hr
 ·exact ⟨⟨fun i h => by simp [awG] at h, fun i h => by simp [awG] at h⟩, fun a b ha hb => absurd ha (by show ¬ (a : Int) < 0; omega)⟩
theorem aw_unit : UnitP [] [awG] 0 where
 good := goodS_nil
 n1 := Nat.le_refl _
 n2 := by decide
 m1 := by decide
 m2 := by decide
 heads := fun k h => by
  obtain rfl : k = 0 := by simpa using h
  exact aw_head
 points := fun k h q hq => by
  obtain rfl : k = 0 := by simpa using h
  exact List.all_eq_true.1 aw_points _ (List.getElem_mem hq)
theorem meetN_leaf (S : List (List Ty)) (n : Nat) (t : Ty) (L : List Ty) (h : (bxF S 34 t 0).length = 0) : meetN S n t L = L := by
 cases n with
 | zero => rfl
 | succ n => unfold meetN; rw [if_pos (Or.inl h)]
theorem meetN_push (S : List (List Ty)) (n : Nat) (t : Ty) (L : List Ty) (h : ¬ ((bxF S 34 t 0).length = 0 ∨ (idxF L (keyB t)).isSome = true ∨ 4096 < L.length)) : meetN S (n + 1) t L = meetL (meetN S n) (bxF S 34 t 0) (L ++ [t]) := by
 show (if _ then L else _) = _
 rw [if_neg h]
theorem aw_bx : bxF [] 34 awB 0 = [(0, awB1)] := by kernel_rfl
theorem aw_bx1 : bxF [] 34 awB1 0 = [(0, awI)] := by kernel_rfl
theorem aw_key : idxF [awB] (keyB awB1) = none := by kernel_rfl
theorem aw_meet (n : Nat) : meetN [] (n + 2) awB [] = [awB, awB1] := by
 rw [meetN_push [] (n + 1) awB [] (by rw [aw_bx]; simp [idxF_nil]), aw_bx]
 simp only [meetL, List.foldl_cons, List.foldl_nil, List.nil_append]
 rw [meetN_push [] n awB1 [awB] (by rw [aw_bx1, aw_key]; simp), aw_bx1]
 simp only [meetL, List.foldl_cons, List.foldl_nil, List.cons_append, List.nil_append]
 rw [meetN_leaf [] n awI _ (by decide)]
theorem aw_of : ofL [] [awG] = [awB, awB1] := by
 have e : ofL [] [awG] = meetN [] 4098 awB (meetN [] 4098 awR (meetN [] 4098 awI (meetN [] 4098 awI []))) := by
  simp only [ofL, fnL, stL, loL, List.length_cons, List.length_nil, List.take_succ_cons, List.take_zero, List.foldl_cons, List.foldl_nil, awG, List.range_zero]
 rw [e, meetN_leaf [] 4098 awI [] (by decide), meetN_leaf [] 4098 awI [] (by decide), meetN_leaf [] 4098 awR [] (by decide)]
 exact aw_meet 4096
def awS : List ShpL := [(1, [(0, 0, 1)]), (1, [(0, 0, -1)])]
theorem aw_shapes : (ofL [] [awG]).map (shF [] (ofL [] [awG])) = awS := by
 rw [aw_of]
 kernel_rfl
theorem aw_may : mayS awS = true := by kernel_rfl
theorem aw_idx : idxF (ofL [] [awG]) (keyB awB1) = some 1 := by
 rw [aw_of]
 kernel_rfl
theorem aw_fr : frF [] awG = ([0, 1, 2, 3], 4) := by kernel_rfl
theorem aw_wk : wkP [] awG.locals awPl = some (awI, [2]) := by
 rw [wkP_pos ⟨⟨by decide, by decide⟩, by decide, goodS_nil, aw_look⟩]
 kernel_rfl
theorem aw_go : goF [] awR [-1] = [(0, true), (0, false)] := by kernel_rfl
theorem aw_fld : wsum [[awI, awI]] 34 0 1 = 1 := by kernel_rfl
theorem aw_fds {i : Nat} {f : Ty} (h : f ∈ fds [[awI, awI]] i) : f.k = 1 := by
 unfold fds at h
 rw [List.getD_eq_getElem?_getD] at h
 cases i with
 | zero =>
  simp only [List.getElem?_cons_zero, Option.getD_some, List.mem_cons, List.not_mem_nil, or_false, or_self] at h
  subst h
  rfl
 | succ i => simp at h
theorem aw_good2 : GoodS [[awI, awI]] := by
 refine ⟨by decide, fun i h => ?_, fun i h => ?_, fun i h => ?_⟩
 ·obtain rfl : i = 0 := by simpa using h
  kernel_rfl
 ·cases he : endB [[awI, awI]] i with
  | false => rfl
  | true =>
   have hr := endB_iff.1 he
   exfalso
   cases hr with
   | one hf hk => rw [aw_fds hf] at hk; cases hk
   | more _ hf hk => rw [aw_fds hf] at hk; cases hk
 ·obtain rfl : i = 0 := by simpa using h
  kernel_rfl

set_option maxRecDepth 100000 in
set_option maxHeartbeats 16000000 in
theorem lwI64_any (w : World) : Calls Tryz.prog 33 #[] w fun e w' => e = .returned (.agg #[.int .u8 1, .bool false, .int .i64 0, .int .i64 0, .slice none 0 0]) ∧ KB F0 w w' := by
 obtain ⟨w0, rfl⟩ : ∃ w0, w0 = w := ⟨_, rfl⟩
 have hb := alloc_new w0 (.cells #[.int .u8 0, .bool false, .int .i64 0, .int .i64 0, .slice none 0 0] 26)
 obtain ⟨W, hW⟩ : ∃ W, W = w0.alloc (.cells #[.int .u8 0, .bool false, .int .i64 0, .int .i64 0, .slice none 0 0] 26) := ⟨_, rfl⟩
 have hk : KB F0 w0 W := by rw [hW]; exact (KB.refl _ _).alloc _
 rw [← hW] at hb
 have y0 : W.cell? ⟨w0.heap.size, 0, none⟩ = some (.int .u8 0) := blk_cell hb 0
 have y1 : W.cell? ⟨w0.heap.size, 1, none⟩ = some (.bool false) := blk_cell hb 1
 have y2 : W.cell? ⟨w0.heap.size, 2, none⟩ = some (.int .i64 0) := blk_cell hb 2
 have y3 : W.cell? ⟨w0.heap.size, 3, none⟩ = some (.int .i64 0) := blk_cell hb 3
 have y4 : W.cell? ⟨w0.heap.size, 4, none⟩ = some (.slice none 0 0) := blk_cell hb 4
 have f0 := blk_frozen hb 0
 have f1 := blk_frozen hb 1
 have f2 := blk_frozen hb 2
 have f3 := blk_frozen hb 3
 have f4 := blk_frozen hb 4
 have HW := Lib.hid hW
 have HB := Lib.hid (And.intro hk hb)
 clear hW hk hb
 go_enter Tryz.func33, Tryz.ntmps33
 go_upto_region 1 with fail
 rw [← HW.out]
 go_wp2_with fail
 refine ret_ty1 (X := w0.heap.size) rfl rfl (set5_blk HB.out.2 (.int .u8 1) (.bool false) (.int .i64 0) (.int .i64 0) (.slice none 0 0)) rfl ?_
 exact ⟨rfl, set5_new HB.out.1 (Nat.le_refl _) _ _ _ _ _⟩
set_option maxRecDepth 100000 in
set_option maxHeartbeats 16000000 in
theorem lwRef_any (w : World) : Calls Tryz.prog 63 #[.bool true] w fun e w' => KB F0 w w' ∧ ∃ g, e = .returned (.agg #[.int .u8 4, .bool true, .int .i64 (-1), .int .i64 0, .slice (some ⟨g, 0, none⟩) 1 1]) ∧ w.heap.size ≤ g ∧ w'.heap[g]? = some (.cells #[.int .u8 1, .bool false, .int .i64 0, .int .i64 0, .slice none 0 0] 26 (0, 0)) := by
 obtain ⟨w0, rfl⟩ : ∃ w0, w0 = w := ⟨_, rfl⟩
 have hb := alloc_new w0 (.cells #[.int .u8 0, .bool false, .int .i64 0, .int .i64 0, .slice none 0 0] 26)
 obtain ⟨W, hW⟩ : ∃ W, W = w0.alloc (.cells #[.int .u8 0, .bool false, .int .i64 0, .int .i64 0, .slice none 0 0] 26) := ⟨_, rfl⟩
 have hk : KB F0 w0 W := by rw [hW]; exact (KB.refl _ _).alloc _
 rw [← hW] at hb
 have CI := Lib.hid (lwI64_any W)
 have HW := Lib.hid hW
 have HB := Lib.hid (And.intro hk hb)
 clear hW hk hb
 go_enter Tryz.func63, Tryz.ntmps63
 go_upto_region 1 with fail
 rw [← HW.out]
 go_wp2_with fail
 refine CI.out.mono ?_
 rintro e w1 ⟨rfl, k1⟩
 have hb := k1.heap (fun x => x) HB.out.2
 have y0 : w1.cell? ⟨w0.heap.size, 0, none⟩ = some (.int .u8 0) := blk_cell hb 0
 have y1 : w1.cell? ⟨w0.heap.size, 1, none⟩ = some (.bool false) := blk_cell hb 1
 have y2 : w1.cell? ⟨w0.heap.size, 2, none⟩ = some (.int .i64 0) := blk_cell hb 2
 have y3 : w1.cell? ⟨w0.heap.size, 3, none⟩ = some (.int .i64 0) := blk_cell hb 3
 have y4 : w1.cell? ⟨w0.heap.size, 4, none⟩ = some (.slice none 0 0) := blk_cell hb 4
 have f0 := blk_frozen hb 0
 have f1 := blk_frozen hb 1
 have f2 := blk_frozen hb 2
 have f3 := blk_frozen hb 3
 have f4 := blk_frozen hb 4
 have hlt := heap_lt hb
 have H2 := Lib.hid (And.intro (HB.out.1.trans k1) hb)
 have hsz1 := k1.size
 clear hb k1
 go_wp2_with fail
 have k2 := set5_new H2.out.1 (Nat.le_refl _) (.int .u8 4) (.bool true) (.int .i64 (-1)) (.int .i64 0) (.slice (some ⟨w1.heap.size, 0, none⟩) 1 1)
 have b2 := set5_blk H2.out.2 (.int .u8 4) (.bool true) (.int .i64 (-1)) (.int .i64 0) (.slice (some ⟨w1.heap.size, 0, none⟩) 1 1)
 have z2 : (set5 w1 w0.heap.size (.int .u8 4) (.bool true) (.int .i64 (-1)) (.int .i64 0) (.slice (some ⟨w1.heap.size, 0, none⟩) 1 1)).heap.size = w1.heap.size := by simp [set5]
 have k3 := (KB.refl F0 (set5 w1 w0.heap.size (.int .u8 4) (.bool true) (.int .i64 (-1)) (.int .i64 0) (.slice (some ⟨w1.heap.size, 0, none⟩) 1 1))).alloc (.cells #[.int .u8 1, .bool false, .int .i64 0, .int .i64 0, .slice none 0 0] 26)
 have b3 := alloc_new (set5 w1 w0.heap.size (.int .u8 4) (.bool true) (.int .i64 (-1)) (.int .i64 0) (.slice (some ⟨w1.heap.size, 0, none⟩) 1 1)) (.cells #[.int .u8 1, .bool false, .int .i64 0, .int .i64 0, .slice none 0 0] 26)
 rw [z2] at b3
 refine ret_ty1 (X := w0.heap.size) rfl rfl (k3.heap (fun x => x) b2) rfl ?_
 exact ⟨k2.trans k3, w1.heap.size, rfl, by omega, b3⟩
theorem ret_opd {fn : Func} {R : Ending → World → Prop} {a : Act} {w : World} {p X : Nat} {k n l : Int} {v : Value} (h : fn.results = #[.cell p 126]) (hp : a.tmps.getD p undef = .pointer (some ⟨X, 0, none⟩))
  (hc : w.heap[X]? = some (.cells #[.int .u8 k, .int .i64 n, .int .i64 l, v] 126 (0, 0))) (hd : a.defers = []) (hR : R (.returned (.agg #[.int .u8 k, .int .i64 n, .int .i64 l, v])) w) : bodyPost Tryz.prog fn R .ret a w := by
 refine bodyPost_ret (v := .agg #[.int .u8 k, .int .i64 n, .int .i64 l, v]) ?_ hd hR
 have hp' : a.tmps[p]?.getD undef = .pointer (some ⟨X, 0, none⟩) := by simpa using hp
 have c0 : w.cell? ⟨X, 0, none⟩ = some (.int .u8 k) := blk_cell hc 0
 have c1 : w.cell? ⟨X, 1, none⟩ = some (.int .i64 n) := blk_cell hc 1
 have c2 : w.cell? ⟨X, 2, none⟩ = some (.int .i64 l) := blk_cell hc 2
 have c3 : w.cell? ⟨X, 3, none⟩ = some v := blk_cell hc 3
 simp only [results, h]
 go_simp
set_option maxRecDepth 100000 in
set_option maxHeartbeats 16000000 in
theorem lwCon_any (n : Int) (w : World) : Calls Tryz.prog 64 #[.int .i64 n] w fun e w' => e = .returned (.agg #[.int .u8 1, .int .i64 n, .int .i64 0, .slice none 0 0]) ∧ KB F0 w w' := by
 obtain ⟨w0, rfl⟩ : ∃ w0, w0 = w := ⟨_, rfl⟩
 have hb := alloc_new w0 (.cells #[.int .u8 0, .int .i64 0, .int .i64 0, .slice none 0 0] 126)
 obtain ⟨W, hW⟩ : ∃ W, W = w0.alloc (.cells #[.int .u8 0, .int .i64 0, .int .i64 0, .slice none 0 0] 126) := ⟨_, rfl⟩
 have hk : KB F0 w0 W := by rw [hW]; exact (KB.refl _ _).alloc _
 rw [← hW] at hb
 have y0 : W.cell? ⟨w0.heap.size, 0, none⟩ = some (.int .u8 0) := blk_cell hb 0
 have y1 : W.cell? ⟨w0.heap.size, 1, none⟩ = some (.int .i64 0) := blk_cell hb 1
 have y2 : W.cell? ⟨w0.heap.size, 2, none⟩ = some (.int .i64 0) := blk_cell hb 2
 have y3 : W.cell? ⟨w0.heap.size, 3, none⟩ = some (.slice none 0 0) := blk_cell hb 3
 have f0 := blk_frozen hb 0
 have f1 := blk_frozen hb 1
 have f2 := blk_frozen hb 2
 have f3 := blk_frozen hb 3
 have HW := Lib.hid hW
 have HB := Lib.hid (And.intro hk hb)
 clear hW hk hb
 go_enter Tryz.func64, Tryz.ntmps64
 go_upto_region 1 with fail
 rw [← HW.out]
 go_wp2_with fail
 refine ret_opd (X := w0.heap.size) rfl rfl (setCell_blk (i := 3) (setCell_blk (i := 2) (setCell_blk (i := 1) (setCell_blk (i := 0) HB.out.2 (.int .u8 1)) (.int .i64 n)) (.int .i64 0)) (.slice none 0 0)) rfl ?_
 exact ⟨rfl, kb_new (kb_new (kb_new (kb_new HB.out.1 (Nat.le_refl _) 0 _) (Nat.le_refl _) 1 _) (Nat.le_refl _) 2 _) (Nat.le_refl _) 3 _⟩
abbrev awCi : Array Value := #[.int .u8 1, .bool false, .int .i64 0, .int .i64 0, .slice none 0 0]
abbrev awCr (g : Nat) : Array Value := #[.int .u8 4, .bool true, .int .i64 (-1), .int .i64 0, .slice (some ⟨g, 0, none⟩) 1 1]
abbrev awCo (n : Int) : Value := .agg #[.int .u8 1, .int .i64 n, .int .i64 0, .slice none 0 0]
abbrev awCp (Q : Nat) : List Value := [
 .int .u8 4, .int .i64 2, .slice none 0 0, .int .u8 0, .int .i64 0, .int .i64 0, .slice none 0 0, .int .u8 0, .int .i64 0, .int .i64 0, .slice none 0 0, .slice none 0 0, .string ⟨#[]⟩, .int .i64 1, .slice none 0 0, .bool true, .int .i64 0, .int .i64 0, .int .i64 1, .int .i64 0, .int .i64 0,
 .int .u8 1, .int .i64 1, .slice none 0 0, .int .u8 1, .int .i64 2, .int .i64 0, .slice none 0 0, .int .u8 0, .int .i64 0, .int .i64 0, .slice none 0 0, .slice none 0 0, .string ⟨#[]⟩, .int .i64 0, .slice none 0 0, .bool false, .int .i64 0, .int .i64 0, .int .i64 2, .int .i64 0, .int .i64 0,
 .int .u8 1, .int .i64 2, .slice (some ⟨Q, 0, none⟩) 1 1, .int .u8 1, .int .i64 3, .int .i64 0, .slice none 0 0, .int .u8 0, .int .i64 0, .int .i64 0, .slice none 0 0, .slice none 0 0, .string ⟨#[]⟩, .int .i64 0, .slice none 0 0, .bool false, .int .i64 0, .int .i64 0, .int .i64 3, .int .i64 0, .int .i64 0,
 .int .u8 14, .int .i64 0, .slice none 0 0, .int .u8 0, .int .i64 0, .int .i64 0, .slice none 0 0, .int .u8 0, .int .i64 0, .int .i64 0, .slice none 0 0, .slice none 0 0, .string ⟨#[]⟩, .int .i64 0, .slice none 0 0, .bool false, .int .i64 0, .int .i64 0, .int .i64 0, .int .i64 0, .int .i64 0]
def AwRv (v : Value) : Prop := ∃ g, v = .agg (awCr g)
def AwRw (B : Nat) (v : Value) (w : World) : Prop := ∃ g, v = .agg (awCr g) ∧ B ≤ g ∧ w.heap[g]? = some (.cells awCi 26 (0, 0))
def AwLw (B : Nat) (v : Value) (w : World) : Prop := ∃ g, B ≤ g ∧ w.heap[g]? = some (.cells awCi 26 (0, 0)) ∧ RowNAt B 3 (awCi ++ awCi ++ awCr g) 26 v w
abbrev awCn : Array Value := #[.string ⟨#[]⟩, .string ⟨#[]⟩, .string ⟨#[]⟩]
def AwFw (B Q : Nat) (v : Value) (w : World) : Prop := ∃ L N P, RowNAt B 1 #[.string ⟨#[]⟩, .int .i64 0, .slice none 0 0, .int .i64 0, .slice (some ⟨L, 0, none⟩) 3 3, .slice (some ⟨N, 0, none⟩) 3 3, .slice (some ⟨P, 0, none⟩) 4 4] 88 v w ∧
 AwLw B (.slice (some ⟨L, 0, none⟩) 3 3) w ∧ RowNAt B 3 awCn 9 (.slice (some ⟨N, 0, none⟩) 3 3) w ∧ RowNAt B 4 (awCp Q).toArray 129 (.slice (some ⟨P, 0, none⟩) 4 4) w
theorem lasts_awL (B : Nat) : Lasts (AwLw B) := fun v a b hG ⟨g, h1, h2, h3⟩ => ⟨g, h1, hG.heap (fun x => x) h2, lasts_rowN _ _ _ _ v a b hG h3⟩
theorem lasts_awF (B Q : Nat) : Lasts (AwFw B Q) := fun v a b hG ⟨L, N, P, h1, h2, h3, h4⟩ => ⟨L, N, P, lasts_rowN _ _ _ _ v a b hG h1, lasts_awL _ _ a b hG h2, lasts_rowN _ _ _ _ _ a b hG h3, lasts_rowN _ _ _ _ _ a b hG h4⟩
theorem rowN_old {B B' k : Nat} {cs : Array Value} {t : TypeId} {v : Value} {w w' : World} {S : Nat → Prop} (h : RowNAt B k cs t v w) (hk : KB S w w') (hS : ∀ q, B ≤ q → ¬ S q) (hB : B' ≤ B) : RowNAt B' k cs t v w' := by
 obtain ⟨nb, h1, h2, h3⟩ := h
 exact ⟨nb, h1, by omega, hk.heap (hS nb h2) h3⟩
theorem AwFw.old {B B' Q : Nat} {v : Value} {w w' : World} {S : Nat → Prop} (h : AwFw B Q v w) (hk : KB S w w') (hS : ∀ q, B ≤ q → ¬ S q) (hB : B' ≤ B) : AwFw B' Q v w' := by
 obtain ⟨L, N, P, h1, ⟨g, h2, h3, h4⟩, h5, h6⟩ := h
 exact ⟨L, N, P, rowN_old h1 hk hS hB, ⟨g, by omega, hk.heap (hS g h2) h3, rowN_old h4 hk hS hB⟩, rowN_old h5 hk hS hB, rowN_old h6 hk hS hB⟩
def HandEnd (w : World) (e : Ending) (w' : World) : Prop := KB F0 w w' ∧ ∃ F Q, e = .returned (.agg #[.slice none 0 0, .slice (some ⟨F, 0, none⟩) 1 1, .int .i64 0]) ∧ w.heap.size ≤ Q ∧ w'.heap[Q]? = some (.cells #[.int .i64 (-1)] 92 (0, 0)) ∧ AwFw w.heap.size Q (.slice (some ⟨F, 0, none⟩) 1 1) w'
theorem ret_unit {fn : Func} {R : Ending → World → Prop} {a : Act} {w : World} {p X : Nat} {v0 v1 v2 : Value} (h : fn.results = #[.cell p 49]) (hp : a.tmps.getD p undef = .pointer (some ⟨X, 0, none⟩))
  (hc : w.heap[X]? = some (.cells #[v0, v1, v2] 49 (0, 0))) (hd : a.defers = []) (hR : R (.returned (.agg #[v0, v1, v2])) w) : bodyPost Tryz.prog fn R .ret a w := by
 refine bodyPost_ret (v := .agg #[v0, v1, v2]) ?_ hd hR
 have hp' : a.tmps[p]?.getD undef = .pointer (some ⟨X, 0, none⟩) := by simpa using hp
 have c0 : w.cell? ⟨X, 0, none⟩ = some v0 := blk_cell hc 0
 have c1 : w.cell? ⟨X, 1, none⟩ = some v1 := blk_cell hc 1
 have c2 : w.cell? ⟨X, 2, none⟩ = some v2 := blk_cell hc 2
 simp only [results, h]
 go_simp
theorem Tryz.infoStr6 : (Tryz.prog.info? 9).map (fun i => (i.zero, i.size, i.bytes)) = some (some (.string ⟨#[]⟩), 1, 16) := by kernel_rfl
theorem Tryz.underlying85' : Tryz.prog.underlying 85 = some (.slice 9) := by kernel_rfl
theorem make_strs3 (w : World) : (Instr.makeSlice 85 (.int .i64 3) (.int .i64 3)).run Tryz.prog w = .ok (.slice (some ⟨w.heap.size, 0, none⟩) 3 3) (w.alloc (.cells awCn 9)) := by
 obtain ⟨i, hi, hz0, hz1, hz2⟩ := info_parts Tryz.infoStr6
 have h := run_makeSlice (P := Tryz.prog) (w := w) 85 9 i _ Tryz.underlying85' hi hz0 .i64 .i64 3 3 (by decide) (by decide) (by rw [hz1]; decide) (by rw [hz2]; decide) (by decide)
 have e : madeCells (Value.string ⟨#[]⟩).cells 3 = awCn := by
  apply Array.ext
  ·unfold madeCells; simp
  ·intro j h1 h2
   have hj : j < 3 := h2
   unfold madeCells
   obtain rfl | rfl | rfl : j = 0 ∨ j = 1 ∨ j = 2 := by omega
   all_goals simp [Value.cells]
 rw [h, hz1, show (Int.toNat 3 * 1 : Nat) = 3 from rfl, e]
 rfl
theorem lasts_awR (B : Nat) : Lasts (AwRw B) := fun _ _ _ hG ⟨g, h1, h2, h3⟩ => ⟨g, h1, h2, hG.heap (fun x => x) h3⟩
set_option maxRecDepth 100000 in
set_option maxHeartbeats 64000000 in
theorem lwHand_any (w : World) : Calls Tryz.prog 34 #[] w (HandEnd w) := by
 obtain ⟨w0, rfl⟩ : ∃ w0, w0 = w := ⟨_, rfl⟩
 have hb := alloc_new w0 (.cells #[.slice none 0 0, .slice none 0 0, .int .i64 0] 49)
 obtain ⟨W, hW⟩ : ∃ W, W = w0.alloc (.cells #[.slice none 0 0, .slice none 0 0, .int .i64 0] 49) := ⟨_, rfl⟩
 have hk : KB F0 w0 W := by rw [hW]; exact (KB.refl _ _).alloc _
 rw [← hW] at hb
 have HW := Lib.hid hW
 have HB := Lib.hid (And.intro hk hb)
 clear hW hk hb
 go_enter Tryz.func34, Tryz.ntmps34
 go_upto_region 1 with fail
 rw [← HW.out]
 go_upto_region 2 with fail
 obtain ⟨W1, hW1⟩ : ∃ x, x = W.alloc (.cells #[.int .i64 (-1)] 92) := ⟨_, rfl⟩
 have k1 : KB F0 W W1 := by rw [hW1]; exact (KB.refl _ _).alloc _
 have b1 : W1.heap[W.heap.size]? = some (.cells #[.int .i64 (-1)] 92 (0, 0)) := by rw [hW1]; exact alloc_new _ _
 have z1 : W1.heap.size = W.heap.size + 1 := by rw [hW1]; simp
 rw [← hW1]
 obtain ⟨W2, hW2⟩ : ∃ x, x = W1.alloc (.cells #[.int .i64 2, .slice (some ⟨W.heap.size, 0, none⟩) 1 1] 52) := ⟨_, rfl⟩
 have k2 : KB F0 W1 W2 := by rw [hW2]; exact (KB.refl _ _).alloc _
 have b2 : W2.heap[W.heap.size + 1]? = some (.cells #[.int .i64 2, .slice (some ⟨W.heap.size, 0, none⟩) 1 1] 52 (0, 0)) := by rw [hW2, ← z1]; exact alloc_new _ _
 rw [← hW2]
 obtain ⟨Q, hQ⟩ : ∃ n, n = W.heap.size := ⟨_, rfl⟩
 have hQlo : w0.heap.size ≤ Q := by rw [hQ]; exact HB.out.1.size
 have c2 : W2.cell? ⟨Q + 1, 0, none⟩ = some (.int .i64 2) := by rw [hQ]; exact blk_cell b2 0
 have c3 : W2.cell? ⟨Q + 1, 1, none⟩ = some (.slice (some ⟨Q, 0, none⟩) 1 1) := by rw [hQ]; exact blk_cell b2 1
 have H2 := Lib.hid (And.intro (k1.trans k2) (And.intro (k2.heap (fun x => x) b1) ((k1.trans k2).heap (fun x => x) HB.out.2)))
 rw [← hQ] at H2 ⊢
 clear hW1 hW2 k1 k2 b1 b2 z1 hQ
 obtain ⟨B, hB⟩ : ∃ n, n = W2.heap.size := ⟨_, rfl⟩
 have HBz := Lib.hid hB
 have MS := Lib.hid make_strs3
 refine wp_region_rv 19 GK (kindW [(0, (fun v => v = .agg awCi), (fun _ _ => True)), (1, (fun v => v = .agg awCi), (fun _ _ => True)), (2, AwRv, AwRw B), (3, RowN B 3, AwLw B), (4, RowN B 3, RowNAt B 3 awCn 9), (9, (fun v => v = awCo 2), (fun _ _ => True)), (12, (fun v => v = awCo 3), (fun _ _ => True)), (15, RowN B 4, RowNAt B 4 (awCp Q).toArray 129), (17, RowN B 1, AwFw B Q)]) (by kernel_rfl) (by kernel_rfl) (kb_trans _) (kb_refl _) (kb_start _ _) (kindW_mono _ (by intro p hp; simp only [List.mem_cons, List.not_mem_nil, or_false] at hp; rcases hp with rfl | rfl | rfl | rfl | rfl | rfl | rfl | rfl | rfl <;> first | exact lasts_true | exact lasts_awR _ | exact lasts_awL _ | exact lasts_rowN _ _ _ _ | exact lasts_awF _ _)) ?_
 simp only [pT, pU, pV, pW]
 refine rv_rel (by kernel_rfl) rfl ⟨_, rfl⟩ (by
  intro w hG hH
  refine opVal_call (by go_simp; first | done | exact ⟨⟨rfl, rfl⟩, rfl⟩) ?_
  refine (lwI64_any w).mono ?_
  rintro e w' ⟨rfl, hq⟩
  exact ⟨_, rfl, rfl, by first | (obtain ⟨nq, rfl⟩ := hq; exact (KB.refl _ _).drewN _) | (subst hq; exact KB.refl _ _) | exact hq, trivial⟩) ?_
 rintro v rfl
 simp only [Act.put, pA, pZ, pS]
 refine rv_rel (by kernel_rfl) rfl ⟨_, rfl⟩ (by
  intro w hG hH
  refine opVal_call (by go_simp; first | done | exact ⟨⟨rfl, rfl⟩, rfl⟩) ?_
  refine (lwI64_any w).mono ?_
  rintro e w' ⟨rfl, hq⟩
  exact ⟨_, rfl, rfl, by first | (obtain ⟨nq, rfl⟩ := hq; exact (KB.refl _ _).drewN _) | (subst hq; exact KB.refl _ _) | exact hq, trivial⟩) ?_
 rintro v rfl
 simp only [Act.put, pA, pZ, pS]
 refine rv_rel (by kernel_rfl) rfl ⟨_, 0, rfl⟩ (by
  intro w hG hH
  refine opVal_call (by go_simp; first | done | exact ⟨⟨rfl, rfl⟩, rfl⟩) ?_
  refine (lwRef_any w).mono ?_
  rintro e w' ⟨k, g, rfl, hlo, hg⟩
  exact ⟨_, rfl, ⟨g, rfl⟩, k, ⟨g, rfl, by rw [HBz.out]; exact Nat.le_trans hG.size hlo, hg⟩⟩) ?_
 rintro v ⟨gR, rfl⟩
 simp only [Act.put, pA, pZ, pS]
 refine rv_rel (by kernel_rfl) rfl (rowN_ex _ _) (fun w hG hH => by
  obtain ⟨g', e1, e2, e3⟩ := hH (2, fun w => AwRw B (.agg (awCr gR)) w) List.mem_cons_self (by kernel_rfl)
  have hg : g' = gR := by
   simp only [Value.agg.injEq, Array.mk.injEq, List.cons.injEq, Value.slice.injEq, Option.some.injEq, Addr.mk.injEq, and_true, true_and] at e1
   exact e1.symm
  subst hg
  refine A2.opVal_imp (opVal_rowN (cs := awCi ++ awCi ++ awCr g') (t := 26) hG (by go_simp; first | done | rfl)) ?_
  rintro v w' ⟨h1, h2, h3⟩
  rw [← HBz.out] at h1 h3
  exact ⟨h1, h2, g', e2, h2.heap (fun x => x) e3, h3⟩) ?_
 rintro v ⟨gL, rfl, -⟩
 simp only [Act.put, pA, pZ, pS]
 refine rv_rel (by kernel_rfl) rfl (rowN_ex _ _) (fun w hG hH => by
  rw [HBz.out]
  exact opVal_rowN (cs := awCn) (t := 9) hG (by have h := MS.out w; go_simp; first | done | rfl)) ?_
 rintro v ⟨gN, rfl, -⟩
 simp only [Act.put, pA, pZ, pS]
 iterate 4 (refine rv_det (by kernel_rfl) rfl (by intro w hG hH; go_simp; first | done | with_reducible rfl) ?_; simp only [Act.put, pA, pZ, pS])
 refine rv_rel (by kernel_rfl) rfl ⟨_, rfl⟩ (by
  intro w hG hH
  refine opVal_call (by go_simp; first | done | exact ⟨⟨rfl, rfl⟩, rfl⟩) ?_
  refine (lwCon_any 2 w).mono ?_
  rintro e w' ⟨rfl, hq⟩
  exact ⟨_, rfl, rfl, by first | (obtain ⟨nq, rfl⟩ := hq; exact (KB.refl _ _).drewN _) | (subst hq; exact KB.refl _ _) | exact hq, trivial⟩) ?_
 rintro v rfl
 simp only [Act.put, pA, pZ, pS]
 refine rv_det (by kernel_rfl) rfl (by intro w hG hH; go_simp; first | done | with_reducible rfl) ?_
 simp only [Act.put, pA, pZ, pS]
 refine rv_det (by kernel_rfl) rfl (by intro w hG hH; have hc0 := kc hG (c2); have hc1 := kc hG (c3); go_simp; first | done | with_reducible rfl) ?_
 simp only [Act.put, pA, pZ, pS]
 refine rv_rel (by kernel_rfl) rfl ⟨_, rfl⟩ (by
  intro w hG hH
  refine opVal_call (by go_simp; first | done | exact ⟨⟨rfl, rfl⟩, rfl⟩) ?_
  refine (lwCon_any 3 w).mono ?_
  rintro e w' ⟨rfl, hq⟩
  exact ⟨_, rfl, rfl, by first | (obtain ⟨nq, rfl⟩ := hq; exact (KB.refl _ _).drewN _) | (subst hq; exact KB.refl _ _) | exact hq, trivial⟩) ?_
 rintro v rfl
 simp only [Act.put, pA, pZ, pS]
 iterate 2 (refine rv_det (by kernel_rfl) rfl (by intro w hG hH; go_simp; first | done | with_reducible rfl) ?_; simp only [Act.put, pA, pZ, pS])
 refine rv_rel (by kernel_rfl) rfl (rowN_ex _ _) (fun w hG hH => by
  rw [HBz.out]
  exact opVal_rowN (cs := (awCp Q).toArray) (t := 129) hG (by go_simp; first | done | rfl)) ?_
 rintro v ⟨gP, rfl, -⟩
 simp only [Act.put, pA, pZ, pS]
 refine rv_det (by kernel_rfl) rfl (by intro w hG hH; go_simp; first | done | with_reducible rfl) ?_
 simp only [Act.put, pA, pZ, pS]
 refine rv_rel (by kernel_rfl) rfl (rowN_ex _ _) (fun w hG hH => by
  have hL := hH (3, fun w => AwLw B (.slice (some ⟨gL, 0, none⟩) 3 3) w) (by simp) (by kernel_rfl)
  have hN := hH (4, fun w => RowNAt B 3 awCn 9 (.slice (some ⟨gN, 0, none⟩) 3 3) w) (by simp) (by kernel_rfl)
  have hP := hH (15, fun w => RowNAt B 4 (awCp Q).toArray 129 (.slice (some ⟨gP, 0, none⟩) 4 4) w) (by simp) (by kernel_rfl)
  refine A2.opVal_imp (opVal_rowN (cs := #[.string ⟨#[]⟩, .int .i64 0, .slice none 0 0, .int .i64 0, .slice (some ⟨gL, 0, none⟩) 3 3, .slice (some ⟨gN, 0, none⟩) 3 3, .slice (some ⟨gP, 0, none⟩) 4 4]) (t := 88) hG (by go_simp; first | done | rfl)) ?_
  rintro v w' ⟨h1, h2, h3⟩
  rw [← HBz.out] at h1 h3
  exact ⟨h1, h2, gL, gN, gP, h3, lasts_awL _ _ _ _ h2 hL, lasts_rowN _ _ _ _ _ _ _ h2 hN, lasts_rowN _ _ _ _ _ _ _ h2 hP⟩) ?_
 rintro v ⟨gF, rfl, -⟩
 simp only [Act.put, pA, pZ, pS]
 refine rv_det (by kernel_rfl) rfl (by intro w hG hH; go_simp; first | done | with_reducible rfl) ?_
 simp only [Act.put, pA, pZ, pS]
 refine rv_nil (fun w hG hH => ?_)
 have hF := hH (17, fun w => AwFw B Q (.slice (some ⟨gF, 0, none⟩) 1 1) w) (by simp)
 obtain ⟨w5, rfl⟩ : ∃ x, x = w := ⟨_, rfl⟩
 have hb5 := hG.heap (fun x => x) H2.out.2.2
 have u0 : w5.cell? ⟨w0.heap.size, 0, none⟩ = some (.slice none 0 0) := blk_cell hb5 0
 have u1 : w5.cell? ⟨w0.heap.size, 1, none⟩ = some (.slice none 0 0) := blk_cell hb5 1
 have u2 : w5.cell? ⟨w0.heap.size, 2, none⟩ = some (.int .i64 0) := blk_cell hb5 2
 have f0 := blk_frozen hb5 0
 have f1 := blk_frozen hb5 1
 have f2 := blk_frozen hb5 2
 have hlt := heap_lt H2.out.2.2
 have HF := Lib.hid (And.intro (HB.out.1.trans (H2.out.1.trans hG)) (And.intro hb5 (And.intro (hG.heap (fun x => x) H2.out.2.1) hF)))
 clear hG hH hF hb5 c2 c3
 go_wp2_with fail
 obtain ⟨g1, g2, g3, g4⟩ := HF.out
 have ks := ((kb_set w5 w0.heap.size 0 (.slice none 0 0)).trans (kb_set _ w0.heap.size 1 (.slice (some ⟨gF, 0, none⟩) 1 1))).trans (kb_set _ w0.heap.size 2 (.int .i64 0))
 refine ret_unit (X := w0.heap.size) rfl rfl (setCell_blk (i := 2) (setCell_blk (i := 1) (setCell_blk (i := 0) g2 (.slice none 0 0)) (.slice (some ⟨gF, 0, none⟩) 1 1)) (.int .i64 0)) rfl ?_
 exact ⟨kb_new (kb_new (kb_new g1 (Nat.le_refl _) 0 _) (Nat.le_refl _) 1 _) (Nat.le_refl _) 2 _, gF, Q, rfl, hQlo, ks.heap (fun e => obj_ne g3 g2 (by decide) e) g3, g4.old ks (fun q hq e => by have := HBz.out; omega) (by have := HBz.out; omega)⟩
end Go.Proofs.YtaeppaaolkcbbaaGreatDoor

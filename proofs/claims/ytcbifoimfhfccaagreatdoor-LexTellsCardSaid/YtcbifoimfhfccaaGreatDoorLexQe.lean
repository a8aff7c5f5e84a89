/- The functions that join asks: Join's, Tight's, and whether all may be. -/
import Derived.Test.YtcbifoimfhfccaaGreatDoorLexQd
import Derived.Test.YtcbifoimfhfccaaGreatDoorLexV
namespace Go.Proofs.YtcbifoimfhfccaaGreatDoor
open Go.RowKit

/-- A slice of n elements that was just laid. -/
def RowN (n B : Nat) (v : Value) : Prop := ∃ nb, v = .slice (some ⟨nb, 0, none⟩) n n ∧ B ≤ nb
def RowNAt (n B : Nat) (cs : Array Value) (t : TypeId) (v : Value) (w : World) : Prop := ∃ nb, v = .slice (some ⟨nb, 0, none⟩) n n ∧ B ≤ nb ∧ w.heap[nb]? = some (.cells cs t (0, 0))
theorem lasts_rowN (n B : Nat) (cs : Array Value) (t : TypeId) : Lasts (RowNAt n B cs t) := fun _ _ _ hG ⟨nb, h1, h2, h3⟩ => ⟨nb, h1, h2, hG.heap (fun x => x) h3⟩
theorem opVal_rowN {P : Program} {o : Oper} {a : Act} {w w0 : World} {n : Nat} {cs : Array Value} {t : TypeId} (hG : GK w0 w)
    (hr : (execOp a.eval o).run P w = .ok (.value (.slice (some ⟨w.heap.size, 0, none⟩) n n)) (w.alloc (.cells cs t))) :
    OpVal P o a w (fun v w' => RowN n w0.heap.size v ∧ GK w w' ∧ RowNAt n w0.heap.size cs t v w') :=
  opVal_value hr ⟨⟨_, rfl, hG.size⟩, (KB.refl _ w).alloc _, ⟨_, rfl, hG.size, alloc_new w _⟩⟩
theorem toksAt_two {w : World} {g : Nat} {x y : Tk} (h : w.heap[g]? = some (.cells (tkC x ++ tkC y) 27 (0, 0))) : ToksAt w (some ⟨g, 0, none⟩) [x, y] := by
  intro k hk
  have hk2 : k < 2 := hk
  have hc : k = 0 ∨ k = 1 := by omega
  rcases hc with rfl | rfl
  · exact ⟨g, 0, rfl, blk_cell h 0, blk_cell h 1, blk_cell h 2, blk_cell h 3⟩
  · exact ⟨g, 0, rfl, blk_cell h 4, blk_cell h 5, blk_cell h 6, blk_cell h 7⟩
set_option maxRecDepth 100000 in
theorem join1_any (x y : Tk) (w : World) : Calls Tryz.prog 26 #[.agg (tkC x), .agg (tkC y)] w fun e w' => e = .returned (.bool (allAp x y)) ∧ KB F0 w w' := by
  rw [show tkC x = #[.int .u8 (x.k : Nat), .int .i64 x.at_, .int .i64 x.n, .string x.s] from rfl, show tkC y = #[.int .u8 (y.k : Nat), .int .i64 y.at_, .int .i64 y.n, .string y.s] from rfl]
  go_enter Tryz.func26, Tryz.ntmps26
  go_wp2_with fail
  go_ret
  exact ⟨rfl, ((KB.refl F0 w).alloc _).alloc _⟩
set_option maxRecDepth 100000 in
theorem join0_any (t : Tk) (hn : Num64 t) (w : World) (hT : Tab w) : Calls Tryz.prog 41 #[.agg (tkC t)] w fun e w' => e = .returned (.bool (!mayS t)) ∧ KB F0 w w' := by
  obtain ⟨w0, rfl⟩ : ∃ w0, w0 = w := ⟨_, rfl⟩
  have MY := Lib.hid (fun (W : World) (hk : KB F0 w0 W) => may_any t hn W (hT.kb hk))
  generalize mayS t = q at MY ⊢
  unfold tkC at MY ⊢
  clear hn hT
  go_enter Tryz.func41, Tryz.ntmps41
  go_wp2_with fail
  refine (MY.out _ ((KB.refl F0 w0).alloc _)).mono ?_
  rintro e w' ⟨rfl, hk⟩
  have K := Lib.hid (((KB.refl F0 w0).alloc _).trans hk)
  clear hk MY
  go_wp2_with fail
  go_ret
  exact ⟨rfl, K.out⟩
set_option maxRecDepth 100000 in
set_option maxHeartbeats 8000000 in
theorem tight1_any (x y : Tk) (hx : Num64 x) (hy : Num64 y) (hz : (textS x).size + (textS y).size ≤ 1000000000) (w : World) (hT : Tab w) : Calls Tryz.prog 28 #[.agg (tkC x), .agg (tkC y)] w fun e w' => e = .returned (.bool (tightAp x y)) ∧ KB F0 w w' := by
  obtain ⟨w0, rfl⟩ : ∃ w0, w0 = w := ⟨_, rfl⟩
  obtain ⟨W1, hW1⟩ : ∃ W1, W1 = w0.alloc (.cells (tkC x) 27) := ⟨_, rfl⟩
  obtain ⟨W2, hW2⟩ : ∃ W2, W2 = W1.alloc (.cells (tkC y) 27) := ⟨_, rfl⟩
  have hs1 : W1.heap.size = w0.heap.size + 1 := by rw [hW1]; simp
  have h1 : W2.heap[w0.heap.size]? = some (.cells (tkC x) 27 (0, 0)) := by
    rw [hW2]
    exact ((KB.refl F0 W1).alloc _).heap (fun h => h) (by rw [hW1]; exact alloc_new _ _)
  have h2 : W2.heap[w0.heap.size + 1]? = some (.cells (tkC y) 27 (0, 0)) := by
    rw [hW2, ← hs1]
    exact alloc_new _ _
  have x0 : W2.cell? ⟨w0.heap.size, 0, none⟩ = some (.int .u8 (x.k : Nat)) := blk_cell h1 0
  have x1 : W2.cell? ⟨w0.heap.size, 1, none⟩ = some (.int .i64 x.at_) := blk_cell h1 1
  have x2 : W2.cell? ⟨w0.heap.size, 2, none⟩ = some (.int .i64 x.n) := blk_cell h1 2
  have x3 : W2.cell? ⟨w0.heap.size, 3, none⟩ = some (.string x.s) := blk_cell h1 3
  have y0 : W2.cell? ⟨w0.heap.size + 1, 0, none⟩ = some (.int .u8 (y.k : Nat)) := blk_cell h2 0
  have y1 : W2.cell? ⟨w0.heap.size + 1, 1, none⟩ = some (.int .i64 y.at_) := blk_cell h2 1
  have y2 : W2.cell? ⟨w0.heap.size + 1, 2, none⟩ = some (.int .i64 y.n) := blk_cell h2 2
  have y3 : W2.cell? ⟨w0.heap.size + 1, 3, none⟩ = some (.string y.s) := blk_cell h2 3
  have KW : Hid (KB F0 w0 W2) := Lib.hid (by rw [hW2, hW1]; exact ((KB.refl F0 w0).alloc _).alloc _)
  have TX := Lib.hid (fun (W : World) (hk : KB F0 w0 W) => text_any x hx W (hT.kb hk))
  have TY := Lib.hid (fun (W : World) (hk : KB F0 w0 W) => text_any y hy W (hT.kb hk))
  have e : tightAp x y = !likeB (textS x ++ textS y) [x, y] := rfl
  rw [e]
  clear e
  generalize textS x = a at TX hz ⊢
  generalize textS y = b at TY hz ⊢
  have LK := Lib.hid (fun (nb : Nat) (W : World) (hk : KB F0 w0 W) (hg : W.heap[nb]? = some (.cells (tkC x ++ tkC y) 27 (0, 0))) => like_any (a ++ b) [x, y] (by rw [ByteArray.size_append]; omega) (some ⟨nb, 0, none⟩) 2 W (hT.kb hk) (toksAt_two hg))
  rw [show ([x, y] : List Tk).length = 2 from rfl] at LK
  generalize likeB (a ++ b) [x, y] = q at LK ⊢
  have z1 : ¬ (a.size + b.size > 9223372036854775807) := by omega
  have z2 : ¬ ((9223372036854775807 : Int) < (a.size : Int) + (b.size : Int)) := by omega
  clear hz h1 h2 hs1 hx hy hT
  unfold tkC at TX TY LK hW1 hW2 ⊢
  go_enter Tryz.func28, Tryz.ntmps28
  go_wp2_with fail
  rw [← hW1, ← hW2]
  clear hW1 hW2
  refine wp_region_rv 11 GK (kindW [(1, (fun v => v = .string a), (fun _ _ => True)), (3, (fun v => v = .string b), (fun _ _ => True)), (7, RowN 2 W2.heap.size, RowNAt 2 W2.heap.size (#[.int .u8 (x.k : Nat), .int .i64 x.at_, .int .i64 x.n, .string x.s] ++ #[.int .u8 (y.k : Nat), .int .i64 y.at_, .int .i64 y.n, .string y.s]) 27), (8, (fun v => v = .bool q), (fun _ _ => True))]) (by kernel_rfl) (by kernel_rfl) (kb_trans _) (kb_refl _) (kb_start _ _) (kindW_mono _ (by intro p hp; simp only [List.mem_cons, List.not_mem_nil, or_false] at hp; rcases hp with rfl | rfl | rfl | rfl <;> first | exact lasts_true | exact lasts_rowN _ _ _ _)) ?_
  simp only [List.take_succ_cons, List.take_zero, List.drop_succ_cons, List.drop_zero]
  refine rv_det (by kernel_rfl) rfl (by intro w hG hH; have hc0 := KB.cell hG (fun x => x) (x0); have hc1 := KB.cell hG (fun x => x) (x1); have hc2 := KB.cell hG (fun x => x) (x2); have hc3 := KB.cell hG (fun x => x) (x3); go_simp; first | done | with_reducible rfl) ?_
  simp only [Act.put, List.setIfInBounds_toArray, List.set_cons_zero, List.set_cons_succ]
  refine rv_rel (by kernel_rfl) rfl ⟨_, rfl⟩ (by
    intro w hG hH
    refine opVal_call (by go_simp; first | done | exact ⟨⟨rfl, rfl⟩, rfl⟩) ?_
    refine (TX.out _ (KW.out.trans hG)).mono ?_
    rintro e w' ⟨rfl, hq⟩
    exact ⟨_, rfl, rfl, by first | (obtain ⟨nq, rfl⟩ := hq; exact (KB.refl _ _).drewN _) | (subst hq; exact KB.refl _ _) | exact hq, trivial⟩) ?_
  rintro v rfl
  simp only [Act.put, List.setIfInBounds_toArray, List.set_cons_zero, List.set_cons_succ]
  refine rv_det (by kernel_rfl) rfl (by intro w hG hH; have hc0 := KB.cell hG (fun x => x) (y0); have hc1 := KB.cell hG (fun x => x) (y1); have hc2 := KB.cell hG (fun x => x) (y2); have hc3 := KB.cell hG (fun x => x) (y3); go_simp; first | done | with_reducible rfl) ?_
  simp only [Act.put, List.setIfInBounds_toArray, List.set_cons_zero, List.set_cons_succ]
  refine rv_rel (by kernel_rfl) rfl ⟨_, rfl⟩ (by
    intro w hG hH
    refine opVal_call (by go_simp; first | done | exact ⟨⟨rfl, rfl⟩, rfl⟩) ?_
    refine (TY.out _ (KW.out.trans hG)).mono ?_
    rintro e w' ⟨rfl, hq⟩
    exact ⟨_, rfl, rfl, by first | (obtain ⟨nq, rfl⟩ := hq; exact (KB.refl _ _).drewN _) | (subst hq; exact KB.refl _ _) | exact hq, trivial⟩) ?_
  rintro v rfl
  simp only [Act.put, List.setIfInBounds_toArray, List.set_cons_zero, List.set_cons_succ]
  refine rv_det (by kernel_rfl) rfl (by intro w hG hH; go_simp; first | done | with_reducible rfl) ?_
  simp only [Act.put, List.setIfInBounds_toArray, List.set_cons_zero, List.set_cons_succ]
  refine rv_det (by kernel_rfl) rfl (by intro w hG hH; have hc0 := KB.cell hG (fun x => x) (x0); have hc1 := KB.cell hG (fun x => x) (x1); have hc2 := KB.cell hG (fun x => x) (x2); have hc3 := KB.cell hG (fun x => x) (x3); go_simp; first | done | with_reducible rfl) ?_
  simp only [Act.put, List.setIfInBounds_toArray, List.set_cons_zero, List.set_cons_succ]
  refine rv_det (by kernel_rfl) rfl (by intro w hG hH; have hc0 := KB.cell hG (fun x => x) (y0); have hc1 := KB.cell hG (fun x => x) (y1); have hc2 := KB.cell hG (fun x => x) (y2); have hc3 := KB.cell hG (fun x => x) (y3); go_simp; first | done | with_reducible rfl) ?_
  simp only [Act.put, List.setIfInBounds_toArray, List.set_cons_zero, List.set_cons_succ]
  refine rv_rel (by kernel_rfl) rfl ⟨.slice (some ⟨_, 0, none⟩) 2 2, _, rfl, Nat.le_refl _⟩ (fun w hG hH => opVal_rowN hG (by go_simp; first | done | rfl)) ?_
  rintro v ⟨nb, rfl, hnb⟩
  simp only [Act.put, List.setIfInBounds_toArray, List.set_cons_zero, List.set_cons_succ]
  have HROW : ∀ w, RowNAt 2 W2.heap.size (#[.int .u8 (x.k : Nat), .int .i64 x.at_, .int .i64 x.n, .string x.s] ++ #[.int .u8 (y.k : Nat), .int .i64 y.at_, .int .i64 y.n, .string y.s]) 27 (.slice (some ⟨nb, 0, none⟩) 2 2) w → w.heap[nb]? = some (.cells (#[.int .u8 (x.k : Nat), .int .i64 x.at_, .int .i64 x.n, .string x.s] ++ #[.int .u8 (y.k : Nat), .int .i64 y.at_, .int .i64 y.n, .string y.s]) 27 (0, 0)) := by
    rintro w ⟨nb', e, -, hrow⟩
    simp only [Value.slice.injEq, Option.some.injEq, Addr.mk.injEq, and_true] at e
    subst e
    exact hrow
  have HR := Lib.hid HROW
  clear HROW
  refine rv_rel (by kernel_rfl) rfl ⟨_, rfl⟩ (by
    intro w hG hH
    refine opVal_call (by go_simp; first | done | exact ⟨⟨rfl, rfl⟩, rfl⟩) ?_
    refine (LK.out nb _ (KW.out.trans hG) (HR.out _ (hH (7, _) List.mem_cons_self (by kernel_rfl)))).mono ?_
    rintro e w' ⟨rfl, hq⟩
    exact ⟨_, rfl, rfl, by first | (obtain ⟨nq, rfl⟩ := hq; exact (KB.refl _ _).drewN _) | (subst hq; exact KB.refl _ _) | exact hq, trivial⟩) ?_
  rintro v rfl
  simp only [Act.put, List.setIfInBounds_toArray, List.set_cons_zero, List.set_cons_succ]
  iterate 2 (refine rv_det (by kernel_rfl) rfl (by intro w hG hH; go_simp; first | done | with_reducible rfl) ?_; simp only [Act.put, List.setIfInBounds_toArray, List.set_cons_zero, List.set_cons_succ])
  refine rv_nil (fun w hG hH => ?_)
  have K := Lib.hid (KW.out.trans hG)
  clear hG hH x0 x1 x2 x3 y0 y1 y2 y3
  go_wp2_with fail
  go_ret
  exact ⟨rfl, K.out⟩
end Go.Proofs.YtcbifoimfhfccaaGreatDoor

/- loanwordlaw09.lent. -/
import Derived.Test.YtpigppghcghpbaaGreatDoorPlY
namespace Go.Proofs.YtpigppghcghpbaaGreatDoor
open Go.RowKit

set_option maxRecDepth 100000 in
set_option maxHeartbeats 8000000 in
theorem lent_any (p : Pl) (a : Option Addr) (c : Nat) (w : World) (h : PlAt w p a c) :
    Calls Tryz.prog 11 #[plV p a c] w fun e w' => ∃ g d, e = .returned (.agg #[.int .i64 p.loc, .slice (some ⟨g, 0, none⟩) p.path.length d]) ∧ p.path.length + 1 ≤ d ∧ OwnI w' w.heap.size (.slice (some ⟨g, 0, none⟩) (p.path.length + 1) d) (p.path ++ [77]) ∧ KB F0 w w' := by
  obtain ⟨w0, rfl⟩ : ∃ w0, w0 = w := ⟨_, rfl⟩
  have hsm := h.small
  have HI := Lib.hid (fun (W : World) (hk : KB F0 w0 W) => h.ints.kbF hk)
  obtain ⟨x, xs⟩ := p
  unfold plV
  simp only at HI hsm ⊢
  obtain ⟨N, hN⟩ : ∃ N, N = xs.length := ⟨_, rfl⟩
  rw [← hN] at hsm ⊢
  have HN := Lib.hid hN
  clear h hN
  obtain ⟨hk, hb1, hb2⟩ := new2 w0 #[.int .i64 x, .slice a N c] #[.int .i64 0, .slice none 0 0] 26 26
  obtain ⟨W, hW⟩ : ∃ W, W = ((w0.alloc (.cells #[.int .i64 x, .slice a N c] 26)).alloc (.cells #[.int .i64 0, .slice none 0 0] 26)) := ⟨_, rfl⟩
  rw [← hW] at hk hb1 hb2
  have x1 : W.cell? ⟨w0.heap.size, 1, none⟩ = some (.slice a N c) := blk_cell hb1 1
  have HB := Lib.hid (And.intro hk (And.intro hb1 hb2))
  have HS : Hid (w0.heap.size + 2 ≤ W.heap.size) := Lib.hid (heap_lt hb2)
  have HW := Lib.hid hW
  rw [hW] at x1
  clear hk hb1 hb2 hW
  go_enter Tryz.func11, Tryz.ntmps11
  go_wp2_with (at_builtin; refine Stopped.out ?_)
  refine ⟨?_⟩
  rw [← HW.out]
  clear x1
  refine wpList_append_steps W.heap.size rfl rfl rfl rfl (ownI_nil _ _) xs HN.out (HI.out _ HB.out.1) (by omega) (by simp) (Nat.le_refl _) ?_
  intro v1 w1 hown1 hgr1
  rw [List.nil_append] at hown1
  have k1 : KB F0 W w1 := KB.of_grown hgr1 (fun k hk => by cases hk)
  have H1 := Lib.hid (And.intro k1 hown1)
  obtain ⟨b1, d1, e1, -⟩ := hown1.at
  subst e1
  rw [← HN.out] at H1 ⊢
  clear hown1 hgr1 k1
  go_wp2_with (at_builtin; refine Stopped.out ?_)
  refine ⟨?_⟩
  have ka := (KB.refl F0 w1).alloc (.cells #[.int .i64 77] 56)
  have ho := H1.out.2.kbF ka
  unfold OwnI at ho
  rw [← HN.out] at ho
  refine app1 24 56 W.heap.size (.int .i64 77) Tryz.infoStep Tryz.underlying24 (by decide) ho rfl rfl rfl rfl (blk_cell (alloc_new _ _) 0) rfl (by unfold maxLen; omega) (by omega) (H1.out.1.trans ka).size ?_
  intro v2 w2 hown2 hgr2
  have k2 : KB F0 W w2 := (H1.out.1.trans ka).grown hgr2 (own_ge ho (Nat.le_refl _))
  have hown3 : OwnI w2 W.heap.size v2 (xs ++ [77]) := by
    unfold OwnI
    rw [List.length_append, ints_app, ← HN.out]
    exact hown2
  obtain ⟨la, ld, e2, hld, -, hla⟩ := hown3.at
  obtain ⟨g, go, e3, -⟩ := hla N (by rw [List.length_append, ← HN.out]; simp)
  subst e3
  obtain ⟨gg, dd, e4⟩ : ∃ gg dd, v2 = .slice (some ⟨gg, 0, none⟩) (N + 1) dd := by
    rcases hown2.2 with ⟨e5, e6⟩ | ⟨gg, dd, cur, e5, -⟩
    · omega
    · exact ⟨gg, dd, e5⟩
  rw [e4] at e2
  simp only [Value.slice.injEq, Option.some.injEq, Addr.mk.injEq, and_true] at e2
  obtain ⟨⟨rfl, rfl⟩, e7, rfl⟩ := e2
  subst e4
  rw [← e7] at hld
  have H2 := Lib.hid (And.intro k2 (And.intro hown3 hld))
  have hbx := k2.heap (fun x => x) HB.out.2.1
  have x0 : w2.cell? ⟨w0.heap.size, 0, none⟩ = some (.int .i64 x) := blk_cell hbx 0
  have x1 : w2.cell? ⟨w0.heap.size, 1, none⟩ = some (.slice a N c) := blk_cell hbx 1
  have i1 : (N : Int) ≤ (dd : Int) := by omega
  have i2 : N ≤ dd := by omega
  clear hown2 hgr2 k2 hown3 ho ka e7 hla hbx hld
  go_wp2_with fail
  refine wp_region_rv 8 GK (kindW []) (by kernel_rfl) (by kernel_rfl) (kb_trans _) (kb_refl _) (kb_start _ _) (kindW_mono _ (by intro p hp; cases hp)) ?_
  simp only [List.take_succ_cons, List.take_zero, List.drop_succ_cons, List.drop_zero]
  iterate 8 (refine rv_det (by kernel_rfl) rfl (by intro w hG hH; have hc0 := KB.cell hG (fun x => x) (x0); have hc1 := KB.cell hG (fun x => x) (x1); go_simp; first | done | with_reducible rfl) ?_; simp only [Act.put, List.setIfInBounds_toArray, List.set_cons_zero, List.set_cons_succ])
  refine rv_nil (fun w hG hH => ?_)
  have KX := Lib.hid (HB.out.1.trans (H2.out.1.trans hG))
  have hown4 := H2.out.2.1.kbF hG
  have hb2 := hG.heap (fun x => x) (H2.out.1.heap (fun x => x) HB.out.2.2)
  have y0 : w.cell? ⟨w0.heap.size + 1, 0, none⟩ = some (.int .i64 0) := blk_cell hb2 0
  have y1 : w.cell? ⟨w0.heap.size + 1, 1, none⟩ = some (.slice none 0 0) := blk_cell hb2 1
  have f0 := blk_frozen hb2 0
  have f1 := blk_frozen hb2 1
  have HV := Lib.hid (And.intro hown4 hb2)
  clear hG hH hown4 hb2 x0 x1
  go_wp2_with fail
  refine ret_pl (X := w0.heap.size + 1) (x := x) rfl rfl (setCell_blk (i := 1) (setCell_blk (i := 0) HV.out.2 (.int .i64 x)) (.slice (some ⟨gg, 0, none⟩) N dd)) rfl ⟨gg, dd, rfl, H2.out.2.2, ?_, kb_new (kb_new KX.out (Nat.le_succ _) 0 _) (Nat.le_succ _) 1 _⟩
  exact own_base (own_kb HV.out.1 ((kb_set w (w0.heap.size + 1) 0 (.int .i64 x)).trans (kb_set _ (w0.heap.size + 1) 1 (.slice (some ⟨gg, 0, none⟩) N dd))) (fun g1 e1 e2 => by
    have h1 := (HV.out.1.lt g1 e1).1
    have h2 := HS.out
    omega)) HB.out.1.size
end Go.Proofs.YtpigppghcghpbaaGreatDoor

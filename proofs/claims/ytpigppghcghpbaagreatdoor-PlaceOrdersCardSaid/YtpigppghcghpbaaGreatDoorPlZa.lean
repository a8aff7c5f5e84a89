/- loanwordlaw09.kept. -/
import Derived.Test.YtpigppghcghpbaaGreatDoorPlZ
namespace Go.Proofs.YtpigppghcghpbaaGreatDoor
open Go.RowKit

theorem lent_pl {w : World} {B g d : Nat} {p : Pl} (h : OwnI w B (.slice (some ⟨g, 0, none⟩) (p.path.length + 1) d) (p.path ++ [77])) (hs : p.path.length ≤ 100000) (hd : p.path.length + 1 ≤ d) :
    PlAt w p (some ⟨g, 0, none⟩) d ∧ w.cell? ⟨g, p.path.length, none⟩ = some (.int .i64 77) := by
  obtain ⟨a, c, e, -, -, hi⟩ := h.at
  simp only [Value.slice.injEq] at e
  obtain ⟨e1, -, -⟩ := e
  subst e1
  constructor
  · have h2 := hi.take p.path.length
    rw [List.take_left' rfl] at h2
    exact ⟨h2, by omega, hs⟩
  · obtain ⟨b, off, e, hc⟩ := hi p.path.length (by simp)
    simp only [Option.some.injEq, Addr.mk.injEq, and_true] at e
    obtain ⟨rfl, rfl⟩ := e
    rw [Nat.zero_add] at hc
    rw [hc]
    simp [List.getD_eq_getElem?_getD]
set_option maxRecDepth 100000 in
set_option maxHeartbeats 8000000 in
theorem kept_any (p : Pl) (a : Option Addr) (c B g d : Nat) (w : World) (h : PlAt w p a c) (ho : OwnI w B (.slice (some ⟨g, 0, none⟩) (p.path.length + 1) d) (p.path ++ [77])) (hd : p.path.length + 1 ≤ d) :
    Calls Tryz.prog 14 #[.agg #[.int .i64 p.loc, .slice (some ⟨g, 0, none⟩) p.path.length d], plV p a c] w fun e w' => e = .returned (.bool true) ∧ KB F0 w w' := by
  obtain ⟨w0, rfl⟩ : ∃ w0, w0 = w := ⟨_, rfl⟩
  have hsm := h.small
  obtain ⟨hpl, h77⟩ := lent_pl ho hsm hd
  have SM := Lib.hid (fun (V : World) (hk : KB F0 w0 V) => rsame_any p p (some ⟨g, 0, none⟩) a d c V (hpl.kbF hk) (h.kbF hk))
  rw [show decide (ordP p p = 0) = true from decide_eq_true (ordP_zero.2 ⟨rfl, rfl⟩)] at SM
  unfold plV at SM ⊢
  obtain ⟨N, hN⟩ : ∃ N, N = p.path.length := ⟨_, rfl⟩
  generalize p.loc = x at SM ⊢
  rw [← hN] at SM hsm h77 hd ⊢
  clear h ho hpl hN
  obtain ⟨M, hM⟩ : ∃ M, M = N + 1 := ⟨_, rfl⟩
  have hw1 : IntKind.i64.wrap ((N : Int) + 1) = (M : Int) := by rw [w64 (by omega) (by omega)]; omega
  have i1 : (M : Int) ≤ (d : Int) := by omega
  have i2 : M ≤ d := by omega
  have i3 : (N : Int) < (M : Int) := by omega
  have i4 : N < M := by omega
  have hB := box2 w0 x x (.slice (some ⟨g, 0, none⟩) N d) (.slice a N c)
  obtain ⟨W2, hW2⟩ : ∃ W2, W2 = (w0.alloc (.cells #[.int .i64 x, .slice (some ⟨g, 0, none⟩) N d] 26)).alloc (.cells #[.int .i64 x, .slice a N c] 26) := ⟨_, rfl⟩
  rw [← hW2] at hB
  have x0 : W2.cell? ⟨w0.heap.size, 0, none⟩ = some (.int .i64 x) := blk_cell hB.g1 0
  have x1 : W2.cell? ⟨w0.heap.size, 1, none⟩ = some (.slice (some ⟨g, 0, none⟩) N d) := blk_cell hB.g1 1
  have y0 : W2.cell? ⟨w0.heap.size + 1, 0, none⟩ = some (.int .i64 x) := blk_cell hB.g2 0
  have y1 : W2.cell? ⟨w0.heap.size + 1, 1, none⟩ = some (.slice a N c) := blk_cell hB.g2 1
  have c7 : W2.cell? ⟨g, N, none⟩ = some (.int .i64 77) := hB.kb.cell (p := ⟨g, N, none⟩) (fun x => x) h77
  have KW := Lib.hid hB.kb
  have HW := Lib.hid hW2
  clear hB hW2 h77 hd hM
  go_enter Tryz.func14, Tryz.ntmps14
  go_wp2_with fail
  rw [← HW.out]
  refine wp_region_rv 19 GK (kindW [(2, (fun v => v = .bool true), (fun _ _ => True))]) (by kernel_rfl) (by kernel_rfl) (kb_trans _) (kb_refl _) (kb_start _ _) (kindW_mono _ (by intro p hp; simp only [List.mem_cons, List.not_mem_nil, or_false] at hp; rcases hp with rfl <;> exact lasts_true)) ?_
  simp only [List.take_succ_cons, List.take_zero, List.drop_succ_cons, List.drop_zero]
  iterate 2 (refine rv_det (by kernel_rfl) rfl (by intro w hG hH; have hc0 := KB.cell hG (fun x => x) (x0); have hc1 := KB.cell hG (fun x => x) (x1); have hc2 := KB.cell hG (fun x => x) (y0); have hc3 := KB.cell hG (fun x => x) (y1); go_simp; first | done | with_reducible rfl) ?_; simp only [Act.put, List.setIfInBounds_toArray, List.set_cons_zero, List.set_cons_succ])
  refine rv_rel (by kernel_rfl) rfl ⟨_, rfl⟩ (by
    intro w hG hH
    refine opVal_call (by go_simp; first | done | exact ⟨⟨rfl, rfl⟩, rfl⟩) ?_
    refine (SM.out _ (KW.out.trans hG)).mono ?_
    rintro e w' ⟨rfl, hq⟩
    exact ⟨_, rfl, rfl, by first | (obtain ⟨nq, rfl⟩ := hq; exact (KB.refl _ _).drewN _) | (subst hq; exact KB.refl _ _) | exact hq, trivial⟩) ?_
  rintro v rfl
  simp only [Act.put, List.setIfInBounds_toArray, List.set_cons_zero, List.set_cons_succ]
  iterate 16 (refine rv_det (by kernel_rfl) rfl (by intro w hG hH; have hc0 := KB.cell hG (fun x => x) (x1); have hc1 := KB.cell hG (fun x => x) (y1); have hc2 := KB.cell hG (fun x => x) (c7); go_simp; first | done | with_reducible rfl) ?_; simp only [Act.put, List.setIfInBounds_toArray, List.set_cons_zero, List.set_cons_succ])
  refine rv_nil (fun w hG hH => ?_)
  have K := Lib.hid (KW.out.trans hG)
  clear hG hH x0 x1 y0 y1 c7
  go_wp2_with fail
  go_ret
  exact ⟨rfl, K.out⟩
end Go.Proofs.YtpigppghcghpbaaGreatDoor

/- place.Same, Prefix; loanwordref09.Same, Order, Prefix. -/
import Derived.Test.YtpigppghcghpbaaGreatDoorMg09
namespace Go.Proofs.YtpigppghcghpbaaGreatDoor
open Go.RowKit

theorem IntsAt.take {w : World} {a : Option Addr} {xs : List Int} (h : IntsAt w a xs) (n : Nat) : IntsAt w a (xs.take n) := by
  intro k hk
  rw [List.length_take] at hk
  obtain ⟨b, off, ha, hc⟩ := h k (by omega)
  refine ⟨b, off, ha, ?_⟩
  rw [hc]
  congr 2
  rw [List.getD_eq_getElem?_getD, List.getD_eq_getElem?_getD, List.getElem?_take_of_lt (by omega)]
/-- Two places, boxed side by side. -/
structure Box2 (w0 w : World) (x y : Int) (u v : Value) : Prop where
  kb : KB F0 w0 w
  g1 : w.heap[w0.heap.size]? = some (.cells #[.int .i64 x, u] 26 (0, 0))
  g2 : w.heap[w0.heap.size + 1]? = some (.cells #[.int .i64 y, v] 26 (0, 0))
theorem box2 (w0 : World) (x y : Int) (u v : Value) : Box2 w0 ((w0.alloc (.cells #[.int .i64 x, u] 26)).alloc (.cells #[.int .i64 y, v] 26)) x y u v := by
  have hs1 : (w0.alloc (.cells #[.int .i64 x, u] 26)).heap.size = w0.heap.size + 1 := by simp
  exact ⟨((KB.refl _ _).alloc _).alloc _, ((KB.refl F0 _).alloc _).heap (fun x => x) (alloc_new _ _), by rw [← hs1]; exact alloc_new _ _⟩
set_option maxRecDepth 100000 in
set_option maxHeartbeats 8000000 in
theorem same_any (p q : Pl) (a b : Option Addr) (c d : Nat) (w : World) (h1 : PlAt w p a c) (h2 : PlAt w q b d) :
    Calls Tryz.prog 20 #[plV p a c, plV q b d] w fun e w' => e = .returned (.bool (decide (ordP p q = 0))) ∧ KB F0 w w' := by
  obtain ⟨w0, rfl⟩ : ∃ w0, w0 = w := ⟨_, rfl⟩
  have OR := Lib.hid (fun (W : World) (hk : KB F0 w0 W) => order_any p q a b c d W (h1.kbF hk) (h2.kbF hk))
  obtain ⟨x, xs⟩ := p
  obtain ⟨y, ys⟩ := q
  unfold plV at OR ⊢
  simp only at OR ⊢
  generalize ordP ⟨x, xs⟩ ⟨y, ys⟩ = n at OR ⊢
  generalize xs.length = N at OR ⊢
  generalize ys.length = M at OR ⊢
  have hB := box2 w0 x y (.slice a N c) (.slice b M d)
  obtain ⟨W2, hW2⟩ : ∃ W2, W2 = (w0.alloc (.cells #[.int .i64 x, .slice a N c] 26)).alloc (.cells #[.int .i64 y, .slice b M d] 26) := ⟨_, rfl⟩
  rw [← hW2] at hB
  have x0 : W2.cell? ⟨w0.heap.size, 0, none⟩ = some (.int .i64 x) := blk_cell hB.g1 0
  have x1 : W2.cell? ⟨w0.heap.size, 1, none⟩ = some (.slice a N c) := blk_cell hB.g1 1
  have y0 : W2.cell? ⟨w0.heap.size + 1, 0, none⟩ = some (.int .i64 y) := blk_cell hB.g2 0
  have y1 : W2.cell? ⟨w0.heap.size + 1, 1, none⟩ = some (.slice b M d) := blk_cell hB.g2 1
  have KW := Lib.hid hB.kb
  have HW := Lib.hid hW2
  clear h1 h2 hB
  rw [hW2] at x0 x1 y0 y1
  clear hW2
  go_enter Tryz.func20, Tryz.ntmps20
  go_wp2_with fail
  rw [← HW.out]
  refine (OR.out _ KW.out).mono ?_
  rintro e w3 ⟨rfl, k3⟩
  have K := Lib.hid (KW.out.trans k3)
  clear k3 x0 x1 y0 y1
  by_cases h0 : n = 0
  · subst h0
    go_wp2_with fail
    go_ret
    exact ⟨rfl, K.out⟩
  · have t1 : (n == 0) = false := by simpa using h0
    have HN := Lib.hid h0
    clear h0
    go_wp2_with fail
    go_ret
    exact ⟨ret_eq (by rw [decide_eq_false HN.out]; rfl), K.out⟩
set_option maxRecDepth 100000 in
set_option maxHeartbeats 8000000 in
theorem prefix_any (p q : Pl) (a b : Option Addr) (c d : Nat) (w : World) (h1 : PlAt w p a c) (h2 : PlAt w q b d) :
    Calls Tryz.prog 16 #[plV p a c, plV q b d] w fun e w' => e = .returned (.bool (preB p q)) ∧ KB F0 w w' := by
  obtain ⟨w0, rfl⟩ : ∃ w0, w0 = w := ⟨_, rfl⟩
  obtain ⟨r, hr⟩ : ∃ r, r = preB p q := ⟨_, rfl⟩
  rw [← hr]
  unfold preB at hr
  have EQ := Lib.hid (fun (n : Nat) (hn : n = q.path.length ∨ n ≤ q.path.length) (W : World) (hk : KB F0 w0 W) => seq_any p.path (q.path.take p.path.length) (by have := h1.small; omega) a b c p.path.length W (h1.ints.kbF hk) ((h2.ints.kbF hk).take _))
  have hsm := h1.small
  have hcq := h2.cap
  have hcp := h1.cap
  obtain ⟨x, xs⟩ := p
  obtain ⟨y, ys⟩ := q
  unfold plV
  simp only at EQ hr hsm hcq hcp ⊢
  have HT : Hid (xs.length ≤ ys.length → (ys.take xs.length).length = xs.length) := Lib.hid (fun h => by rw [List.length_take]; omega)
  obtain ⟨s, hs⟩ : ∃ s, s = decide (xs = ys.take xs.length) := ⟨_, rfl⟩
  have hs2 : decide (ys.take xs.length = xs) = s := by rw [hs, decide_eq_decide]; exact eq_comm
  rw [hs2] at hr
  rw [← hs] at EQ
  have Hr := Lib.hid hr
  clear hs hs2 hr
  obtain ⟨N, hN⟩ : ∃ N, N = xs.length := ⟨_, rfl⟩
  obtain ⟨M, hM⟩ : ∃ M, M = ys.length := ⟨_, rfl⟩
  rw [← hN] at EQ HT Hr hsm hcp ⊢
  rw [← hM] at EQ HT Hr hcq ⊢
  clear hN hM
  have hB := box2 w0 x y (.slice a N c) (.slice b M d)
  obtain ⟨W2, hW2⟩ : ∃ W2, W2 = (w0.alloc (.cells #[.int .i64 x, .slice a N c] 26)).alloc (.cells #[.int .i64 y, .slice b M d] 26) := ⟨_, rfl⟩
  rw [← hW2] at hB
  have x0 : W2.cell? ⟨w0.heap.size, 0, none⟩ = some (.int .i64 x) := blk_cell hB.g1 0
  have x1 : W2.cell? ⟨w0.heap.size, 1, none⟩ = some (.slice a N c) := blk_cell hB.g1 1
  have y0 : W2.cell? ⟨w0.heap.size + 1, 0, none⟩ = some (.int .i64 y) := blk_cell hB.g2 0
  have y1 : W2.cell? ⟨w0.heap.size + 1, 1, none⟩ = some (.slice b M d) := blk_cell hB.g2 1
  have KW := Lib.hid hB.kb
  have HW := Lib.hid hW2
  clear h1 h2 hB hW2
  by_cases he : x = y
  case neg =>
    have t1 : (x == y) = false := by simpa using he
    have HE : Hid (r = false) := Lib.hid (by rw [Hr.out, decide_eq_false he]; rfl)
    clear he
    go_enter Tryz.func16, Tryz.ntmps16
    go_wp2_with fail
    rw [← HW.out]
    refine wp_region_rv 29 GK (kindW []) (by kernel_rfl) (by kernel_rfl) (kb_trans _) (kb_refl _) (kb_start _ _) (kindW_mono _ (by intro p hp; cases hp)) ?_
    simp only [List.take_succ_cons, List.take_zero, List.drop_succ_cons, List.drop_zero]
    iterate 6 (refine rv_det (by kernel_rfl) rfl (by intro w hG hH; have hc0 := KB.cell hG (fun x => x) (x0); have hc1 := KB.cell hG (fun x => x) (y0); go_simp; first | done | with_reducible rfl) ?_; simp only [Act.put, List.setIfInBounds_toArray, List.set_cons_zero, List.set_cons_succ])
    iterate 7 (refine rv_skip (by kernel_rfl) ?_; simp only [Act.put, List.setIfInBounds_toArray, List.set_cons_zero, List.set_cons_succ])
    iterate 2 (refine rv_det (by kernel_rfl) rfl (by intro w hG hH; go_simp; first | done | with_reducible rfl) ?_; simp only [Act.put, List.setIfInBounds_toArray, List.set_cons_zero, List.set_cons_succ])
    iterate 12 (refine rv_skip (by kernel_rfl) ?_; simp only [Act.put, List.setIfInBounds_toArray, List.set_cons_zero, List.set_cons_succ])
    iterate 2 (refine rv_det (by kernel_rfl) rfl (by intro w hG hH; go_simp; first | done | with_reducible rfl) ?_; simp only [Act.put, List.setIfInBounds_toArray, List.set_cons_zero, List.set_cons_succ])
    refine rv_nil (fun w hG hH => ?_)
    have K := Lib.hid (KW.out.trans hG)
    clear hG hH
    go_wp2_with fail
    go_ret
    exact ⟨ret_eq (by rw [HE.out]; rfl), K.out⟩
  subst he
  by_cases hl : N ≤ M
  case neg =>
    have t2 : decide ((N : Int) ≤ (M : Int)) = false := decide_eq_false (by omega)
    have t2n : decide (N ≤ M) = false := decide_eq_false hl
    have HE : Hid (r = false) := Lib.hid (by rw [Hr.out, decide_eq_false hl]; simp)
    clear hl
    go_enter Tryz.func16, Tryz.ntmps16
    go_wp2_with fail
    rw [← HW.out]
    refine wp_region_rv 29 GK (kindW []) (by kernel_rfl) (by kernel_rfl) (kb_trans _) (kb_refl _) (kb_start _ _) (kindW_mono _ (by intro p hp; cases hp)) ?_
    simp only [List.take_succ_cons, List.take_zero, List.drop_succ_cons, List.drop_zero]
    iterate 15 (refine rv_det (by kernel_rfl) rfl (by intro w hG hH; have hc0 := KB.cell hG (fun x => x) (x0); have hc1 := KB.cell hG (fun x => x) (x1); have hc2 := KB.cell hG (fun x => x) (y0); have hc3 := KB.cell hG (fun x => x) (y1); go_simp; first | done | with_reducible rfl) ?_; simp only [Act.put, List.setIfInBounds_toArray, List.set_cons_zero, List.set_cons_succ])
    iterate 12 (refine rv_skip (by kernel_rfl) ?_; simp only [Act.put, List.setIfInBounds_toArray, List.set_cons_zero, List.set_cons_succ])
    iterate 2 (refine rv_det (by kernel_rfl) rfl (by intro w hG hH; go_simp; first | done | with_reducible rfl) ?_; simp only [Act.put, List.setIfInBounds_toArray, List.set_cons_zero, List.set_cons_succ])
    refine rv_nil (fun w hG hH => ?_)
    have K := Lib.hid (KW.out.trans hG)
    clear hG hH
    go_wp2_with fail
    go_ret
    exact ⟨ret_eq (by rw [HE.out]; rfl), K.out⟩
  have t2 : decide ((N : Int) ≤ (M : Int)) = true := decide_eq_true (by omega)
  have t2n : decide (N ≤ M) = true := decide_eq_true hl
  have HE : Hid (r = s) := Lib.hid (by rw [Hr.out, decide_eq_true hl]; simp)
  have EQ2 := Lib.hid (EQ.out N (Or.inr hl))
  rw [HT.out hl] at EQ2
  have i1 : (N : Int) ≤ (d : Int) := by omega
  have i2 : N ≤ d := by omega
  clear hcq hcp hsm EQ
  go_enter Tryz.func16, Tryz.ntmps16
  go_wp2_with fail
  rw [← HW.out]
  refine wp_region_rv 29 GK (kindW [(26, (fun v => v = .bool s), (fun _ _ => True))]) (by kernel_rfl) (by kernel_rfl) (kb_trans _) (kb_refl _) (kb_start _ _) (kindW_mono _ (by intro p hp; simp only [List.mem_cons, List.not_mem_nil, or_false] at hp; rcases hp with rfl <;> exact lasts_true)) ?_
  simp only [List.take_succ_cons, List.take_zero, List.drop_succ_cons, List.drop_zero]
  iterate 26 (refine rv_det (by kernel_rfl) rfl (by intro w hG hH; have hc0 := KB.cell hG (fun x => x) (x0); have hc1 := KB.cell hG (fun x => x) (x1); have hc2 := KB.cell hG (fun x => x) (y0); have hc3 := KB.cell hG (fun x => x) (y1); go_simp; first | done | with_reducible rfl) ?_; simp only [Act.put, List.setIfInBounds_toArray, List.set_cons_zero, List.set_cons_succ])
  refine rv_rel (by kernel_rfl) rfl ⟨_, rfl⟩ (by
    intro w hG hH
    refine opVal_call (by go_simp; first | done | exact ⟨⟨rfl, rfl⟩, rfl⟩) ?_
    refine (EQ2.out _ (KW.out.trans hG)).mono ?_
    rintro e w' ⟨rfl, hq⟩
    exact ⟨_, rfl, rfl, by first | (obtain ⟨nq, rfl⟩ := hq; exact (KB.refl _ _).drewN _) | (subst hq; exact KB.refl _ _) | exact hq, trivial⟩) ?_
  rintro v rfl
  simp only [Act.put, List.setIfInBounds_toArray, List.set_cons_zero, List.set_cons_succ]
  iterate 2 (refine rv_det (by kernel_rfl) rfl (by intro w hG hH; go_simp; first | done | with_reducible rfl) ?_; simp only [Act.put, List.setIfInBounds_toArray, List.set_cons_zero, List.set_cons_succ])
  refine rv_nil (fun w hG hH => ?_)
  have K := Lib.hid (KW.out.trans hG)
  clear hG hH
  go_wp2_with fail
  go_ret
  exact ⟨ret_eq (by rw [HE.out]; rfl), K.out⟩
end Go.Proofs.YtpigppghcghpbaaGreatDoor

/- loanwordref09.Order, Same, Prefix. -/
import Derived.Test.YtpigppghcghpbaaGreatDoorPlF
namespace Go.Proofs.YtpigppghcghpbaaGreatDoor
open Go.RowKit

set_option maxRecDepth 100000 in
set_option maxHeartbeats 16000000 in
theorem rorder_any (p q : Pl) (a b : Option Addr) (c d : Nat) (w : World) (h1 : PlAt w p a c) (h2 : PlAt w q b d) :
    Calls Tryz.prog 19 #[plV p a c, plV q b d] w fun e w' => e = .returned (.int .i64 (ordP p q)) ∧ KB F0 w w' := by
  obtain ⟨w0, rfl⟩ : ∃ w0, w0 = w := ⟨_, rfl⟩
  obtain ⟨r, hr⟩ : ∃ r, r = ordP p q := ⟨_, rfl⟩
  rw [← hr]
  unfold ordP at hr
  have hsm := h1.small
  have hsn := h2.small
  have H12 := Lib.hid (And.intro h1.ints h2.ints)
  obtain ⟨x, xs⟩ := p
  obtain ⟨y, ys⟩ := q
  unfold plV
  simp only at hr hsm hsn H12 ⊢
  obtain ⟨N, hN⟩ : ∃ N, N = xs.length := ⟨_, rfl⟩
  obtain ⟨M, hM⟩ : ∃ M, M = ys.length := ⟨_, rfl⟩
  have HL := Lib.hid (And.intro hN hM)
  rw [← hN] at hsm ⊢
  rw [← hM] at hsn ⊢
  have Hr := Lib.hid hr
  have hB := box2 w0 x y (.slice a N c) (.slice b M d)
  obtain ⟨W2, hW2⟩ : ∃ W2, W2 = (w0.alloc (.cells #[.int .i64 x, .slice a N c] 26)).alloc (.cells #[.int .i64 y, .slice b M d] 26) := ⟨_, rfl⟩
  rw [← hW2] at hB
  have HB := Lib.hid hB
  have x0 : W2.cell? ⟨w0.heap.size, 0, none⟩ = some (.int .i64 x) := blk_cell hB.g1 0
  have x1 : W2.cell? ⟨w0.heap.size, 1, none⟩ = some (.slice a N c) := blk_cell hB.g1 1
  have y0 : W2.cell? ⟨w0.heap.size + 1, 0, none⟩ = some (.int .i64 y) := blk_cell hB.g2 0
  have y1 : W2.cell? ⟨w0.heap.size + 1, 1, none⟩ = some (.slice b M d) := blk_cell hB.g2 1
  rw [hW2] at x0 x1 y0 y1
  have HW := Lib.hid hW2
  clear h1 h2 hB hr hN hM hW2
  have hc := cmpI_cases x y
  rcases hc with ⟨g1, g2⟩ | ⟨g1, g2⟩ | ⟨g1, g2⟩
  · have HE : Hid (r = -1) := Lib.hid (by rw [Hr.out, if_neg (by omega), g2])
    have t1 : (x != y) = true := by simp; omega
    have t1' : (x == y) = false := by simp; omega
    have t2 : decide (x < y) = true := decide_eq_true g1
    clear g1 g2
    go_enter Tryz.func19, Tryz.ntmps19
    go_wp2_with fail
    go_ret
    exact ⟨ret_eq (by rw [HE.out]; rfl), by rw [← HW.out]; exact HB.out.kb⟩
  case inr.inr =>
    have HE : Hid (r = 1) := Lib.hid (by rw [Hr.out, if_neg (by omega), g2])
    have t1 : (x != y) = true := by simp; omega
    have t1' : (x == y) = false := by simp; omega
    have t2 : decide (x < y) = false := decide_eq_false (by omega)
    clear g1 g2
    go_enter Tryz.func19, Tryz.ntmps19
    go_wp2_with fail
    go_ret
    exact ⟨ret_eq (by rw [HE.out]; rfl), by rw [← HW.out]; exact HB.out.kb⟩
  case inr.inl =>
    have Hr2 : Hid (r = cmpL xs ys) := Lib.hid (by rw [Hr.out, if_pos g2])
    subst g1
    clear g2
    go_enter Tryz.func19, Tryz.ntmps19
    go_wp2_with fail
    rw [← HW.out]
    clear x0 x1 y0 y1
    go_loopw [5] (fun kv wr => ∃ k : Nat, k ≤ N ∧ k ≤ M ∧ kv = .int .i64 (k : Nat) ∧ KB F0 W2 wr ∧ Hid (r = cmpL (xs.drop k) (ys.drop k))) (fun kv _ => N - (intOf kv).toNat)
    case atStart => exact ⟨0, by omega, by omega, rfl, KB.refl _ _, Lib.hid (by rw [List.drop_zero, List.drop_zero]; exact Hr2.out)⟩
    case round =>
      obtain ⟨k, hk, hkM, rfl, hkb, hrk⟩ := hrel
      have bx := hkb.heap (fun x => x) HB.out.g1
      have b2 := hkb.heap (fun x => x) HB.out.g2
      have x0 : wr.cell? ⟨w0.heap.size, 0, none⟩ = some (.int .i64 x) := blk_cell bx 0
      have x1 : wr.cell? ⟨w0.heap.size, 1, none⟩ = some (.slice a N c) := blk_cell bx 1
      have y1 : wr.cell? ⟨w0.heap.size + 1, 1, none⟩ = some (.slice b M d) := blk_cell b2 1
      have HK := Lib.hid hkb
      have HK0 := Lib.hid (HB.out.kb.trans hkb)
      clear hkb bx b2
      by_cases hlt : k < N
      · have d1 : decide ((k : Int) < (N : Int)) = true := decide_eq_true (by omega)
        by_cases hM : k < M
        · have d2 : decide ((k : Int) < (M : Int)) = true := decide_eq_true (by omega)
          have ik : (k : Int) < (N : Int) := by omega
          have ikM : (k : Int) < (M : Int) := by omega
          have hkx : k < xs.length := by rw [← HL.out.1]; exact hlt
          have hky : k < ys.length := by rw [← HL.out.2]; exact hM
          obtain ⟨o1, q1, rfl, hx0⟩ := H12.out.1 k hkx
          obtain ⟨o2, q2, rfl, hy0⟩ := H12.out.2 k hky
          have hx := HK0.out.cell (p := ⟨o1, q1 + k, none⟩) (fun x => x) hx0
          have hy := HK0.out.cell (p := ⟨o2, q2 + k, none⟩) (fun x => x) hy0
          have hdx := drop_intD hkx
          have hdy := drop_intD hky
          obtain ⟨u, hue⟩ : ∃ u, u = xs.getD k 0 := ⟨_, rfl⟩
          obtain ⟨v, hve⟩ : ∃ v, v = ys.getD k 0 := ⟨_, rfl⟩
          rw [← hue] at hx hdx
          rw [← hve] at hy hdy
          have hr2 : Hid (r = if cmpI u v = 0 then cmpL (xs.drop (k + 1)) (ys.drop (k + 1)) else cmpI u v) := Lib.hid (by rw [hrk.out, hdx, hdy]; rfl)
          clear hx0 hy0 hdx hdy hkx hky hue hve hrk
          have hc := cmpI_cases u v
          rcases hc with ⟨g1, g2⟩ | ⟨g1, g2⟩ | ⟨g1, g2⟩
          · have HE : Hid (r = -1) := Lib.hid (by rw [hr2.out, if_neg (by omega), g2])
            have t3 : decide (u < v) = true := decide_eq_true g1
            clear g1 g2
            go_wp2_with fail
            refine wp_region_rv 11 GQ (kindV []) (by kernel_rfl) (by kernel_rfl) GQ.trans GQ.refl (GQ.start _) (kindV_mono _) ?_
            simp only [List.take_succ_cons, List.take_zero, List.drop_succ_cons, List.drop_zero]
            iterate 11 (refine rv_det (by kernel_rfl) rfl (by intro w hG hH; obtain ⟨n, rfl⟩ := hG; go_simp; first | done | with_reducible rfl) ?_; simp only [Act.put, List.setIfInBounds_toArray, List.set_cons_zero, List.set_cons_succ])
            refine rv_nil (fun w hG hH => ?_)
            obtain ⟨n, rfl⟩ := hG
            clear hH
            go_wp2_with fail
            go_ret
            exact ⟨ret_eq (by rw [HE.out]; rfl), HK0.out.drewN _⟩
          · have HE : Hid (r = cmpL (xs.drop (k + 1)) (ys.drop (k + 1))) := Lib.hid (by rw [hr2.out, if_pos g2])
            subst g1
            have t3 : decide (u < u) = false := decide_eq_false (by omega)
            clear g2
            go_wp2_with fail
            refine wp_region_rv 11 GQ (kindV []) (by kernel_rfl) (by kernel_rfl) GQ.trans GQ.refl (GQ.start _) (kindV_mono _) ?_
            simp only [List.take_succ_cons, List.take_zero, List.drop_succ_cons, List.drop_zero]
            iterate 11 (refine rv_det (by kernel_rfl) rfl (by intro w hG hH; obtain ⟨n, rfl⟩ := hG; go_simp; first | done | with_reducible rfl) ?_; simp only [Act.put, List.setIfInBounds_toArray, List.set_cons_zero, List.set_cons_succ])
            refine rv_nil (fun w hG hH => ?_)
            obtain ⟨n, rfl⟩ := hG
            clear hH
            have x1n : (wr.drewN n).cell? ⟨w0.heap.size, 1, none⟩ = some (.slice (some ⟨o1, q1, none⟩) N c) := x1
            have y1n : (wr.drewN n).cell? ⟨w0.heap.size + 1, 1, none⟩ = some (.slice (some ⟨o2, q2, none⟩) M d) := y1
            have hxn : (wr.drewN n).cell? ⟨o1, q1 + k, none⟩ = some (.int .i64 u) := hx
            have hyn : (wr.drewN n).cell? ⟨o2, q2 + k, none⟩ = some (.int .i64 u) := hy
            have HK2 := Lib.hid (HK.out.drewN n)
            generalize wr.drewN n = wz at x1n y1n hxn hyn HK2 ⊢
            clear x0 x1 y1 hx hy
            go_wp2_with fail
            refine wp_region_rv 11 GQ (kindV []) (by kernel_rfl) (by kernel_rfl) GQ.trans GQ.refl (GQ.start _) (kindV_mono _) ?_
            simp only [List.take_succ_cons, List.take_zero, List.drop_succ_cons, List.drop_zero]
            iterate 11 (refine rv_det (by kernel_rfl) rfl (by intro w hG hH; obtain ⟨n, rfl⟩ := hG; go_simp; first | done | with_reducible rfl) ?_; simp only [Act.put, List.setIfInBounds_toArray, List.set_cons_zero, List.set_cons_succ])
            refine rv_nil (fun w hG hH => ?_)
            obtain ⟨n, rfl⟩ := hG
            clear hH
            go_wp2_with fail
            refine ⟨⟨k + 1, by omega, by omega, by go_num, HK2.out.drewN _, HE⟩, by simp [intOf]; omega⟩
          · have HE : Hid (r = 1) := Lib.hid (by rw [hr2.out, if_neg (by omega), g2])
            have t3 : decide (u < v) = false := decide_eq_false (by omega)
            have t4 : decide (v < u) = true := decide_eq_true g1
            clear g1 g2
            go_wp2_with fail
            refine wp_region_rv 11 GQ (kindV []) (by kernel_rfl) (by kernel_rfl) GQ.trans GQ.refl (GQ.start _) (kindV_mono _) ?_
            simp only [List.take_succ_cons, List.take_zero, List.drop_succ_cons, List.drop_zero]
            iterate 11 (refine rv_det (by kernel_rfl) rfl (by intro w hG hH; obtain ⟨n, rfl⟩ := hG; go_simp; first | done | with_reducible rfl) ?_; simp only [Act.put, List.setIfInBounds_toArray, List.set_cons_zero, List.set_cons_succ])
            refine rv_nil (fun w hG hH => ?_)
            obtain ⟨n, rfl⟩ := hG
            clear hH
            have x1n : (wr.drewN n).cell? ⟨w0.heap.size, 1, none⟩ = some (.slice (some ⟨o1, q1, none⟩) N c) := x1
            have y1n : (wr.drewN n).cell? ⟨w0.heap.size + 1, 1, none⟩ = some (.slice (some ⟨o2, q2, none⟩) M d) := y1
            have hxn : (wr.drewN n).cell? ⟨o1, q1 + k, none⟩ = some (.int .i64 u) := hx
            have hyn : (wr.drewN n).cell? ⟨o2, q2 + k, none⟩ = some (.int .i64 v) := hy
            have HK2 := Lib.hid (HK0.out.drewN n)
            generalize wr.drewN n = wz at x1n y1n hxn hyn HK2 ⊢
            clear x0 x1 y1 hx hy
            go_wp2_with fail
            refine wp_region_rv 11 GQ (kindV []) (by kernel_rfl) (by kernel_rfl) GQ.trans GQ.refl (GQ.start _) (kindV_mono _) ?_
            simp only [List.take_succ_cons, List.take_zero, List.drop_succ_cons, List.drop_zero]
            iterate 11 (refine rv_det (by kernel_rfl) rfl (by intro w hG hH; obtain ⟨n, rfl⟩ := hG; go_simp; first | done | with_reducible rfl) ?_; simp only [Act.put, List.setIfInBounds_toArray, List.set_cons_zero, List.set_cons_succ])
            refine rv_nil (fun w hG hH => ?_)
            obtain ⟨n, rfl⟩ := hG
            clear hH
            go_wp2_with fail
            go_ret
            exact ⟨ret_eq (by rw [HE.out]; rfl), HK2.out.drewN _⟩
        · have d2 : decide ((k : Int) < (M : Int)) = false := decide_eq_false (by omega)
          have d3 : decide ((N : Int) < (M : Int)) = false := decide_eq_false (by omega)
          have d3n : decide (N < M) = false := decide_eq_false (by omega)
          have d4 : decide ((M : Int) < (N : Int)) = true := decide_eq_true (by omega)
          have d4n : decide (M < N) = true := decide_eq_true (by omega)
          have HE : Hid (r = 1) := Lib.hid (by
            rw [hrk.out, drop_intD (show k < xs.length by rw [← HL.out.1]; exact hlt), show ys.drop k = [] from List.drop_of_length_le (by rw [← HL.out.2]; omega)]; rfl)
          clear hrk
          go_wp2_with fail
          go_ret
          exact ⟨ret_eq (by rw [HE.out]; rfl), HK0.out⟩
      · obtain rfl : k = N := by omega
        have d1 : decide ((k : Int) < (k : Int)) = false := decide_eq_false (by omega)
        have hnil : xs.drop k = [] := List.drop_of_length_le (by rw [← HL.out.1]; exact Nat.le_refl _)
        by_cases hM : k < M
        · have d3 : decide ((k : Int) < (M : Int)) = true := decide_eq_true (by omega)
          have d3n : decide (k < M) = true := decide_eq_true hM
          have HE : Hid (r = -1) := Lib.hid (by
            rw [hrk.out, hnil, drop_intD (show k < ys.length by rw [← HL.out.2]; exact hM)]; rfl)
          clear hrk hnil
          go_wp2_with fail
          go_ret
          exact ⟨ret_eq (by rw [HE.out]; rfl), HK0.out⟩
        · obtain rfl : k = M := by omega
          have HE : Hid (r = 0) := Lib.hid (by
            rw [hrk.out, hnil, show ys.drop k = [] from List.drop_of_length_le (by rw [← HL.out.2]; exact Nat.le_refl _)]; rfl)
          clear hrk hnil
          go_wp2_with fail
          go_ret
          exact ⟨ret_eq (by rw [HE.out]; rfl), HK0.out⟩
set_option maxRecDepth 100000 in
set_option maxHeartbeats 8000000 in
theorem rsame_any (p q : Pl) (a b : Option Addr) (c d : Nat) (w : World) (h1 : PlAt w p a c) (h2 : PlAt w q b d) :
    Calls Tryz.prog 21 #[plV p a c, plV q b d] w fun e w' => e = .returned (.bool (decide (ordP p q = 0))) ∧ KB F0 w w' := by
  obtain ⟨w0, rfl⟩ : ∃ w0, w0 = w := ⟨_, rfl⟩
  have OR := Lib.hid (fun (W : World) (hk : KB F0 w0 W) => rorder_any p q a b c d W (h1.kbF hk) (h2.kbF hk))
  obtain ⟨x, xs⟩ := p
  obtain ⟨y, ys⟩ := q
  unfold plV at OR ⊢
  simp only at OR ⊢
  generalize ordP ⟨x, xs⟩ ⟨y, ys⟩ = n at OR ⊢
  generalize xs.length = N at OR ⊢
  generalize ys.length = M at OR ⊢
  have hB := box2 w0 x y (.slice a N c) (.slice b M d)
  obtain ⟨W2, hW2⟩ : ∃ W2, W2 = (w0.alloc (.cells #[.int .i64 x, .slice a N c] 26)).alloc (.cells #[.int .i64 y, .slice b M d] 26) := ⟨_, rfl⟩
  rw [← hW2] at hB
  have x0 : W2.cell? ⟨w0.heap.size, 0, none⟩ = some (.int .i64 x) := blk_cell hB.g1 0
  have x1 : W2.cell? ⟨w0.heap.size, 1, none⟩ = some (.slice a N c) := blk_cell hB.g1 1
  have y0 : W2.cell? ⟨w0.heap.size + 1, 0, none⟩ = some (.int .i64 y) := blk_cell hB.g2 0
  have y1 : W2.cell? ⟨w0.heap.size + 1, 1, none⟩ = some (.slice b M d) := blk_cell hB.g2 1
  have KW := Lib.hid hB.kb
  have HW := Lib.hid hW2
  clear h1 h2 hB
  rw [hW2] at x0 x1 y0 y1
  clear hW2
  go_enter Tryz.func21, Tryz.ntmps21
  go_wp2_with fail
  rw [← HW.out]
  refine (OR.out _ KW.out).mono ?_
  rintro e w3 ⟨rfl, k3⟩
  have K := Lib.hid (KW.out.trans k3)
  clear k3 x0 x1 y0 y1
  by_cases h0 : n = 0
  · subst h0
    go_wp2_with fail
    go_ret
    exact ⟨rfl, K.out⟩
  · have t1 : (n == 0) = false := by simpa using h0
    have HN := Lib.hid h0
    clear h0
    go_wp2_with fail
    go_ret
    exact ⟨ret_eq (by rw [decide_eq_false HN.out]; rfl), K.out⟩
set_option maxRecDepth 100000 in
set_option maxHeartbeats 16000000 in
theorem rprefix_any (p q : Pl) (a b : Option Addr) (c d : Nat) (w : World) (h1 : PlAt w p a c) (h2 : PlAt w q b d) :
    Calls Tryz.prog 17 #[plV p a c, plV q b d] w fun e w' => e = .returned (.bool (preB p q)) ∧ KB F0 w w' := by
  obtain ⟨w0, rfl⟩ : ∃ w0, w0 = w := ⟨_, rfl⟩
  obtain ⟨r, hr⟩ : ∃ r, r = preB p q := ⟨_, rfl⟩
  rw [← hr]
  unfold preB at hr
  have hsm := h1.small
  have hsn := h2.small
  have H12 := Lib.hid (And.intro h1.ints h2.ints)
  obtain ⟨x, xs⟩ := p
  obtain ⟨y, ys⟩ := q
  unfold plV
  simp only at hr hsm hsn H12 ⊢
  obtain ⟨N, hN⟩ : ∃ N, N = xs.length := ⟨_, rfl⟩
  obtain ⟨M, hM⟩ : ∃ M, M = ys.length := ⟨_, rfl⟩
  have HL := Lib.hid (And.intro hN hM)
  rw [← hN] at hsm ⊢
  rw [← hM] at hsn ⊢
  have Hr := Lib.hid hr
  have hB := box2 w0 x y (.slice a N c) (.slice b M d)
  obtain ⟨W2, hW2⟩ : ∃ W2, W2 = (w0.alloc (.cells #[.int .i64 x, .slice a N c] 26)).alloc (.cells #[.int .i64 y, .slice b M d] 26) := ⟨_, rfl⟩
  rw [← hW2] at hB
  have HB := Lib.hid hB
  have x0 : W2.cell? ⟨w0.heap.size, 0, none⟩ = some (.int .i64 x) := blk_cell hB.g1 0
  have x1 : W2.cell? ⟨w0.heap.size, 1, none⟩ = some (.slice a N c) := blk_cell hB.g1 1
  have y0 : W2.cell? ⟨w0.heap.size + 1, 0, none⟩ = some (.int .i64 y) := blk_cell hB.g2 0
  have y1 : W2.cell? ⟨w0.heap.size + 1, 1, none⟩ = some (.slice b M d) := blk_cell hB.g2 1
  rw [hW2] at x0 x1 y0 y1
  have HW := Lib.hid hW2
  clear h1 h2 hB hr hN hM hW2
  rw [← HL.out.1, ← HL.out.2] at Hr
  by_cases he : x = y
  case neg =>
    have t1 : (x != y) = true := by simp [he]
    have t1' : (x == y) = false := by simpa using he
    have HE : Hid (r = false) := Lib.hid (by rw [Hr.out, decide_eq_false he]; rfl)
    clear he
    go_enter Tryz.func17, Tryz.ntmps17
    go_wp2_with fail
    go_ret
    exact ⟨ret_eq (by rw [HE.out]; rfl), by rw [← HW.out]; exact HB.out.kb⟩
  subst he
  by_cases hl : N ≤ M
  case neg =>
    have t2 : decide ((M : Int) < (N : Int)) = true := decide_eq_true (by omega)
    have t2n : decide (M < N) = true := decide_eq_true (by omega)
    have HE : Hid (r = false) := Lib.hid (by rw [Hr.out, decide_eq_false hl]; simp)
    clear hl
    go_enter Tryz.func17, Tryz.ntmps17
    go_wp2_with fail
    go_ret
    exact ⟨ret_eq (by rw [HE.out]; rfl), by rw [← HW.out]; exact HB.out.kb⟩
  have t2 : decide ((M : Int) < (N : Int)) = false := decide_eq_false (by omega)
  have t2n : decide (M < N) = false := decide_eq_false (by omega)
  have Hr2 : Hid (r = decide (ys.take N = xs)) := Lib.hid (by rw [Hr.out, decide_eq_true hl]; simp)
  go_enter Tryz.func17, Tryz.ntmps17
  go_wp2_with fail
  rw [← HW.out]
  clear x0 x1 y0 y1
  go_loopw [5] (fun kv wr => ∃ k : Nat, k ≤ N ∧ kv = .int .i64 (k : Nat) ∧ KB F0 W2 wr ∧ Hid (∀ i, i < k → xs.getD i 0 = ys.getD i 0)) (fun kv _ => N - (intOf kv).toNat)
  case atStart => exact ⟨0, by omega, rfl, KB.refl _ _, Lib.hid (fun i hi => by omega)⟩
  case round =>
    obtain ⟨k, hk, rfl, hkb, hall⟩ := hrel
    have bx := hkb.heap (fun x => x) HB.out.g1
    have b2 := hkb.heap (fun x => x) HB.out.g2
    have x0 : wr.cell? ⟨w0.heap.size, 0, none⟩ = some (.int .i64 x) := blk_cell bx 0
    have x1 : wr.cell? ⟨w0.heap.size, 1, none⟩ = some (.slice a N c) := blk_cell bx 1
    have y1 : wr.cell? ⟨w0.heap.size + 1, 1, none⟩ = some (.slice b M d) := blk_cell b2 1
    have HK := Lib.hid hkb
    have HK0 := Lib.hid (HB.out.kb.trans hkb)
    clear hkb bx b2
    by_cases hlt : k < N
    · have d1 : decide ((k : Int) < (N : Int)) = true := decide_eq_true (by omega)
      have ik : (k : Int) < (N : Int) := by omega
      have ikM : (k : Int) < (M : Int) := by omega
      have hkx : k < xs.length := by rw [← HL.out.1]; exact hlt
      have hky : k < ys.length := by rw [← HL.out.2]; omega
      obtain ⟨o1, q1, rfl, hx0⟩ := H12.out.1 k hkx
      obtain ⟨o2, q2, rfl, hy0⟩ := H12.out.2 k hky
      have hx := HK0.out.cell (p := ⟨o1, q1 + k, none⟩) (fun x => x) hx0
      have hy := HK0.out.cell (p := ⟨o2, q2 + k, none⟩) (fun x => x) hy0
      have Hn : Hid (xs.getD k 0 ≠ ys.getD k 0 → r = false) := Lib.hid (fun h => by
        rw [Hr2.out]
        refine decide_eq_false (fun e => h ?_)
        rw [← e, List.getD_eq_getElem?_getD, List.getElem?_take_of_lt hlt, ← List.getD_eq_getElem?_getD])
      have Hy : Hid (xs.getD k 0 = ys.getD k 0 → ∀ i, i < k + 1 → xs.getD i 0 = ys.getD i 0) := Lib.hid (fun e i hi => by
        rcases Nat.lt_or_eq_of_le (Nat.lt_succ_iff.1 hi) with h' | rfl
        · exact hall.out i h'
        · exact e)
      obtain ⟨u, hue⟩ : ∃ u, u = xs.getD k 0 := ⟨_, rfl⟩
      obtain ⟨v, hve⟩ : ∃ v, v = ys.getD k 0 := ⟨_, rfl⟩
      rw [← hue] at hx Hn Hy
      rw [← hve] at hy Hn Hy
      clear hx0 hy0 hkx hky hue hve hall
      by_cases huv : u = v
      · have hall2 := Lib.hid (Hy.out huv)
        subst huv
        clear Hn Hy
        go_wp2_with fail
        refine wp_region_rv 11 GQ (kindV []) (by kernel_rfl) (by kernel_rfl) GQ.trans GQ.refl (GQ.start _) (kindV_mono _) ?_
        simp only [List.take_succ_cons, List.take_zero, List.drop_succ_cons, List.drop_zero]
        iterate 11 (refine rv_det (by kernel_rfl) rfl (by intro w hG hH; obtain ⟨n, rfl⟩ := hG; go_simp; first | done | with_reducible rfl) ?_; simp only [Act.put, List.setIfInBounds_toArray, List.set_cons_zero, List.set_cons_succ])
        refine rv_nil (fun w hG hH => ?_)
        obtain ⟨n, rfl⟩ := hG
        clear hH
        go_wp2_with fail
        refine ⟨⟨k + 1, by omega, by go_num, HK.out.drewN _, hall2⟩, by simp [intOf]; omega⟩
      · have HE := Lib.hid (Hn.out huv)
        have t3 : (u == v) = false := by simpa using huv
        have t4 : (u != v) = true := by simpa using huv
        clear huv Hn Hy
        go_wp2_with fail
        refine wp_region_rv 11 GQ (kindV []) (by kernel_rfl) (by kernel_rfl) GQ.trans GQ.refl (GQ.start _) (kindV_mono _) ?_
        simp only [List.take_succ_cons, List.take_zero, List.drop_succ_cons, List.drop_zero]
        iterate 11 (refine rv_det (by kernel_rfl) rfl (by intro w hG hH; obtain ⟨n, rfl⟩ := hG; go_simp; first | done | with_reducible rfl) ?_; simp only [Act.put, List.setIfInBounds_toArray, List.set_cons_zero, List.set_cons_succ])
        refine rv_nil (fun w hG hH => ?_)
        obtain ⟨n, rfl⟩ := hG
        clear hH
        go_wp2_with fail
        go_ret
        exact ⟨ret_eq (by rw [HE.out]; rfl), HK0.out.drewN _⟩
    · obtain rfl : k = N := by omega
      have d1 : decide ((k : Int) < (k : Int)) = false := decide_eq_false (by omega)
      have HE : Hid (r = true) := Lib.hid (by
        rw [Hr2.out]
        refine decide_eq_true (eq_step ?_ fun i hi => ?_)
        · rw [List.length_take, ← HL.out.1, ← HL.out.2]; omega
        · rw [List.length_take, ← HL.out.2] at hi
          rw [List.getD_eq_getElem?_getD, List.getElem?_take_of_lt (by omega), ← List.getD_eq_getElem?_getD]
          exact (hall.out i (by omega)).symm)
      clear hall
      go_wp2_with fail
      go_ret
      exact ⟨ret_eq (by rw [HE.out]; rfl), HK0.out⟩
end Go.Proofs.YtpigppghcghpbaaGreatDoor

/- loanwordlaw09.PlaceOrders. -/
import Derived.Test.YtpigppghcghpbaaGreatDoorPlZe
import Derived.Test.YtpigppghcghpbaaGreatDoorPlZb
import Derived.Test.YtpigppghcghpbaaGreatDoorPlOb
namespace Go.Proofs.YtpigppghcghpbaaGreatDoor
open Go.RowKit

set_option maxRecDepth 100000 in
set_option maxHeartbeats 64000000 in
theorem orders_any (p q : Pl) (h64p : Pl64 p) (ap aq : Option Addr) (cp cq : Nat) (s : ByteArray) (w : World) (hT : TabP w) (hp : IntsAt w ap p.path) (hq : IntsAt w aq q.path) (hcp : p.path.length ≤ cp) (hcq : q.path.length ≤ cq) :
    Calls Tryz.prog 4 #[plV p ap cp, plV q aq cq, .string s] w fun e w' => e = .returned (.bool true) ∧ KB F0 w w' := by
  obtain ⟨w0, rfl⟩ : ∃ w0, w0 = w := ⟨_, rfl⟩
  obtain ⟨Np, hNp⟩ : ∃ N, N = p.path.length := ⟨_, rfl⟩
  obtain ⟨Nq, hNq⟩ : ∃ N, N = q.path.length := ⟨_, rfl⟩
  obtain ⟨lp, hlp⟩ : ∃ x, x = p.loc := ⟨_, rfl⟩
  obtain ⟨lq, hlq⟩ : ∃ x, x = q.loc := ⟨_, rfl⟩
  obtain ⟨hk3, hb1, hb2, hb3, -⟩ := new3 w0 #[.int .i64 lp, .slice ap Np cp] #[.int .i64 lq, .slice aq Nq cq] #[.int .i64 lp, .slice ap Np cp, .int .i64 lq, .slice aq Nq cq] 26 26 26
  obtain ⟨W, hW⟩ : ∃ W, W = (((w0.alloc (.cells #[.int .i64 lp, .slice ap Np cp] 26)).alloc (.cells #[.int .i64 lq, .slice aq Nq cq] 26)).alloc (.cells #[.int .i64 lp, .slice ap Np cp, .int .i64 lq, .slice aq Nq cq] 26)) := ⟨_, rfl⟩
  rw [← hW] at hk3 hb1 hb2 hb3
  have FT := Lib.hid (fits2_any (w0.heap.size + 1 + 1) ap Np cp aq Nq cq W (blk_cell hb3 1) (blk_cell hb3 3))
  have HB := Lib.hid (And.intro hk3 (And.intro hb1 hb2))
  have AW := Lib.hid (fun (V : World) (hk : KB F0 W V) => awake_any V (hT.kb (hk3.trans hk)))
  have HP := Lib.hid (fun (hl : Np ≤ 60) (V : World) (hk : KB F0 W V) => (show PlAt V p ap cp from ⟨hp.kbF (hk3.trans hk), hcp, by omega⟩))
  have HQ := Lib.hid (fun (hl : Nq ≤ 60) (V : World) (hk : KB F0 W V) => (show PlAt V q aq cq from ⟨hq.kbF (hk3.trans hk), hcq, by omega⟩))
  have HT := Lib.hid hT
  have HW := Lib.hid hW
  have HN := Lib.hid (And.intro hNp (And.intro hNq (And.intro hlp (And.intro hlq h64p))))
  have ep : ∀ a c, plV p a c = .agg #[.int .i64 lp, .slice a Np c] := fun a c => by rw [hlp, hNp]; rfl
  have eq : ∀ a c, plV q a c = .agg #[.int .i64 lq, .slice a Nq c] := fun a c => by rw [hlq, hNq]; rfl
  rw [ep, eq]
  have HE := Lib.hid (And.intro ep eq)
  clear hk3 hb1 hb2 hb3 hW hT hp hq hcp hcq hNp hNq hlp hlq ep eq h64p
  go_enter Tryz.func4, Tryz.ntmps4
  go_wp2_with fail
  rw [← HW.out]
  refine FT.out.mono ?_
  rintro e w1 ⟨rfl, rfl⟩
  by_cases h60 : Np ≤ 60 ∧ Nq ≤ 60
  case neg =>
    rw [decide_eq_false h60]
    clear h60
    go_wp2_with fail
    refine (AW.out _ (KB.refl _ _)).mono ?_
    rintro e w2 ⟨rfl, k1⟩
    have K1 := Lib.hid (HB.out.1.trans k1)
    clear k1
    go_wp2_with fail
    go_ret
    exact ⟨rfl, K1.out⟩
  rw [decide_eq_true h60]
  by_cases hs : s.size ≤ 4096
  case neg =>
    have d1 : decide ((4096 : Int) < (s.size : Int)) = true := decide_eq_true (by omega)
    have d1n : decide (4096 < s.size) = true := decide_eq_true (by omega)
    clear h60 hs
    go_wp2_with fail
    refine (AW.out _ (KB.refl _ _)).mono ?_
    rintro e w2 ⟨rfl, k1⟩
    have K1 := Lib.hid (HB.out.1.trans k1)
    clear k1 d1 d1n
    go_wp2_with fail
    go_ret
    exact ⟨rfl, K1.out⟩
  have d1 : decide ((4096 : Int) < (s.size : Int)) = false := decide_eq_false (by omega)
  have d1n : decide (4096 < s.size) = false := decide_eq_false (by omega)
  have H60 := Lib.hid (And.intro h60 hs)
  have LP := Lib.hid (fun (V : World) (hk : KB F0 w1 V) => lent_nw p ap cp V (HP.out h60.1 V hk))
  have LQ := Lib.hid (fun (V : World) (hk : KB F0 w1 V) => lent_nw q aq cq V (HQ.out h60.2 V hk))
  have x0 : w1.cell? ⟨w0.heap.size, 0, none⟩ = some (.int .i64 lp) := blk_cell HB.out.2.1 0
  have x1 : w1.cell? ⟨w0.heap.size, 1, none⟩ = some (.slice ap Np cp) := blk_cell HB.out.2.1 1
  have y0 : w1.cell? ⟨w0.heap.size + 1, 0, none⟩ = some (.int .i64 lq) := blk_cell HB.out.2.2 0
  have y1 : w1.cell? ⟨w0.heap.size + 1, 1, none⟩ = some (.slice aq Nq cq) := blk_cell HB.out.2.2 1
  obtain ⟨zp, hzp⟩ : ∃ z, z = p.path := ⟨_, rfl⟩
  obtain ⟨zq, hzq⟩ : ∃ z, z = q.path := ⟨_, rfl⟩
  have HZ := Lib.hid (And.intro hzp hzq)
  simp only [HE.out.1, HE.out.2] at LP LQ
  simp only [← HN.out.1, ← HN.out.2.1, ← HN.out.2.2.1, ← HN.out.2.2.2.1] at LP LQ
  simp only [← hzp, ← hzq] at LP LQ
  clear h60 hs hzp hzq
  go_upto_region 3 with fail
  clear d1 d1n
  refine St.wp_region_rn 6 GK (St.kindS [(1, LentV lp Np, LentW w1.heap.size lp Np (zp ++ [77])), (3, LentV lq Nq, LentW w1.heap.size lq Nq (zq ++ [77])), (4, St.IsPtr, St.NewAt w1.heap.size #[.int .i64 0, .slice none 0 0] 26), (5, St.IsPtr, St.NewAt w1.heap.size #[.int .i64 0, .slice none 0 0] 26)]) (by kernel_rfl) (by kernel_rfl) (kb_trans _) (kb_refl _) (kb_start _ _) (fun _ _ h => h.size) (St.kindS_mono _ (by intro p hp; simp only [List.mem_cons, List.not_mem_nil, or_false] at hp; rcases hp with rfl | rfl | rfl | rfl <;> first | exact lentW_kb | exact St.newAt_kb)) ?_
  simp only [List.take_succ_cons, List.take_zero, List.drop_succ_cons, List.drop_zero]
  refine St.rn_det (by kernel_rfl) rfl (by intro w hG hH; have hc0 := KB.cell hG (fun x => x) (x0); have hc1 := KB.cell hG (fun x => x) (x1); go_simp; first | done | with_reducible rfl) ?_
  simp only [Act.put, List.setIfInBounds_toArray, List.set_cons_zero, List.set_cons_succ]
  refine St.rn_plain (by kernel_rfl) rfl (lentV_ex _ _) (fun _ _ h => h.size) (by
    intro w hG hH
    refine St.opVal_call (by go_simp; first | done | exact ⟨⟨rfl, rfl⟩, rfl⟩) ?_
    refine (LP.out _ hG).mono ?_
    rintro e w' ⟨v, rfl, hv, hk, hw⟩
    exact ⟨_, rfl, hv, hk, fun g => hw _ g hG.size⟩) ?_
  rintro v i1 ⟨g1, e1, rfl, he1⟩
  simp only [Act.put, List.setIfInBounds_toArray, List.set_cons_zero, List.set_cons_succ]
  refine St.rn_det (by kernel_rfl) rfl (by intro w hG hH; have hc0 := KB.cell hG (fun x => x) (y0); have hc1 := KB.cell hG (fun x => x) (y1); go_simp; first | done | with_reducible rfl) ?_
  simp only [Act.put, List.setIfInBounds_toArray, List.set_cons_zero, List.set_cons_succ]
  refine St.rn_plain (by kernel_rfl) rfl (lentV_ex _ _) (fun _ _ h => h.size) (by
    intro w hG hH
    refine St.opVal_call (by go_simp; first | done | exact ⟨⟨rfl, rfl⟩, rfl⟩) ?_
    refine (LQ.out _ hG).mono ?_
    rintro e w' ⟨v, rfl, hv, hk, hw⟩
    exact ⟨_, rfl, hv, hk, fun g => hw _ g hG.size⟩) ?_
  rintro v i2 ⟨g2, e2, rfl, he2⟩
  simp only [Act.put, List.setIfInBounds_toArray, List.set_cons_zero, List.set_cons_succ]
  refine St.rn_rel (by kernel_rfl) rfl St.isPtr_ex (fun w hG hH => St.opVal_new hG (by go_simp; first | done | rfl)) ?_
  rintro v j7 ⟨n7, rfl⟩ - hd7
  simp only [Act.put, List.setIfInBounds_toArray, List.set_cons_zero, List.set_cons_succ]
  refine St.rn_rel (by kernel_rfl) rfl St.isPtr_ex (fun w hG hH => St.opVal_new hG (by go_simp; first | done | rfl)) ?_
  rintro v j8 ⟨n8, rfl⟩ - hd8
  simp only [Act.put, List.setIfInBounds_toArray, List.set_cons_zero, List.set_cons_succ]
  refine St.rn_nil (fun w hG hH => ?_)
  have f8 := hH _ List.mem_cons_self
  have f7 := hH _ (List.mem_cons_of_mem _ List.mem_cons_self)
  have f2 := hH _ (List.mem_cons_of_mem _ (List.mem_cons_of_mem _ List.mem_cons_self))
  have f1 := hH _ (List.mem_cons_of_mem _ (List.mem_cons_of_mem _ (List.mem_cons_of_mem _ List.mem_cons_self)))
  simp only at f8 f7 f2 f1
  have hne : n7 ≠ n8 := St.newAt_ne f7 f8 (hd8 _ List.mem_cons_self)
  obtain ⟨hW2, hA, hB⟩ := lent_two (x := lp) (y := lq) hG (f7 n7 rfl).1 (f8 n8 rfl).1 hne (f7 n7 rfl).2.2 (f8 n8 rfl).2.2 he1 he2 (f1 g1 e1 rfl) (f2 g2 e2 rfl)
  have u0 : w.cell? ⟨n7, 0, none⟩ = some (.int .i64 0) := blk_cell (f7 n7 rfl).2.2 0
  have u1 : w.cell? ⟨n7, 1, none⟩ = some (.slice none 0 0) := blk_cell (f7 n7 rfl).2.2 1
  have v0 : w.cell? ⟨n8, 0, none⟩ = some (.int .i64 0) := blk_cell (f8 n8 rfl).2.2 0
  have v1 : w.cell? ⟨n8, 1, none⟩ = some (.slice none 0 0) := blk_cell (f8 n8 rfl).2.2 1
  have r0 := blk_frozen (f7 n7 rfl).2.2 0
  have r1 := blk_frozen (f7 n7 rfl).2.2 1
  have r2 := blk_frozen (f8 n8 rfl).2.2 0
  have r3 := blk_frozen (f8 n8 rfl).2.2 1
  have hne2 := hne.symm
  have HA := Lib.hid (And.intro hW2 (And.intro hA hB))
  clear hW2 hA hB f8 f7 f2 f1 hH hG hd7 hd8 he1 he2
  go_upto_region 4 with fail
  obtain ⟨w2, hw2⟩ : ∃ W, W = (((w.setCell ⟨n7, 0, none⟩ (.int .i64 lp)).setCell ⟨n7, 1, none⟩ (.slice (some ⟨g1, 0, none⟩) Np e1)).setCell ⟨n8, 0, none⟩ (.int .i64 lq)).setCell ⟨n8, 1, none⟩ (.slice (some ⟨g2, 0, none⟩) Nq e2) := ⟨_, rfl⟩
  rw [← hw2] at HA ⊢
  clear hw2 u0 u1 v0 v1 r0 r1 r2 r3 hne hne2 x0 x1 y0 y1 LP LQ
  have KA := Lib.hid HA.out.1
  have LA : Hid (LentAt w2 w1.heap.size p.loc p.path.length p.path n7 g1 e1) := Lib.hid (by have h := HA.out.2.1; rw [HN.out.1, HN.out.2.2.1, HZ.out.1] at h; exact h)
  have LB : Hid (LentAt w2 w1.heap.size q.loc q.path.length q.path n8 g2 e2) := Lib.hid (by have h := HA.out.2.2; rw [HN.out.2.1, HN.out.2.2.2.1, HZ.out.2] at h; exact h)
  have hs1 : p.path.length ≤ 100000 := by rw [← HN.out.1]; have := H60.out.1.1; omega
  have hs2 : q.path.length ≤ 100000 := by rw [← HN.out.2.1]; have := H60.out.1.2; omega
  have PA := Lib.hid (fun (V : World) (hk : KB F0 w2 V) => And.intro ((LA.out.kbF hk).pl hs1) ((LB.out.kbF hk).pl hs2))
  have PP := Lib.hid (fun (V : World) (hk : KB F0 w1 V) => And.intro (HP.out H60.out.1.1 V hk) (HQ.out H60.out.1.2 V hk))
  have hT2 : TabP w2 := HT.out.kb (HB.out.1.trans KA.out)
  have C1 := fun (V : World) (hk : KB F0 w2 V) => And.intro (prefix_any p q (some ⟨g1, 0, none⟩) (some ⟨g2, 0, none⟩) e1 e2 V (PA.out V hk).1 (PA.out V hk).2) (rprefix_any p q ap aq cp cq V (PP.out V (KA.out.trans hk)).1 (PP.out V (KA.out.trans hk)).2)
  have C2 := fun (V : World) (hk : KB F0 w2 V) => And.intro (order_any p q (some ⟨g1, 0, none⟩) (some ⟨g2, 0, none⟩) e1 e2 V (PA.out V hk).1 (PA.out V hk).2) (rorder_any p q ap aq cp cq V (PP.out V (KA.out.trans hk)).1 (PP.out V (KA.out.trans hk)).2)
  have C3 := fun (V : World) (hk : KB F0 w2 V) => And.intro (same_any p q (some ⟨g1, 0, none⟩) (some ⟨g2, 0, none⟩) e1 e2 V (PA.out V hk).1 (PA.out V hk).2) (rsame_any p q ap aq cp cq V (PP.out V (KA.out.trans hk)).1 (PP.out V (KA.out.trans hk)).2)
  have C4 := fun (V : World) (hk : KB F0 w2 V) => And.intro (text_any p HN.out.2.2.2.2 (some ⟨g1, 0, none⟩) e1 V (hT2.kb hk) (PA.out V hk).1) (rtext_any p HN.out.2.2.2.2 ap cp V (hT2.kb hk) (PP.out V (KA.out.trans hk)).1)
  have C5 := fun (V : World) (hk : KB F0 w2 V) => And.intro (pres_nw p (some ⟨g1, 0, none⟩) e1 V (PA.out V hk).1) (rpres_nw p ap cp V (PP.out V (KA.out.trans hk)).1)
  have C6 := fun (V : World) (hk : KB F0 w2 V) => And.intro ((LA.out.kbF hk).kept ap cp (PP.out V (KA.out.trans hk)).1) ((LB.out.kbF hk).kept aq cq (PP.out V (KA.out.trans hk)).2)
  simp only [HE.out.1, HE.out.2, ← HN.out.1, ← HN.out.2.1, ← HN.out.2.2.1, ← HN.out.2.2.2.1] at C1 C2 C3 C4 C5 C6
  obtain ⟨r1, hr1⟩ : ∃ r, r = preB p q := ⟨_, rfl⟩
  obtain ⟨r2, hr2⟩ : ∃ r, r = ordP p q := ⟨_, rfl⟩
  rw [← hr1] at C1
  rw [← hr2] at C2 C3
  obtain ⟨r3, hr3⟩ : ∃ r, r = decide (r2 = 0) := ⟨_, rfl⟩
  rw [← hr3] at C3
  obtain ⟨r4, hr4⟩ : ∃ r : ByteArray, r = ⟨(textP p).toArray⟩ := ⟨_, rfl⟩
  rw [← hr4] at C4
  obtain ⟨M, hM⟩ : ∃ M, M = Np + 1 := ⟨_, rfl⟩
  rw [← hM] at C5
  have HM := Lib.hid hM
  have D1 := Lib.hid C1
  have D2 := Lib.hid C2
  have D3 := Lib.hid C3
  have D4 := Lib.hid C4
  have D5 := Lib.hid C5
  have D6 := Lib.hid C6
  have a0 : w2.cell? ⟨n7, 0, none⟩ = some (.int .i64 lp) := blk_cell HA.out.2.1.cell 0
  have a1 : w2.cell? ⟨n7, 1, none⟩ = some (.slice (some ⟨g1, 0, none⟩) Np e1) := blk_cell HA.out.2.1.cell 1
  have b0 : w2.cell? ⟨n8, 0, none⟩ = some (.int .i64 lq) := blk_cell HA.out.2.2.cell 0
  have b1 : w2.cell? ⟨n8, 1, none⟩ = some (.slice (some ⟨g2, 0, none⟩) Nq e2) := blk_cell HA.out.2.2.cell 1
  have x0 : w2.cell? ⟨w0.heap.size, 0, none⟩ = some (.int .i64 lp) := KA.out.cell (p := ⟨w0.heap.size, 0, none⟩) (fun x => x) (blk_cell HB.out.2.1 0)
  have x1 : w2.cell? ⟨w0.heap.size, 1, none⟩ = some (.slice ap Np cp) := KA.out.cell (p := ⟨w0.heap.size, 1, none⟩) (fun x => x) (blk_cell HB.out.2.1 1)
  have y0 : w2.cell? ⟨w0.heap.size + 1, 0, none⟩ = some (.int .i64 lq) := KA.out.cell (p := ⟨w0.heap.size + 1, 0, none⟩) (fun x => x) (blk_cell HB.out.2.2 0)
  have y1 : w2.cell? ⟨w0.heap.size + 1, 1, none⟩ = some (.slice aq Nq cq) := KA.out.cell (p := ⟨w0.heap.size + 1, 1, none⟩) (fun x => x) (blk_cell HB.out.2.2 1)
  clear C1 C2 C3 C4 C5 C6 hr1 hr2 hr3 hr4 hM hs1 hs2 hT2
  refine wp_region_rv 32 GK (kindW [(2, (fun v => v = .bool r1), (fun _ _ => True)), (5, (fun v => v = .bool r1), (fun _ _ => True)), (10, (fun v => v = .int .i64 r2), (fun _ _ => True)), (13, (fun v => v = .int .i64 r2), (fun _ _ => True)), (19, (fun v => v = .bool r3), (fun _ _ => True)), (22, (fun v => v = .bool r3), (fun _ _ => True)), (27, (fun v => v = .string r4), (fun _ _ => True)), (29, (fun v => v = .string r4), (fun _ _ => True))]) (by kernel_rfl) (by kernel_rfl) (kb_trans _) (kb_refl _) (kb_start _ _) (kindW_mono _ (by intro p hp; simp only [List.mem_cons, List.not_mem_nil, or_false] at hp; rcases hp with rfl | rfl | rfl | rfl | rfl | rfl | rfl | rfl <;> exact lasts_true)) ?_
  simp only [List.take_succ_cons, List.take_zero, List.drop_succ_cons, List.drop_zero]
  iterate 2 (refine rv_det (by kernel_rfl) rfl (by intro w hG hH; have hc0 := KB.cell hG (fun x => x) (a0); have hc1 := KB.cell hG (fun x => x) (a1); have hc2 := KB.cell hG (fun x => x) (b0); have hc3 := KB.cell hG (fun x => x) (b1); go_simp; first | done | with_reducible rfl) ?_; simp only [Act.put, List.setIfInBounds_toArray, List.set_cons_zero, List.set_cons_succ])
  refine rv_rel (by kernel_rfl) rfl ⟨_, rfl⟩ (by
    intro w hG hH
    refine opVal_call (by go_simp; first | done | exact ⟨⟨rfl, rfl⟩, rfl⟩) ?_
    refine ((D1.out _ hG).1).mono ?_
    rintro e w' ⟨rfl, hq⟩
    exact ⟨_, rfl, rfl, by first | (obtain ⟨nq, rfl⟩ := hq; exact (KB.refl _ _).drewN _) | (subst hq; exact KB.refl _ _) | exact hq, trivial⟩) ?_
  rintro v rfl
  simp only [Act.put, List.setIfInBounds_toArray, List.set_cons_zero, List.set_cons_succ]
  iterate 2 (refine rv_det (by kernel_rfl) rfl (by intro w hG hH; have hc0 := KB.cell hG (fun x => x) (x0); have hc1 := KB.cell hG (fun x => x) (x1); have hc2 := KB.cell hG (fun x => x) (y0); have hc3 := KB.cell hG (fun x => x) (y1); go_simp; first | done | with_reducible rfl) ?_; simp only [Act.put, List.setIfInBounds_toArray, List.set_cons_zero, List.set_cons_succ])
  refine rv_rel (by kernel_rfl) rfl ⟨_, rfl⟩ (by
    intro w hG hH
    refine opVal_call (by go_simp; first | done | exact ⟨⟨rfl, rfl⟩, rfl⟩) ?_
    refine ((D1.out _ hG).2).mono ?_
    rintro e w' ⟨rfl, hq⟩
    exact ⟨_, rfl, rfl, by first | (obtain ⟨nq, rfl⟩ := hq; exact (KB.refl _ _).drewN _) | (subst hq; exact KB.refl _ _) | exact hq, trivial⟩) ?_
  rintro v rfl
  simp only [Act.put, List.setIfInBounds_toArray, List.set_cons_zero, List.set_cons_succ]
  iterate 4 (refine rv_det (by kernel_rfl) rfl (by intro w hG hH; have hc0 := KB.cell hG (fun x => x) (a0); have hc1 := KB.cell hG (fun x => x) (a1); have hc2 := KB.cell hG (fun x => x) (b0); have hc3 := KB.cell hG (fun x => x) (b1); go_simp; first | done | with_reducible rfl) ?_; simp only [Act.put, List.setIfInBounds_toArray, List.set_cons_zero, List.set_cons_succ])
  refine rv_rel (by kernel_rfl) rfl ⟨_, rfl⟩ (by
    intro w hG hH
    refine opVal_call (by go_simp; first | done | exact ⟨⟨rfl, rfl⟩, rfl⟩) ?_
    refine ((D2.out _ hG).1).mono ?_
    rintro e w' ⟨rfl, hq⟩
    exact ⟨_, rfl, rfl, by first | (obtain ⟨nq, rfl⟩ := hq; exact (KB.refl _ _).drewN _) | (subst hq; exact KB.refl _ _) | exact hq, trivial⟩) ?_
  rintro v rfl
  simp only [Act.put, List.setIfInBounds_toArray, List.set_cons_zero, List.set_cons_succ]
  iterate 2 (refine rv_det (by kernel_rfl) rfl (by intro w hG hH; have hc0 := KB.cell hG (fun x => x) (x0); have hc1 := KB.cell hG (fun x => x) (x1); have hc2 := KB.cell hG (fun x => x) (y0); have hc3 := KB.cell hG (fun x => x) (y1); go_simp; first | done | with_reducible rfl) ?_; simp only [Act.put, List.setIfInBounds_toArray, List.set_cons_zero, List.set_cons_succ])
  refine rv_rel (by kernel_rfl) rfl ⟨_, rfl⟩ (by
    intro w hG hH
    refine opVal_call (by go_simp; first | done | exact ⟨⟨rfl, rfl⟩, rfl⟩) ?_
    refine ((D2.out _ hG).2).mono ?_
    rintro e w' ⟨rfl, hq⟩
    exact ⟨_, rfl, rfl, by first | (obtain ⟨nq, rfl⟩ := hq; exact (KB.refl _ _).drewN _) | (subst hq; exact KB.refl _ _) | exact hq, trivial⟩) ?_
  rintro v rfl
  simp only [Act.put, List.setIfInBounds_toArray, List.set_cons_zero, List.set_cons_succ]
  iterate 5 (refine rv_det (by kernel_rfl) rfl (by intro w hG hH; have hc0 := KB.cell hG (fun x => x) (a0); have hc1 := KB.cell hG (fun x => x) (a1); have hc2 := KB.cell hG (fun x => x) (b0); have hc3 := KB.cell hG (fun x => x) (b1); go_simp; first | done | with_reducible rfl) ?_; simp only [Act.put, List.setIfInBounds_toArray, List.set_cons_zero, List.set_cons_succ])
  refine rv_rel (by kernel_rfl) rfl ⟨_, rfl⟩ (by
    intro w hG hH
    refine opVal_call (by go_simp; first | done | exact ⟨⟨rfl, rfl⟩, rfl⟩) ?_
    refine ((D3.out _ hG).1).mono ?_
    rintro e w' ⟨rfl, hq⟩
    exact ⟨_, rfl, rfl, by first | (obtain ⟨nq, rfl⟩ := hq; exact (KB.refl _ _).drewN _) | (subst hq; exact KB.refl _ _) | exact hq, trivial⟩) ?_
  rintro v rfl
  simp only [Act.put, List.setIfInBounds_toArray, List.set_cons_zero, List.set_cons_succ]
  iterate 2 (refine rv_det (by kernel_rfl) rfl (by intro w hG hH; have hc0 := KB.cell hG (fun x => x) (x0); have hc1 := KB.cell hG (fun x => x) (x1); have hc2 := KB.cell hG (fun x => x) (y0); have hc3 := KB.cell hG (fun x => x) (y1); go_simp; first | done | with_reducible rfl) ?_; simp only [Act.put, List.setIfInBounds_toArray, List.set_cons_zero, List.set_cons_succ])
  refine rv_rel (by kernel_rfl) rfl ⟨_, rfl⟩ (by
    intro w hG hH
    refine opVal_call (by go_simp; first | done | exact ⟨⟨rfl, rfl⟩, rfl⟩) ?_
    refine ((D3.out _ hG).2).mono ?_
    rintro e w' ⟨rfl, hq⟩
    exact ⟨_, rfl, rfl, by first | (obtain ⟨nq, rfl⟩ := hq; exact (KB.refl _ _).drewN _) | (subst hq; exact KB.refl _ _) | exact hq, trivial⟩) ?_
  rintro v rfl
  simp only [Act.put, List.setIfInBounds_toArray, List.set_cons_zero, List.set_cons_succ]
  iterate 4 (refine rv_det (by kernel_rfl) rfl (by intro w hG hH; have hc0 := KB.cell hG (fun x => x) (a0); have hc1 := KB.cell hG (fun x => x) (a1); go_simp; first | done | with_reducible rfl) ?_; simp only [Act.put, List.setIfInBounds_toArray, List.set_cons_zero, List.set_cons_succ])
  refine rv_rel (by kernel_rfl) rfl ⟨_, rfl⟩ (by
    intro w hG hH
    refine opVal_call (by go_simp; first | done | exact ⟨⟨rfl, rfl⟩, rfl⟩) ?_
    refine ((D4.out _ hG).1).mono ?_
    rintro e w' ⟨rfl, hq⟩
    exact ⟨_, rfl, rfl, by first | (obtain ⟨nq, rfl⟩ := hq; exact (KB.refl _ _).drewN _) | (subst hq; exact KB.refl _ _) | exact hq, trivial⟩) ?_
  rintro v rfl
  simp only [Act.put, List.setIfInBounds_toArray, List.set_cons_zero, List.set_cons_succ]
  refine rv_det (by kernel_rfl) rfl (by intro w hG hH; have hc0 := KB.cell hG (fun x => x) (x0); have hc1 := KB.cell hG (fun x => x) (x1); go_simp; first | done | with_reducible rfl) ?_
  simp only [Act.put, List.setIfInBounds_toArray, List.set_cons_zero, List.set_cons_succ]
  refine rv_rel (by kernel_rfl) rfl ⟨_, rfl⟩ (by
    intro w hG hH
    refine opVal_call (by go_simp; first | done | exact ⟨⟨rfl, rfl⟩, rfl⟩) ?_
    refine ((D4.out _ hG).2).mono ?_
    rintro e w' ⟨rfl, hq⟩
    exact ⟨_, rfl, rfl, by first | (obtain ⟨nq, rfl⟩ := hq; exact (KB.refl _ _).drewN _) | (subst hq; exact KB.refl _ _) | exact hq, trivial⟩) ?_
  rintro v rfl
  simp only [Act.put, List.setIfInBounds_toArray, List.set_cons_zero, List.set_cons_succ]
  iterate 2 (refine rv_det (by kernel_rfl) rfl (by intro w hG hH; go_simp; first | done | with_reducible rfl) ?_; simp only [Act.put, List.setIfInBounds_toArray, List.set_cons_zero, List.set_cons_succ])
  refine rv_nil (fun w hG hH => ?_)
  obtain ⟨w3, rfl⟩ : ∃ W, W = w := ⟨_, rfl⟩
  have K3 := Lib.hid hG
  have a0' := K3.out.cell (p := ⟨n7, 0, none⟩) (fun x => x) a0
  have a1' := K3.out.cell (p := ⟨n7, 1, none⟩) (fun x => x) a1
  have HC := Lib.hid (And.intro a0 (And.intro a1 (And.intro b0 (And.intro b1 (And.intro x0 (And.intro x1 (And.intro y0 y1)))))))
  clear hG hH a0 a1 b0 b1 x0 x1 y0 y1 D1 D2 D3 D4
  go_upto_region 6 with fail
  refine St.wp_region_rn 6 GK (St.kindS [(1, PlsV M, PlsW w3.heap.size p), (3, PlsV M, PlsW w3.heap.size p)]) (by kernel_rfl) (by kernel_rfl) (kb_trans _) (kb_refl _) (kb_start _ _) (fun _ _ h => h.size) (St.kindS_mono _ (by intro p hp; simp only [List.mem_cons, List.not_mem_nil, or_false] at hp; rcases hp with rfl | rfl <;> exact plsW_kb)) ?_
  simp only [List.take_succ_cons, List.take_zero, List.drop_succ_cons, List.drop_zero]
  refine St.rn_det (by kernel_rfl) rfl (by intro w hG hH; have hc0 := KB.cell hG (fun x => x) (a0'); have hc1 := KB.cell hG (fun x => x) (a1'); go_simp; first | done | with_reducible rfl) ?_
  simp only [Act.put, List.setIfInBounds_toArray, List.set_cons_zero, List.set_cons_succ]
  refine St.rn_rel (by kernel_rfl) rfl (plsV_ex _) (by
    intro w hG hH
    refine St.opVal_call (by go_simp; first | done | exact ⟨⟨rfl, rfl⟩, rfl⟩) ?_
    refine ((D5.out _ (K3.out.trans hG)).1).mono ?_
    rintro e w'' ⟨v, rfl, hv, hk, vs, hp⟩
    exact ⟨_, rfl, (_, _), hv, hk, ⟨hG.size, vs, hp⟩, Nat.le_refl _, hk.size, Nat.le_refl _⟩) ?_
  rintro v ia ⟨ga, ca, rfl⟩ - -
  simp only [Act.put, List.setIfInBounds_toArray, List.set_cons_zero, List.set_cons_succ]
  refine St.rn_det (by kernel_rfl) rfl (by intro w hG hH; have hc0 := KB.cell hG (fun x => x) (a0'); have hc1 := KB.cell hG (fun x => x) (a1'); go_simp; first | done | with_reducible rfl) ?_
  simp only [Act.put, List.setIfInBounds_toArray, List.set_cons_zero, List.set_cons_succ]
  refine St.rn_rel (by kernel_rfl) rfl (plsV_ex _) (by
    intro w hG hH
    refine St.opVal_call (by go_simp; first | done | exact ⟨⟨rfl, rfl⟩, rfl⟩) ?_
    refine ((D5.out _ (K3.out.trans hG)).1).mono ?_
    rintro e w'' ⟨v, rfl, hv, hk, vs, hp⟩
    exact ⟨_, rfl, (_, _), hv, hk, ⟨hG.size, vs, hp⟩, Nat.le_refl _, hk.size, Nat.le_refl _⟩) ?_
  rintro v ib ⟨gb, cb, rfl⟩ - hdis
  simp only [Act.put, List.setIfInBounds_toArray, List.set_cons_zero, List.set_cons_succ]
  iterate 2 (refine St.rn_det (by kernel_rfl) rfl (by intro w hG hH; go_simp; first | done | with_reducible rfl) ?_; simp only [Act.put, List.setIfInBounds_toArray, List.set_cons_zero, List.set_cons_succ])
  refine St.rn_nil (fun w hG hH => ?_)
  have hdis2 := hdis _ List.mem_cons_self
  have fb := hH _ List.mem_cons_self
  have fa := hH _ (List.mem_cons_of_mem _ List.mem_cons_self)
  simp only at fa fb
  obtain ⟨hia, vsa, hpa⟩ := fa
  obtain ⟨hib, vsb, hpb⟩ := fb
  obtain ⟨w4, rfl⟩ : ∃ W, W = w := ⟨_, rfl⟩
  have K4 := Lib.hid (K3.out.trans hG)
  have K34 := Lib.hid hG
  have P4 := Lib.hid (And.intro hpa (And.intro hpb (And.intro hia (And.intro hib hdis2))))
  have x0' := K4.out.cell (p := ⟨w0.heap.size, 0, none⟩) (fun x => x) HC.out.2.2.2.2.1
  have x1' := K4.out.cell (p := ⟨w0.heap.size, 1, none⟩) (fun x => x) HC.out.2.2.2.2.2.1
  clear hG hH hdis hdis2 hpa hpb hia hib a0' a1'
  go_wp2_with fail
  refine ((D5.out _ K4.out).2).mono ?_
  rintro e w5 ⟨v, rfl, ⟨gw, cw, rfl⟩, k5, vsw, hpw⟩
  have K5 := Lib.hid (K4.out.trans k5)
  have K45 := Lib.hid k5
  have P5 := Lib.hid (And.intro (P4.out.1.kbF k5) (And.intro (P4.out.2.1.kbF k5) hpw))
  have Z4 := Lib.hid k5.size
  clear k5 hpw x0' x1' D5
  go_wp2_with fail
  have eM : M = p.path.length + 1 := by rw [HM.out, HN.out.1]
  have hs1 : p.path.length ≤ 100000 := by rw [← HN.out.1]; have := H60.out.1.1; omega
  have A5 := Lib.hid (show Pres w5 (ia.1, min ia.2 w4.heap.size) (.slice (some ⟨ga, 0, none⟩) (p.path.length + 1) ca) p vsa from by have h := P4.out.1.capped.kb (i := (ia.1, min ia.2 w4.heap.size)) K45.out (fun _ _ _ x => x); rw [eM] at h; exact h)
  have B5 := Lib.hid (show Pres w5 ib (.slice (some ⟨gb, 0, none⟩) (p.path.length + 1) cb) p vsb from by have h := P5.out.2.1; rw [eM] at h; exact h)
  have W5 := Lib.hid (show Pres w5 (w4.heap.size, w5.heap.size) (.slice (some ⟨gw, 0, none⟩) (p.path.length + 1) cw) p vsw from by have h := P5.out.2.2; rw [eM] at h; exact h)
  have hM62 : M ≤ 61 := by rw [HM.out]; have := H60.out.1.1; omega
  have HM2 := Lib.hid (And.intro eM hs1)
  have K35 := Lib.hid (show KB F0 w3 w5 from K34.out.trans K45.out)
  clear eM hs1
  go_loopw [12] (fun kv wr => ∃ k : Nat, k ≤ M ∧ kv = .int .i64 (k : Nat) ∧ Hid (KB (PresS vsa k) w5 wr)) (fun kv _ => M - (intOf kv).toNat)
  case atStart => exact ⟨0, by omega, rfl, Lib.hid (KB.refl _ _)⟩
  case round =>
    obtain ⟨k, hk, rfl, hst⟩ := hrel
    have hkL : k ≤ p.path.length + 1 := by rw [← HM2.out.1]; exact hk
    have HKL := Lib.hid hkL
    clear hkL
    by_cases hlt : k < M
    · have hkM : (k : Int) < (M : Int) := by omega
      have d1 : decide ((k : Int) < (M : Int)) = true := decide_eq_true hkM
      have hkN : k ≤ p.path.length := by have := HM2.out.1; omega
      obtain ⟨ta, tc, c0, c1, hpl, hown, hnext⟩ := A5.out.round HM2.out.2 hkN hst.out
      obtain ⟨gw', cw', e5, hwk⟩ := (A5.out.other W5.out (dis_above (Nat.le_refl _)) HKL.out hst.out).at_ HM2.out.2
      simp only [Value.slice.injEq, Option.some.injEq, Addr.mk.injEq, and_true, true_and] at e5
      obtain ⟨rfl, -⟩ := e5
      obtain ⟨tw, twc, c2, c3, hplw⟩ := hwk k hkN
      have SM := fun (V : World) (hV : KB F0 wr V) => rsame_any (cutP p k) (cutP p k) ta tw tc twc V (hpl.kbF hV) (hplw.kbF hV)
      rw [show decide (ordP (cutP p k) (cutP p k) = 0) = true from decide_eq_true (ordP_zero.2 ⟨rfl, rfl⟩)] at SM
      simp only [plVcut p hkN, ← HN.out.2.2.1] at SM
      rw [← HN.out.2.2.1] at c0 c2
      have SM2 := Lib.hid SM
      have OV := Lib.hid (fun (V : World) (hV : KB F0 wr V) => over_any lp (.slice ta k tc) k ia.1 (ints (p.path.take k)) (by omega) V (own_kb hown hV (fun _ _ x => x)) (Nat.le_trans A5.out.lo_le (Nat.le_trans hst.out.size hV.size)))
      have NX := Lib.hid hnext
      clear hpl hown hnext hwk hplw SM hkN
      go_upto_region 13 with fail
      refine wp_region_rv 10 GK (kindW [(8, (fun v => v = .bool true), (fun _ _ => True))]) (by kernel_rfl) (by kernel_rfl) (kb_trans _) (kb_refl _) (kb_start _ _) (kindW_mono _ (by intro p hp; simp only [List.mem_cons, List.not_mem_nil, or_false] at hp; rcases hp with rfl <;> exact lasts_true)) ?_
      simp only [List.take_succ_cons, List.take_zero, List.drop_succ_cons, List.drop_zero]
      iterate 8 (refine rv_det (by kernel_rfl) rfl (by intro w hG hH; have hc0 := KB.cell hG (fun x => x) (c0); have hc1 := KB.cell hG (fun x => x) (c1); have hc2 := KB.cell hG (fun x => x) (c2); have hc3 := KB.cell hG (fun x => x) (c3); go_simp; first | done | with_reducible rfl) ?_; simp only [Act.put, List.setIfInBounds_toArray, List.set_cons_zero, List.set_cons_succ])
      refine rv_rel (by kernel_rfl) rfl ⟨_, rfl⟩ (by
        intro w hG hH
        refine opVal_call (by go_simp; first | done | exact ⟨⟨rfl, rfl⟩, rfl⟩) ?_
        refine (SM2.out _ hG).mono ?_
        rintro e w' ⟨rfl, hq⟩
        exact ⟨_, rfl, rfl, by first | (obtain ⟨nq, rfl⟩ := hq; exact (KB.refl _ _).drewN _) | (subst hq; exact KB.refl _ _) | exact hq, trivial⟩) ?_
      rintro v rfl
      simp only [Act.put, List.setIfInBounds_toArray, List.set_cons_zero, List.set_cons_succ]
      refine rv_det (by kernel_rfl) rfl (by intro w hG hH; go_simp; first | done | with_reducible rfl) ?_
      simp only [Act.put, List.setIfInBounds_toArray, List.set_cons_zero, List.set_cons_succ]
      refine rv_nil (fun w hG hH => ?_)
      obtain ⟨w6, rfl⟩ : ∃ W, W = w := ⟨_, rfl⟩
      have K6 := Lib.hid hG
      have e0 := hG.cell (p := ⟨ga, k * 2, none⟩) (fun x => x) c0
      have e1 := hG.cell (p := ⟨ga, k * 2 + 1, none⟩) (fun x => x) c1
      clear hG hH c0 c1 c2 c3
      go_wp2_with fail
      refine (OV.out _ K6.out).mono ?_
      rintro e w7 ⟨rfl, k7⟩
      have N7 := Lib.hid (NX.out w7 ((K6.out.mono (fun _ _ x => x.elim)).trans k7))
      clear k7 e0 e1
      go_wp2_with fail
      exact ⟨⟨k + 1, by omega, by go_num, N7⟩, by simp [intOf]; omega⟩
    · obtain rfl : k = M := by omega
      have d1 : decide ((k : Int) < (k : Int)) = false := decide_eq_false (by omega)
      obtain ⟨w6, rfl⟩ : ∃ W, W = wr := ⟨_, rfl⟩
      have B6 := Lib.hid (A5.out.other B5.out (dis_capped P4.out.2.2.2.2) HKL.out hst.out)
      have W6 := Lib.hid (A5.out.other W5.out (dis_above (Nat.le_refl _)) HKL.out hst.out)
      have K36 := Lib.hid (A5.out.old P4.out.2.2.1 K35.out HKL.out hst.out)
      clear hst A5 B5 W5 hlt
      go_wp2_with fail
      go_loopw [13] (fun kv wr => ∃ j : Nat, j ≤ k ∧ kv = .int .i64 (j : Nat) ∧ Hid (KB F0 w6 wr)) (fun kv _ => k - (intOf kv).toNat)
      case atStart => exact ⟨0, by omega, rfl, Lib.hid (KB.refl _ _)⟩
      case round =>
        obtain ⟨j, hj, rfl, hst⟩ := hrel
        by_cases hlt : j < k
        · have hkM : (j : Int) < (k : Int) := by omega
          have d1 : decide ((j : Int) < (k : Int)) = true := decide_eq_true hkM
          have hkN : j ≤ p.path.length := by have := HM2.out.1; omega
          obtain ⟨gb', cb', e5, hwb⟩ := (B6.out.kbF hst.out).at_ HM2.out.2
          simp only [Value.slice.injEq, Option.some.injEq, Addr.mk.injEq, and_true, true_and] at e5
          obtain ⟨rfl, -⟩ := e5
          obtain ⟨tb, tbc, c0, c1, hpl⟩ := hwb j hkN
          obtain ⟨gw', cw', e5, hwk⟩ := (W6.out.kbF hst.out).at_ HM2.out.2
          simp only [Value.slice.injEq, Option.some.injEq, Addr.mk.injEq, and_true, true_and] at e5
          obtain ⟨rfl, -⟩ := e5
          obtain ⟨tw, twc, c2, c3, hplw⟩ := hwk j hkN
          have SM := fun (V : World) (hV : KB F0 wr V) => rsame_any (cutP p j) (cutP p j) tb tw tbc twc V (hpl.kbF hV) (hplw.kbF hV)
          rw [show decide (ordP (cutP p j) (cutP p j) = 0) = true from decide_eq_true (ordP_zero.2 ⟨rfl, rfl⟩)] at SM
          simp only [plVcut p hkN, ← HN.out.2.2.1] at SM
          rw [← HN.out.2.2.1] at c0 c2
          have SM2 := Lib.hid SM
          clear hpl hwb hwk hplw SM hkN
          go_upto_region 19 with fail
          refine wp_region_rv 10 GK (kindW [(8, (fun v => v = .bool true), (fun _ _ => True))]) (by kernel_rfl) (by kernel_rfl) (kb_trans _) (kb_refl _) (kb_start _ _) (kindW_mono _ (by intro p hp; simp only [List.mem_cons, List.not_mem_nil, or_false] at hp; rcases hp with rfl <;> exact lasts_true)) ?_
          simp only [List.take_succ_cons, List.take_zero, List.drop_succ_cons, List.drop_zero]
          iterate 8 (refine rv_det (by kernel_rfl) rfl (by intro w hG hH; have hc0 := KB.cell hG (fun x => x) (c0); have hc1 := KB.cell hG (fun x => x) (c1); have hc2 := KB.cell hG (fun x => x) (c2); have hc3 := KB.cell hG (fun x => x) (c3); go_simp; first | done | with_reducible rfl) ?_; simp only [Act.put, List.setIfInBounds_toArray, List.set_cons_zero, List.set_cons_succ])
          refine rv_rel (by kernel_rfl) rfl ⟨_, rfl⟩ (by
            intro w hG hH
            refine opVal_call (by go_simp; first | done | exact ⟨⟨rfl, rfl⟩, rfl⟩) ?_
            refine (SM2.out _ hG).mono ?_
            rintro e w' ⟨rfl, hq⟩
            exact ⟨_, rfl, rfl, by first | (obtain ⟨nq, rfl⟩ := hq; exact (KB.refl _ _).drewN _) | (subst hq; exact KB.refl _ _) | exact hq, trivial⟩) ?_
          rintro v rfl
          simp only [Act.put, List.setIfInBounds_toArray, List.set_cons_zero, List.set_cons_succ]
          refine rv_det (by kernel_rfl) rfl (by intro w hG hH; go_simp; first | done | with_reducible rfl) ?_
          simp only [Act.put, List.setIfInBounds_toArray, List.set_cons_zero, List.set_cons_succ]
          refine rv_nil (fun w hG hH => ?_)
          have K7 := Lib.hid (hst.out.trans hG)
          clear hG hH c0 c1 c2 c3
          go_wp2_with fail
          exact ⟨⟨j + 1, by omega, by go_num, K7⟩, by simp [intOf]; omega⟩
        · obtain rfl : j = k := by omega
          have d1 : decide ((j : Int) < (j : Int)) = false := decide_eq_false (by omega)
          obtain ⟨w7, rfl⟩ : ∃ W, W = wr := ⟨_, rfl⟩
          have K37 := Lib.hid (K36.out.trans hst.out)
          have RD := Lib.hid (fun (V : World) (hk : KB F0 w3 V) => And.intro (read_any s (by have := H60.out.2; omega) V (HT.out.kb (HB.out.1.trans (KA.out.trans (K3.out.trans hk))))) (rread_any s (by have := H60.out.2; omega) V))
          obtain ⟨O, hO⟩ : ∃ O, O = rdL s.data.toList := ⟨_, rfl⟩
          have HO : Hid ((rdP O).path.length ≤ 100000) := Lib.hid (by
            rw [hO]; unfold rdP
            rcases h : rdL s.data.toList with _ | q
            · simp
            · have := (rdL_small h).1; simp only [Option.getD_some]; omega)
          rw [← hO] at RD
          clear hst B6 W6 hlt hO
          go_wp2_with fail
          refine ((RD.out _ K37.out).1).mono ?_
          rintro e w8 ⟨v, rfl, ho, k8⟩
          obtain ⟨ra, rc, e, hrl, -, hri⟩ := ho.at
          subst e
          have K8 := Lib.hid (K37.out.trans k8)
          have R8 := Lib.hid (show PlAt w8 (rdP O) ra rc from ⟨hri, hrl, HO.out⟩)
          clear ho hrl hri k8
          obtain ⟨W9, hW9⟩ : ∃ W, W = w8.alloc (.cells #[.int .i64 (rdP O).loc, .slice ra (rdP O).path.length rc] 26) := ⟨_, rfl⟩
          have ka := (KB.refl F0 w8).alloc (.cells #[.int .i64 (rdP O).loc, .slice ra (rdP O).path.length rc] 26)
          have hb9 := alloc_new w8 (.cells #[.int .i64 (rdP O).loc, .slice ra (rdP O).path.length rc] 26)
          rw [← hW9] at ka hb9
          have K9 := Lib.hid (K8.out.trans ka)
          have HW9 := Lib.hid hW9
          have R9 := Lib.hid (And.intro (R8.out.kbF ka) hb9)
          clear ka hb9 hW9
          go_wp2_with fail
          rw [← HW9.out]
          refine ((RD.out _ K9.out).2).mono ?_
          rintro e w10 ⟨v, rfl, ho, k10⟩
          obtain ⟨sa, sc, e, hrl, -, hri⟩ := ho.at
          subst e
          have K10 := Lib.hid (K9.out.trans k10)
          have R10 := Lib.hid (show PlAt w10 (rdP O) sa sc from ⟨hri, hrl, HO.out⟩)
          have Q10 := Lib.hid (R9.out.1.kbF k10)
          have hb10 := k10.heap (fun x => x) R9.out.2
          obtain ⟨X, hX⟩ : ∃ X, X = w8.heap.size := ⟨_, rfl⟩
          rw [← hX] at hb10 ⊢
          obtain ⟨W11, hW11⟩ : ∃ W, W = w10.alloc (.cells #[.int .i64 (rdP O).loc, .slice sa (rdP O).path.length sc] 26) := ⟨_, rfl⟩
          have ka := (KB.refl F0 w10).alloc (.cells #[.int .i64 (rdP O).loc, .slice sa (rdP O).path.length sc] 26)
          have hb11 := alloc_new w10 (.cells #[.int .i64 (rdP O).loc, .slice sa (rdP O).path.length sc] 26)
          rw [← hW11] at ka hb11
          have hc11 := ka.heap (fun x => x) hb10
          have K11 := Lib.hid (K10.out.trans ka)
          have m0 : W11.cell? ⟨X, 0, none⟩ = some (.int .i64 (rdP O).loc) := blk_cell hc11 0
          have m1 : W11.cell? ⟨X, 1, none⟩ = some (.slice ra (rdP O).path.length rc) := blk_cell hc11 1
          rw [hW11] at m0 m1
          have SM := rsame_any (rdP O) (rdP O) ra sa rc sc W11 (Q10.out.kbF ka) (R10.out.kbF ka)
          rw [show decide (ordP (rdP O) (rdP O) = 0) = true from decide_eq_true (ordP_zero.2 ⟨rfl, rfl⟩)] at SM
          unfold plV at SM
          have SM2 := Lib.hid SM
          have HW11 := Lib.hid hW11
          have X11 := Lib.hid (And.intro hX (And.intro hb11 hc11))
          clear ho hrl hri k10 hb10 hX ka hb11 hc11 SM hW11
          go_wp2_with fail
          rw [← HW11.out]
          refine SM2.out.mono ?_
          rintro e w12 ⟨rfl, k12⟩
          have K12 := Lib.hid (K11.out.trans k12)
          clear k12 m0 m1
          have a0' := K12.out.cell (p := ⟨n7, 0, none⟩) (fun x => x) (K3.out.cell (p := ⟨n7, 0, none⟩) (fun x => x) HC.out.1)
          have a1' := K12.out.cell (p := ⟨n7, 1, none⟩) (fun x => x) (K3.out.cell (p := ⟨n7, 1, none⟩) (fun x => x) HC.out.2.1)
          have x0' := K12.out.cell (p := ⟨w0.heap.size, 0, none⟩) (fun x => x) (K3.out.cell (p := ⟨w0.heap.size, 0, none⟩) (fun x => x) HC.out.2.2.2.2.1)
          have x1' := K12.out.cell (p := ⟨w0.heap.size, 1, none⟩) (fun x => x) (K3.out.cell (p := ⟨w0.heap.size, 1, none⟩) (fun x => x) HC.out.2.2.2.2.2.1)
          go_wp2_with fail
          refine ((D6.out _ (K3.out.trans K12.out)).1).mono ?_
          rintro e w13 ⟨rfl, k13⟩
          have K13 := Lib.hid (K12.out.trans k13)
          clear k13 a0' a1' x0' x1'
          have b0' := K13.out.cell (p := ⟨n8, 0, none⟩) (fun x => x) (K3.out.cell (p := ⟨n8, 0, none⟩) (fun x => x) HC.out.2.2.1)
          have b1' := K13.out.cell (p := ⟨n8, 1, none⟩) (fun x => x) (K3.out.cell (p := ⟨n8, 1, none⟩) (fun x => x) HC.out.2.2.2.1)
          have y0' := K13.out.cell (p := ⟨w0.heap.size + 1, 0, none⟩) (fun x => x) (K3.out.cell (p := ⟨w0.heap.size + 1, 0, none⟩) (fun x => x) HC.out.2.2.2.2.2.2.1)
          have y1' := K13.out.cell (p := ⟨w0.heap.size + 1, 1, none⟩) (fun x => x) (K3.out.cell (p := ⟨w0.heap.size + 1, 1, none⟩) (fun x => x) HC.out.2.2.2.2.2.2.2)
          go_wp2_with fail
          refine ((D6.out _ (K3.out.trans K13.out)).2).mono ?_
          rintro e w14 ⟨rfl, k14⟩
          have K14 := Lib.hid (K13.out.trans k14)
          clear k14 b0' b1' y0' y1'
          go_wp2_with fail
          refine (AW.out _ (KA.out.trans (K3.out.trans K14.out))).mono ?_
          rintro e w15 ⟨rfl, k15⟩
          have K15 := Lib.hid (HB.out.1.trans (KA.out.trans (K3.out.trans (K14.out.trans k15))))
          clear k15
          go_wp2_with fail
          go_ret
          exact ⟨rfl, K15.out⟩
end Go.Proofs.YtpigppghcghpbaaGreatDoor

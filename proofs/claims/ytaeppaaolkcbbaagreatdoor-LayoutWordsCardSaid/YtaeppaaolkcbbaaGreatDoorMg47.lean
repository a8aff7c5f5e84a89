/- awake: calls whose answers the document fixes. -/
import Derived.Test.YtaeppaaolkcbbaaGreatDoorMg46
import Derived.Test.YtaeppaaolkcbbaaGreatDoorMg45
import Derived.Test.YtaeppaaolkcbbaaGreatDoorMg30
import Derived.Test.YtaeppaaolkcbbaaGreatDoorMg09
import Derived.Deep.DeepCutAuto
namespace Go.Proofs.YtaeppaaolkcbbaaGreatDoor
open Go.RowKit

set_option maxRecDepth 100000 in
set_option maxHeartbeats 64000000 in
theorem awake_any (w : World) : Calls Tryz.prog 8 #[] w fun e w' => e = .returned (.bool true) ∧ KB F0 w w' := by
 obtain ⟨w0, rfl⟩ : ∃ w0, w0 = w := ⟨_, rfl⟩
 have C1 := Lib.hid (fun V => lyClass_any 3 V)
 have C2 := Lib.hid (fun V => lySize_any 3 (by decide) V)
 rw [show clsW 3 = (2, 0) from by decide] at C1
 rw [show sizW 3 = (8, 0) from by decide] at C2
 go_enter Tryz.func8, Tryz.ntmps8
 go_wp2_with fail
 refine (C1.out _).mono ?_
 rintro e w1 ⟨rfl, k1⟩
 have K1 := Lib.hid k1
 clear k1
 go_wp2_with fail
 refine (C2.out _).mono ?_
 rintro e w' ⟨rfl, rfl⟩
 go_wp2_with fail
 refine (lwI64_any w1).mono ?_
 rintro e w2 ⟨rfl, k2⟩
 have K2 := Lib.hid (K1.out.trans k2)
 clear k2
 go_upto_region 4 with fail
 obtain ⟨hk3, g1, g2, g3, -⟩ := new3 w2 awCi (awCb w2.heap.size) (awCb (w2.heap.size + 1)) 26 26 26
 obtain ⟨w3, h3⟩ : ∃ x, x = ((w2.alloc (.cells awCi 26)).alloc (.cells (awCb w2.heap.size) 26)).alloc (.cells (awCb (w2.heap.size + 1)) 26) := ⟨_, rfl⟩
 rw [← h3] at hk3 g1 g2 g3
 have H3 := Lib.hid (And.intro (K2.out.trans hk3) (And.intro g1 (And.intro g2 g3)))
 obtain ⟨r0, hr0⟩ : ∃ x, x = w2.heap.size := ⟨_, rfl⟩
 have L0 : Hid (w0.heap.size ≤ r0) := Lib.hid (by rw [hr0]; exact K2.out.size)
 rw [show ((w2.alloc (.cells #[.int .u8 1, .bool false, .int .i64 0, .int .i64 0, .slice none 0 0] 26)).alloc (.cells #[.int .u8 3, .bool false, .int .i64 0, .int .i64 0, .slice (some ⟨w2.heap.size, 0, none⟩) 1 1] 26)).alloc (.cells #[.int .u8 3, .bool false, .int .i64 0, .int .i64 0, .slice (some ⟨w2.heap.size + 1, 0, none⟩) 1 1] 26) = w3 from h3.symm]
 rw [← hr0] at H3 ⊢
 have HD := Lib.hid (lwHand_any w3)
 clear hk3 g1 g2 g3 h3 hr0
 go_wp2_with fail
 refine HD.out.mono ?_
 rintro e w4 ⟨k4, F, Q, rfl, hQ, hq, L, N, P, ⟨F', eF, hF1, hF2⟩, ⟨g, hg, hgc, ⟨L', eL, hL1, hL2⟩⟩, ⟨N', eN, hN1, hN2⟩, ⟨P', eP, hP1, hP2⟩⟩
 cases eF; cases eL; cases eN; cases eP
 obtain ⟨Bu, hBu⟩ : ∃ x, x = w4.heap.size := ⟨_, rfl⟩
 obtain ⟨w5, h5⟩ : ∃ x, x = w4.alloc (.cells #[.slice none 0 0, .slice (some ⟨F, 0, none⟩) 1 1, .int .i64 0] 49) := ⟨_, rfl⟩
 have k5 : KB F0 w4 w5 := by rw [h5]; exact (KB.refl _ _).alloc _
 have U5 : Hid (AwU w0 (r0 + 1 + 1) Bu r0 (r0 + 1) F P Q g (.slice (some ⟨L, 0, none⟩) 3 3) (.slice (some ⟨N, 0, none⟩) 3 3) 3 3 (awCi ++ awCi ++ awCr g).toList awCn.toList w5) := by
  have s3 := H3.out.1.size
  have s4 := k4.size
  have l0 := L0.out
  refine Lib.hid ⟨(H3.out.1.trans k4).trans k5, (k4.trans k5).heap (fun x => x) H3.out.2.2.2, (k4.trans k5).heap (fun x => x) H3.out.2.2.1, (k4.trans k5).heap (fun x => x) H3.out.2.1, by rw [h5, hBu]; exact alloc_new _ _, k5.heap (fun x => x) hF2, k5.heap (fun x => x) hP2, k5.heap (fun x => x) hq, k5.heap (fun x => x) hgc, ⟨by omega, by omega, by omega, by omega, by omega, by omega, by omega, by omega⟩, own_full (by omega) (k5.heap (fun x => x) hL2) (by unfold maxLen; omega) rfl, own_full (by omega) (k5.heap (fun x => x) hN2) (by unfold maxLen; omega) rfl⟩
 have NE : Hid (∀ k, (Value.slice (some ⟨L, 0, none⟩) 3 3).ownBlock = some k → k ≠ r0 + 1 + 1 ∧ k ≠ r0 ∧ k ≠ r0 + 1 ∧ k ≠ g) := Lib.hid (fun k hk => by
  simp only [Value.ownBlock, Option.some.injEq] at hk
  subst hk
  refine ⟨fun e => ?_, fun e => ?_, fun e => ?_, fun e => ?_⟩
  ·have h := k4.heap (fun x => x) H3.out.2.2.2
   rw [← e, hL2] at h
   simp at h
  ·have h := k4.heap (fun x => x) H3.out.2.1
   rw [← e, hL2] at h
   simp at h
  ·have h := k4.heap (fun x => x) H3.out.2.2.1
   rw [← e, hL2] at h
   simp at h
  ·have h := hgc
   rw [← e, hL2] at h
   simp at h)
 have H5 := Lib.hid h5
 have HBu := Lib.hid hBu
 clear hF1 hF2 hL1 hL2 hN1 hN2 hP1 hP2 hg hgc hq hQ k4 k5 h5 hBu HD
 go_upto_region 5 with fail
 rw [← HBu.out]
 rw [← H5.out]
 go_cut [36] (fun s wx => ∃ b : Bool, s = .bool b ∧ KB F0 w5 wx)
 case first =>
  go_region
  all_goals
   go_wp2_with fail
   go_meet
   refine ⟨_, rfl, ?_⟩
   repeat (first | exact KB.refl _ _ | refine KB.drew ?_ | refine KB.alloc ?_ _ | refine kb_new ?_ (Nat.le_refl _) _ _)
 case rest =>
 obtain ⟨b, rfl, kc⟩ := hcut
 have U6 := Lib.hid (U5.out.kbF kc)
 clear kc
 go_upto_if 36 with (fail)
 go_cut [] (fun wx => ∃ va, AwU w0 (r0 + 1 + 1) Bu r0 (r0 + 1) F P Q g va (.slice (some ⟨N, 0, none⟩) 3 3) 4 3 (awLs g (r0 + 1)) awCn.toList wx)
 case first =>
  have u1 : wc.cell? ⟨Bu, 1, none⟩ = some (.slice (some ⟨F, 0, none⟩) 1 1) := blk_cell U6.out.u 1
  have f4 : wc.cell? ⟨F, 4, none⟩ = some (.slice (some ⟨L, 0, none⟩) 3 3) := blk_cell U6.out.f 4
  have t0 : wc.cell? ⟨r0 + 1 + 1, 0, none⟩ = some (.int .u8 3) := blk_cell U6.out.b 0
  have t1 : wc.cell? ⟨r0 + 1 + 1, 1, none⟩ = some (.bool false) := blk_cell U6.out.b 1
  have t2 : wc.cell? ⟨r0 + 1 + 1, 2, none⟩ = some (.int .i64 0) := blk_cell U6.out.b 2
  have t3 : wc.cell? ⟨r0 + 1 + 1, 3, none⟩ = some (.int .i64 0) := blk_cell U6.out.b 3
  have t4 : wc.cell? ⟨r0 + 1 + 1, 4, none⟩ = some (.slice (some ⟨r0 + 1, 0, none⟩) 1 1) := blk_cell U6.out.b 4
  have OWB : Hid (∀ k, (Value.slice (some ⟨L, 0, none⟩) 3 3).ownBlock = some k → k ≠ Bu ∧ k ≠ F ∧ k ≠ P ∧ k ≠ Q ∧ k ≠ N) := Lib.hid (fun k hk => by
   obtain ⟨c, h3, -⟩ := own_block U6.out.la hk
   obtain ⟨c', h4, -⟩ := own_block U6.out.na (g := N) rfl
   exact ⟨fun e => obj_ne h3 U6.out.u (by decide) e, fun e => obj_ne h3 U6.out.f (by decide) e, fun e => obj_ne h3 U6.out.p (by decide) e, fun e => obj_ne h3 U6.out.q (by decide) e, fun e => obj_ne h3 h4 (by decide) e⟩)
  cases b with
  | true =>
   go_upto_region 6 with fail
   refine wp_region_rv 8 GK (kindW [(7, RowN wc.heap.size 1, RowNAt wc.heap.size 1 #[.int .u8 0, .bool false, .int .i64 0, .int .i64 0, .slice none 0 0] 26)]) (by kernel_rfl) (by kernel_rfl) (kb_trans _) (kb_refl _) (kb_start _ _) (kindW_mono _ (by intro p hp; simp only [List.mem_cons, List.not_mem_nil, or_false] at hp; rcases hp with rfl <;> exact lasts_rowN _ _ _ _)) ?_
   simp only [pT, pU, pV, pW]
   refine rv_det (by kernel_rfl) rfl (by intro w hG hH; go_simp; first | done | with_reducible rfl) ?_
   simp only [Act.put, pA, pZ, pS]
   refine rv_det (by kernel_rfl) rfl (by intro w hG hH; have hc0 := kc hG (u1); go_simp; first | done | with_reducible rfl) ?_
   simp only [Act.put, pA, pZ, pS]
   iterate 2 (refine rv_det (by kernel_rfl) rfl (by intro w hG hH; go_simp; first | done | with_reducible rfl) ?_; simp only [Act.put, pA, pZ, pS])
   refine rv_det (by kernel_rfl) rfl (by intro w hG hH; have hc0 := kc hG (f4); go_simp; first | done | with_reducible rfl) ?_
   simp only [Act.put, pA, pZ, pS]
   refine rv_det (by kernel_rfl) rfl (by intro w hG hH; have hc0 := kc hG (t0); have hc1 := kc hG (t1); have hc2 := kc hG (t2); have hc3 := kc hG (t3); have hc4 := kc hG (t4); go_simp; first | done | with_reducible rfl) ?_
   simp only [Act.put, pA, pZ, pS]
   refine rv_det (by kernel_rfl) rfl (by intro w hG hH; go_simp; first | done | with_reducible rfl) ?_
   simp only [Act.put, pA, pZ, pS]
   refine rv_rel (by kernel_rfl) rfl (rowN_ex _ _) (fun w hG hH => opVal_rowN hG (by go_simp; first | done | rfl)) ?_
   rintro v ⟨nb, rfl, hnb⟩
   simp only [Act.put, pA, pZ, pS]
   refine rv_nil (fun w hG hH => ?_)
   obtain ⟨nb', e1, e2, e3⟩ := hH _ (List.mem_cons_self ..)
   cases e1
   obtain ⟨w7, rfl⟩ : ∃ x, x = w := ⟨_, rfl⟩
   have U7 := U6.out.kbF hG
   have H7 := Lib.hid (And.intro hG e3)
   clear hH hG e2 e3 hnb u1 f4 t0 t1 t2 t3 t4
   go_wp2_with (at_builtin; refine Stopped.out ?_)
   refine ⟨?_⟩
   refine list_appT rfl (.tmp 41) (.tmp 44) rfl w0.heap.size (.slice (some ⟨L, 0, none⟩) 3 3) 3 _ rfl U7.la nb 1 [.int .u8 0, .bool false, .int .i64 0, .int .i64 0, .slice none 0 0] rfl rfl H7.out.2 (by intro u hu; simp only [List.mem_cons, List.not_mem_nil, or_false] at hu; rcases hu with rfl | rfl | rfl | rfl | rfl <;> rfl) (by omega) U7.kb.size ?_
   intro gn cap w8 r8 k8 a8
   have f8 := k8.heap (b := F) (fun e => (OWB.out _ e).2.1 rfl) U7.f
   have y4 : w8.cell? ⟨F, 4, none⟩ = some (.slice (some ⟨L, 0, none⟩) 3 3) := blk_cell f8 4
   have z4 := blk_frozen f8 4
   have H8 := Lib.hid (And.intro r8 (And.intro k8 (And.intro a8 f8)))
   have HU7 := Lib.hid U7
   clear r8 k8 a8 f8 U7
   go_upto_region 7 with fail
   obtain ⟨w9, hw9⟩ : ∃ w9, w9 = w8.setCell ⟨F, 4, none⟩ (.slice (some ⟨gn, 0, none⟩) 4 cap) := ⟨_, rfl⟩
   rw [← hw9]
   have ks := kb_set w8 F 4 (.slice (some ⟨gn, 0, none⟩) 4 cap)
   rw [← hw9] at ks
   have hgF : ¬ gn = F := fun e => by
    obtain ⟨c, h3, -⟩ := own_block H8.out.1 (g := gn) rfl
    exact obj_ne h3 H8.out.2.2.2 (by decide) e
   have r9 : w9.ownsRow w0.heap.size 26 5 (.slice (some ⟨gn, 0, none⟩) 4 cap) 4 _ := own_kb H8.out.1 ks (fun g' e1 e2 => by simp only [Value.ownBlock, Option.some.injEq] at e1; exact hgF (e1.trans e2))
   have x9 : w9.heap[F]? = some (.cells #[.string ⟨#[]⟩, .int .i64 0, .slice none 0 0, .int .i64 0, .slice (some ⟨gn, 0, none⟩) 4 cap, .slice (some ⟨N, 0, none⟩) 3 3, .slice (some ⟨P, 0, none⟩) 4 4] 88 (0, 0)) := by rw [hw9]; exact setCell_blk (i := 4) H8.out.2.2.2 _
   have q0 : w9.cell? ⟨gn, 15, none⟩ = some (.int .u8 0) := by rw [r9.cellAt _ (by omega)]; rfl
   have q1 : w9.cell? ⟨gn, 16, none⟩ = some (.bool false) := by rw [r9.cellAt _ (by omega)]; rfl
   have q2 : w9.cell? ⟨gn, 17, none⟩ = some (.int .i64 0) := by rw [r9.cellAt _ (by omega)]; rfl
   have q3 : w9.cell? ⟨gn, 18, none⟩ = some (.int .i64 0) := by rw [r9.cellAt _ (by omega)]; rfl
   have q4 : w9.cell? ⟨gn, 19, none⟩ = some (.slice none 0 0) := by rw [r9.cellAt _ (by omega)]; rfl
   have z0 := r9.frozenAt 15
   have z1 := r9.frozenAt 16
   have z2 := r9.frozenAt 17
   have z3 := r9.frozenAt 18
   have z4 := r9.frozenAt 19
   have HR9 := Lib.hid (And.intro r9 (And.intro x9 (And.intro hgF ks)))
   clear hw9 ks r9 x9 y4
   go_wp2_with fail
   go_meet
   obtain ⟨r9, x9, hgF, ks⟩ := HR9.out
   have k5 := ((((kb_set w9 gn 15 (.int .u8 3)).trans (kb_set _ gn 16 (.bool false))).trans (kb_set _ gn 17 (.int .i64 0))).trans (kb_set _ gn 18 (.int .i64 0))).trans (kb_set _ gn 19 (.slice (some ⟨r0 + 1, 0, none⟩) 1 1))
   have hr := (((((r9.stored 15 (.int .u8 3)).1.stored 16 (.bool false)).1.stored 17 (.int .i64 0)).1.stored 18 (.int .i64 0)).1.stored 19 (.slice (some ⟨r0 + 1, 0, none⟩) 1 1)).1
   have kall := ((H8.out.2.1.mono (S' := fun k => (Value.slice (some ⟨L, 0, none⟩) 3 3).ownBlock = some k ∨ k = F ∨ k = gn) (fun k _ e => Or.inl e)).trans (ks.mono (fun k _ e => Or.inr (Or.inl e)))).trans (k5.mono (fun k _ e => Or.inr (Or.inr e)))
   have hU := HU7.out
   have hgn := H8.out.2.2.1
   have hall : ∀ k, ((Value.slice (some ⟨L, 0, none⟩) 3 3).ownBlock = some k ∨ k = F ∨ k = gn) → k ≠ r0 + 1 + 1 ∧ k ≠ r0 ∧ k ≠ r0 + 1 ∧ k ≠ g ∧ k ≠ Bu ∧ k ≠ P ∧ k ≠ Q ∧ k ≠ N := fun k hk => by
    have hown : ∀ k, (Value.slice (some ⟨L, 0, none⟩) 3 3).ownBlock = some k → k ≠ r0 + 1 + 1 ∧ k ≠ r0 ∧ k ≠ r0 + 1 ∧ k ≠ g ∧ k ≠ Bu ∧ k ≠ P ∧ k ≠ Q ∧ k ≠ N := fun k hk => by
     obtain ⟨a1, a2, a3, a4⟩ := NE.out k hk
     obtain ⟨b1, b2, b3, b4, b5⟩ := OWB.out k hk
     exact ⟨a1, a2, a3, a4, b1, b3, b4, b5⟩
    obtain ⟨cN, hN, -⟩ := own_block hU.na (g := N) rfl
    rcases hk with hk | rfl | rfl
    ·exact hown k hk
    ·exact ⟨fun e => obj_ne hU.f hU.b (by decide) e, fun e => obj_ne hU.f hU.hr0 (by decide) e, fun e => obj_ne hU.f hU.hr1 (by decide) e, fun e => obj_ne hU.f hU.hg (by decide) e, fun e => obj_ne hU.f hU.u (by decide) e, fun e => obj_ne hU.f hU.p (by decide) e, fun e => obj_ne hU.f hU.q (by decide) e, fun e => obj_ne hU.f hN (by decide) e⟩
    ·rcases hgn with h | h
     ·exact hown _ h
     ·have l1 := heap_lt hU.b
      have l2 := heap_lt hU.hr0
      have l3 := heap_lt hU.hr1
      have l4 := heap_lt hU.hg
      have l5 := heap_lt hU.u
      have l6 := heap_lt hU.p
      have l7 := heap_lt hU.q
      have l8 := heap_lt hN
      omega
   refine ⟨.slice (some ⟨gn, 0, none⟩) 4 cap, hU.next kall (fun k hk e => ?_) (fun k e => ?_) (k5.heap (fun e => hgF e.symm) x9) hr (own_kb hU.na kall (fun q hq e => ?_))⟩
   ·rcases e with e | e | e
    ·exact Or.inl e
    ·exact Or.inr (Or.inr e)
    ·rcases hgn with h | h
     ·exact Or.inl (by rw [e]; exact h)
     ·omega
   ·obtain ⟨a1, a2, a3, a4, a5, a6, a7, -⟩ := hall k e
    exact ⟨a1, a2, a3, a4, a5, a6, a7⟩
   ·simp only [Value.ownBlock, Option.some.injEq] at hq
    exact (hall q e).2.2.2.2.2.2.2 hq.symm
  | false =>
   have HU6 := U6
   have hlt0 : ∀ q, (Value.slice (some ⟨L, 0, none⟩) 3 3).ownBlock = some q → q < wc.heap.size := fun q hq => (U6.out.la.lt q hq).2
   have HLT := Lib.hid hlt0
   clear hlt0
   go_upto_region 8 with fail
   refine wp_region_rv 10 (A5.GA w0.heap.size 26 (.slice (some ⟨L, 0, none⟩) 3 3) 4 (awLs g (r0 + 1))) (kindW [(8, OneRow wc.heap.size (awCb (r0 + 1)) 26, OneRowAt wc.heap.size (awCb (r0 + 1)) 26), (9, fun v => ∃ a c, v = .slice a 4 c, A5.FA w0.heap.size wc.heap.size 26 (.slice (some ⟨L, 0, none⟩) 3 3) 4 (awLs g (r0 + 1)))])
    (by kernel_rfl) (by kernel_rfl) A5.GA.trans A5.GA.refl (A5.GA.start _) (A5.kindW_monoG _ (by
     intro p hp; simp only [List.mem_cons, List.not_mem_nil, or_false] at hp
     rcases hp with rfl | rfl
     ·rintro v a b hG ⟨nb, h1, h2, h3⟩
      exact ⟨nb, h1, h2, hG.1.heap (fun e => by have := HLT.out nb e; omega) h3⟩
     ·intro v a b hG hf
      exact hf.lasts hG)) ?_
   simp only [pT, pU, pV, pW]
   refine rv_det (by kernel_rfl) rfl (by intro w hG hH; go_simp; first | done | with_reducible rfl) ?_
   simp only [Act.put, pA, pZ, pS]
   refine rv_det (by kernel_rfl) rfl (by intro w hG hH; have hc0 := KB.cell hG.1 (fun e => (OWB.out _ e).1 rfl) u1; go_simp; first | done | with_reducible rfl) ?_
   simp only [Act.put, pA, pZ, pS]
   refine rv_det (by kernel_rfl) rfl (by intro w hG hH; go_simp; first | done | with_reducible rfl) ?_
   simp only [Act.put, pA, pZ, pS]
   refine rv_det (by kernel_rfl) rfl (by intro w hG hH; have hc0 := KB.cell hG.1 (fun e => (OWB.out _ e).1 rfl) u1; go_simp; first | done | with_reducible rfl) ?_
   simp only [Act.put, pA, pZ, pS]
   iterate 2 (refine rv_det (by kernel_rfl) rfl (by intro w hG hH; go_simp; first | done | with_reducible rfl) ?_; simp only [Act.put, pA, pZ, pS])
   refine rv_det (by kernel_rfl) rfl (by intro w hG hH; have hc0 := KB.cell hG.1 (fun e => (OWB.out _ e).2.1 rfl) f4; go_simp; first | done | with_reducible rfl) ?_
   simp only [Act.put, pA, pZ, pS]
   refine rv_det (by kernel_rfl) rfl (by intro w hG hH; have hc0 := KB.cell hG.1 (fun e => (NE.out _ e).1 rfl) t0; have hc1 := KB.cell hG.1 (fun e => (NE.out _ e).1 rfl) t1; have hc2 := KB.cell hG.1 (fun e => (NE.out _ e).1 rfl) t2; have hc3 := KB.cell hG.1 (fun e => (NE.out _ e).1 rfl) t3; have hc4 := KB.cell hG.1 (fun e => (NE.out _ e).1 rfl) t4; go_simp; first | done | with_reducible rfl) ?_
   simp only [Act.put, pA, pZ, pS]
   refine rv_rel (by kernel_rfl) rfl ⟨.slice (some ⟨_, 0, none⟩) 1 1, _, rfl, Nat.le_refl _⟩ (fun w hG hH => opVal_value (v := .slice (some ⟨w.heap.size, 0, none⟩) 1 1) (w' := w.alloc (.cells (awCb (r0 + 1)) 26)) (by go_simp; first | done | rfl)
    ⟨⟨_, rfl, hG.1.size⟩, A5.GA.kb ((KB.refl (fun _ => False) w).alloc _) (fun _ x => x) (fun g e => by have := HLT.out g e; have := hG.1.size; omega), ⟨_, rfl, hG.1.size, alloc_new w _⟩⟩) ?_
   rintro v ⟨nb, rfl, hnb4⟩
   simp only [Act.put, pA, pZ, pS]
   refine rv_rel (by kernel_rfl) rfl ⟨.slice none 4 0, _, _, rfl⟩ (fun w hG hH => by
    obtain ⟨nb', e, -, hrow⟩ := hH (8, fun w => OneRowAt wc.heap.size (awCb (r0 + 1)) 26 (.slice (some ⟨nb, 0, none⟩) 1 1) w) List.mem_cons_self (by kernel_rfl)
    simp only [Value.slice.injEq, Option.some.injEq, Addr.mk.injEq, and_true] at e
    subst e
    have hold : w.ownsRow w0.heap.size 26 5 (.slice (some ⟨L, 0, none⟩) 3 3) 3 (awCi ++ awCi ++ awCr g).toList := A5.GA.old (m := 3) hG U6.out.la (by omega)
    have hsw := hG.1.size
    have hsz := U6.out.kb.size
    refine A5.opVal_imp (A5.opVal_append (P := Tryz.prog) w0.heap.size wc.heap.size hsw (.tmp 55) (.tmp 57) 24 26 rfl Tryz.infoTy Tryz.underlying24' rfl (.slice (some ⟨L, 0, none⟩) 3 3) 3 (awCi ++ awCi ++ awCr g).toList (by go_simp; first | done | rfl) hold nb 1 (awCb (r0 + 1)).toList rfl 26 (by go_simp; first | done | rfl) hrow (by intro u hu; simp only [List.mem_cons, List.not_mem_nil, or_false] at hu; rcases hu with rfl | rfl | rfl | rfl | rfl <;> rfl) (by unfold maxLen; omega) (by omega) (by omega)) ?_
    rintro v w' ⟨h1, h2⟩
    obtain ⟨a1, c1, e, -⟩ := own_shape h1.1
    exact ⟨⟨a1, c1, e⟩, h2, h1⟩) ?_
   rintro v ⟨ga, gc, rfl⟩
   simp only [Act.put, pA, pZ, pS]
   refine rv_nil (fun w hG hH => ?_)
   have hFA : A5.FA w0.heap.size wc.heap.size 26 (.slice (some ⟨L, 0, none⟩) 3 3) 4 (awLs g (r0 + 1)) (.slice ga 4 gc) w := hH (9, fun w => A5.FA w0.heap.size wc.heap.size 26 (.slice (some ⟨L, 0, none⟩) 3 3) 4 (awLs g (r0 + 1)) (.slice ga 4 gc) w) List.mem_cons_self
   obtain ⟨w7, rfl⟩ : ∃ x, x = w := ⟨_, rfl⟩
   have f7 := hG.1.heap (b := F) (fun e => (OWB.out _ e).2.1 rfl) U6.out.f
   have y4 : w7.cell? ⟨F, 4, none⟩ = some (.slice (some ⟨L, 0, none⟩) 3 3) := blk_cell f7 4
   have z4 := blk_frozen f7 4
   have H7 := Lib.hid (And.intro hFA.1 (And.intro hG.1 f7))
   clear hFA hG hH f7 u1 f4 t0 t1 t2 t3 t4
   go_wp2_with fail
   go_meet
   obtain ⟨r7, k7, f7⟩ := H7.out
   have ks := kb_set w7 F 4 (.slice ga 4 gc)
   have hU := U6.out
   have kall := (k7.mono (S' := fun k => (Value.slice (some ⟨L, 0, none⟩) 3 3).ownBlock = some k ∨ k = F) (fun k _ e => Or.inl e)).trans (ks.mono (fun k _ e => Or.inr e))
   have hall : ∀ k, ((Value.slice (some ⟨L, 0, none⟩) 3 3).ownBlock = some k ∨ k = F) → k ≠ r0 + 1 + 1 ∧ k ≠ r0 ∧ k ≠ r0 + 1 ∧ k ≠ g ∧ k ≠ Bu ∧ k ≠ P ∧ k ≠ Q ∧ k ≠ N := fun k hk => by
    obtain ⟨cN, hN, -⟩ := own_block hU.na (g := N) rfl
    rcases hk with hk | rfl
    ·obtain ⟨a1, a2, a3, a4⟩ := NE.out k hk
     obtain ⟨b1, b2, b3, b4, b5⟩ := OWB.out k hk
     exact ⟨a1, a2, a3, a4, b1, b3, b4, b5⟩
    ·exact ⟨fun e => obj_ne hU.f hU.b (by decide) e, fun e => obj_ne hU.f hU.hr0 (by decide) e, fun e => obj_ne hU.f hU.hr1 (by decide) e, fun e => obj_ne hU.f hU.hg (by decide) e, fun e => obj_ne hU.f hU.u (by decide) e, fun e => obj_ne hU.f hU.p (by decide) e, fun e => obj_ne hU.f hU.q (by decide) e, fun e => obj_ne hU.f hN (by decide) e⟩
   refine ⟨.slice ga 4 gc, hU.next kall (fun k hk e => ?_) (fun k e => ?_) (setCell_blk (i := 4) f7 _) (own_kb r7 ks (fun q hq e => ?_)) (own_kb hU.na kall (fun q hq e => ?_))⟩
   ·rcases e with e | e
    ·exact Or.inl e
    ·exact Or.inr (Or.inr e)
   ·obtain ⟨a1, a2, a3, a4, a5, a6, a7, -⟩ := hall k e
    exact ⟨a1, a2, a3, a4, a5, a6, a7⟩
   ·obtain ⟨c, h3, -⟩ := own_block r7 hq
    exact obj_ne h3 f7 (by decide) e
   ·simp only [Value.ownBlock, Option.some.injEq] at hq
    exact (hall q e).2.2.2.2.2.2.2 hq.symm
 case rest =>
 obtain ⟨va, hU8⟩ := hcut
 obtain ⟨w8, rfl⟩ : ∃ x, x = wc := ⟨_, rfl⟩
 have U8 := Lib.hid hU8
 clear hU8 U6 U5 NE
 obtain ⟨vb, vc, hva, -⟩ := own_shape U8.out.la
 subst hva
 have u1 : w8.cell? ⟨Bu, 1, none⟩ = some (.slice (some ⟨F, 0, none⟩) 1 1) := blk_cell U8.out.u 1
 have f5 : w8.cell? ⟨F, 5, none⟩ = some (.slice (some ⟨N, 0, none⟩) 3 3) := blk_cell U8.out.f 5
 have OWB : Hid (∀ k, (Value.slice (some ⟨N, 0, none⟩) 3 3).ownBlock = some k → k ≠ r0 + 1 + 1 ∧ k ≠ r0 ∧ k ≠ r0 + 1 ∧ k ≠ g ∧ k ≠ Bu ∧ k ≠ P ∧ k ≠ Q ∧ k ≠ F ∧ (Value.slice vb 4 vc).ownBlock ≠ some k) := Lib.hid (fun k hk => by
  obtain ⟨c, h3, -⟩ := own_block U8.out.na hk
  refine ⟨fun e => obj_ne h3 U8.out.b (by decide) e, fun e => obj_ne h3 U8.out.hr0 (by decide) e, fun e => obj_ne h3 U8.out.hr1 (by decide) e, fun e => obj_ne h3 U8.out.hg (by decide) e, fun e => obj_ne h3 U8.out.u (by decide) e, fun e => obj_ne h3 U8.out.p (by decide) e, fun e => obj_ne h3 U8.out.q (by decide) e, fun e => obj_ne h3 U8.out.f (by decide) e, fun e => ?_⟩
  obtain ⟨c', h4, -⟩ := own_block U8.out.la e
  exact obj_ne h3 h4 (by decide) rfl)
 have hlt0 : ∀ q, (Value.slice (some ⟨N, 0, none⟩) 3 3).ownBlock = some q → q < w8.heap.size := fun q hq => (U8.out.na.lt q hq).2
 have HLT := Lib.hid hlt0
 clear hlt0
 go_upto_region 9 with fail
 go_cut [] (fun wx => ∃ vn ss, AwU w0 (r0 + 1 + 1) Bu r0 (r0 + 1) F P Q g (.slice vb 4 vc) vn 4 4 (awLs g (r0 + 1)) ss wx)
 case first =>
  refine wp_region_rv 9 (A1.GA w0.heap.size 9 (.slice (some ⟨N, 0, none⟩) 3 3) 4 (awCn.toList ++ [.string ⟨#[]⟩])) (kindW [(7, OneRow w8.heap.size #[.string ⟨#[]⟩] 9, OneRowAt w8.heap.size #[.string ⟨#[]⟩] 9), (8, fun v => ∃ a c, v = .slice a 4 c, A1.FA w0.heap.size w8.heap.size 9 (.slice (some ⟨N, 0, none⟩) 3 3) 4 (awCn.toList ++ [.string ⟨#[]⟩]))])
   (by kernel_rfl) (by kernel_rfl) A1.GA.trans A1.GA.refl (A1.GA.start _) (A1.kindW_monoG _ (by
    intro p hp; simp only [List.mem_cons, List.not_mem_nil, or_false] at hp
    rcases hp with rfl | rfl
    ·rintro v a b hG ⟨nb, h1, h2, h3⟩
     exact ⟨nb, h1, h2, hG.1.heap (fun e => by have := HLT.out nb e; omega) h3⟩
    ·intro v a b hG hf
     exact hf.lasts hG)) ?_
  simp only [pT, pU, pV, pW]
  refine rv_det (by kernel_rfl) rfl (by intro w hG hH; go_simp; first | done | with_reducible rfl) ?_
  simp only [Act.put, pA, pZ, pS]
  refine rv_det (by kernel_rfl) rfl (by intro w hG hH; have hc0 := KB.cell hG.1 (fun e => (OWB.out _ e).2.2.2.2.1 rfl) u1; go_simp; first | done | with_reducible rfl) ?_
  simp only [Act.put, pA, pZ, pS]
  refine rv_det (by kernel_rfl) rfl (by intro w hG hH; go_simp; first | done | with_reducible rfl) ?_
  simp only [Act.put, pA, pZ, pS]
  refine rv_det (by kernel_rfl) rfl (by intro w hG hH; have hc0 := KB.cell hG.1 (fun e => (OWB.out _ e).2.2.2.2.1 rfl) u1; go_simp; first | done | with_reducible rfl) ?_
  simp only [Act.put, pA, pZ, pS]
  iterate 2 (refine rv_det (by kernel_rfl) rfl (by intro w hG hH; go_simp; first | done | with_reducible rfl) ?_; simp only [Act.put, pA, pZ, pS])
  refine rv_det (by kernel_rfl) rfl (by intro w hG hH; have hc0 := KB.cell hG.1 (fun e => (OWB.out _ e).2.2.2.2.2.2.2.1 rfl) f5; go_simp; first | done | with_reducible rfl) ?_
  simp only [Act.put, pA, pZ, pS]
  refine rv_rel (by kernel_rfl) rfl ⟨.slice (some ⟨_, 0, none⟩) 1 1, _, rfl, Nat.le_refl _⟩ (fun w hG hH => opVal_value (v := .slice (some ⟨w.heap.size, 0, none⟩) 1 1) (w' := w.alloc (.cells #[.string ⟨#[]⟩] 9)) (by go_simp; first | done | rfl)
   ⟨⟨_, rfl, hG.1.size⟩, A1.GA.kb ((KB.refl (fun _ => False) w).alloc _) (fun _ x => x) (fun g e => by have := HLT.out g e; have := hG.1.size; omega), ⟨_, rfl, hG.1.size, alloc_new w _⟩⟩) ?_
  rintro v ⟨nb, rfl, hnb4⟩
  simp only [Act.put, pA, pZ, pS]
  refine rv_rel (by kernel_rfl) rfl ⟨.slice none 4 0, _, _, rfl⟩ (fun w hG hH => by
   obtain ⟨nb', e, -, hrow⟩ := hH (7, fun w => OneRowAt w8.heap.size #[.string ⟨#[]⟩] 9 (.slice (some ⟨nb, 0, none⟩) 1 1) w) List.mem_cons_self (by kernel_rfl)
   simp only [Value.slice.injEq, Option.some.injEq, Addr.mk.injEq, and_true] at e
   subst e
   have hold : w.ownsRow w0.heap.size 9 1 (.slice (some ⟨N, 0, none⟩) 3 3) 3 awCn.toList := A1.GA.old (m := 3) hG U8.out.na (by omega)
   have hsw := hG.1.size
   have hsz := U8.out.kb.size
   refine A1.opVal_imp (A1.opVal_append (P := Tryz.prog) w0.heap.size w8.heap.size hsw (.tmp 67) (.tmp 68) 85 9 rfl Tryz.infoStr6 Tryz.underlying85' rfl (.slice (some ⟨N, 0, none⟩) 3 3) 3 awCn.toList (by go_simp; first | done | rfl) hold nb 1 [.string ⟨#[]⟩] rfl 9 (by go_simp; first | done | rfl) hrow (by intro u hu; simp only [List.mem_cons, List.not_mem_nil, or_false] at hu; rcases hu with rfl; rfl) (by unfold maxLen; omega) (by omega) (by omega)) ?_
   rintro v w' ⟨h1, h2⟩
   obtain ⟨a1, c1, e, -⟩ := own_shape h1.1
   exact ⟨⟨a1, c1, e⟩, h2, h1⟩) ?_
  rintro v ⟨ga, gc, rfl⟩
  simp only [Act.put, pA, pZ, pS]
  refine rv_nil (fun w hG hH => ?_)
  have hFA : A1.FA w0.heap.size w8.heap.size 9 (.slice (some ⟨N, 0, none⟩) 3 3) 4 (awCn.toList ++ [.string ⟨#[]⟩]) (.slice ga 4 gc) w := hH (8, fun w => A1.FA w0.heap.size w8.heap.size 9 (.slice (some ⟨N, 0, none⟩) 3 3) 4 (awCn.toList ++ [.string ⟨#[]⟩]) (.slice ga 4 gc) w) List.mem_cons_self
  obtain ⟨w7, rfl⟩ : ∃ x, x = w := ⟨_, rfl⟩
  have f7 := hG.1.heap (b := F) (fun e => (OWB.out _ e).2.2.2.2.2.2.2.1 rfl) U8.out.f
  have y5 : w7.cell? ⟨F, 5, none⟩ = some (.slice (some ⟨N, 0, none⟩) 3 3) := blk_cell f7 5
  have z5 := blk_frozen f7 5
  have H7 := Lib.hid (And.intro hFA.1 (And.intro hG.1 f7))
  clear hFA hG hH f7 u1 f5
  go_wp2_with fail
  go_meet
  obtain ⟨r7, k7, f7⟩ := H7.out
  have ks := kb_set w7 F 5 (.slice ga 4 gc)
  have hU := U8.out
  have kall := (k7.mono (S' := fun k => (Value.slice (some ⟨N, 0, none⟩) 3 3).ownBlock = some k ∨ k = F) (fun k _ e => Or.inl e)).trans (ks.mono (fun k _ e => Or.inr e))
  refine ⟨.slice ga 4 gc, _, hU.next kall (fun k hk e => ?_) (fun k e => ?_) (setCell_blk (i := 5) f7 _) (own_kb hU.la kall (fun q hq e => ?_)) (own_kb r7 ks (fun q hq e => ?_))⟩
  ·rcases e with e | e
   ·exact Or.inr (Or.inl e)
   ·exact Or.inr (Or.inr e)
  ·rcases e with e | rfl
   ·obtain ⟨a1, a2, a3, a4, a5, a6, a7, -⟩ := OWB.out k e
    exact ⟨a1, a2, a3, a4, a5, a6, a7⟩
   ·exact ⟨fun e => obj_ne hU.f hU.b (by decide) e, fun e => obj_ne hU.f hU.hr0 (by decide) e, fun e => obj_ne hU.f hU.hr1 (by decide) e, fun e => obj_ne hU.f hU.hg (by decide) e, fun e => obj_ne hU.f hU.u (by decide) e, fun e => obj_ne hU.f hU.p (by decide) e, fun e => obj_ne hU.f hU.q (by decide) e⟩
  ·rcases e with e | e
   ·exact (OWB.out q e).2.2.2.2.2.2.2.2 hq
   ·obtain ⟨c, h3, -⟩ := own_block hU.la hq
    exact obj_ne h3 hU.f (by decide) e
  ·obtain ⟨c, h3, -⟩ := own_block r7 hq
   exact obj_ne h3 f7 (by decide) e
 case rest =>
 obtain ⟨vn, ss, hU9⟩ := hcut
 obtain ⟨w9, rfl⟩ : ∃ x, x = wc := ⟨_, rfl⟩
 have U9 := Lib.hid hU9
 clear hU9 U8 HLT OWB u1 f5
 have HU := Lib.hid (fun (V : World) (hV : KB F0 w9 V) => U9.out.kbF hV)
 have u0 : w9.cell? ⟨Bu, 0, none⟩ = some (.slice none 0 0) := blk_cell U9.out.u 0
 have u1 : w9.cell? ⟨Bu, 1, none⟩ = some (.slice (some ⟨F, 0, none⟩) 1 1) := blk_cell U9.out.u 1
 have u2 : w9.cell? ⟨Bu, 2, none⟩ = some (.int .i64 0) := blk_cell U9.out.u 2
 go_wp2_with fail
 refine (U9.out.shapes).mono ?_
 rintro e w10 ⟨k10, sa, sc, us, rfl, hsh⟩
 have K10 := Lib.hid k10
 have SH := Lib.hid hsh
 have V10 := HU.out w10 k10
 have u0 : w10.cell? ⟨Bu, 0, none⟩ = some (.slice none 0 0) := blk_cell V10.u 0
 have u1 : w10.cell? ⟨Bu, 1, none⟩ = some (.slice (some ⟨F, 0, none⟩) 1 1) := blk_cell V10.u 1
 have u2 : w10.cell? ⟨Bu, 2, none⟩ = some (.int .i64 0) := blk_cell V10.u 2
 have b4 : w10.cell? ⟨r0 + 1 + 1, 4, none⟩ = some (.slice (some ⟨r0 + 1, 0, none⟩) 1 1) := blk_cell V10.b 4
 have c0 : w10.cell? ⟨r0 + 1, 0, none⟩ = some (.int .u8 3) := blk_cell V10.hr1 0
 have c1 : w10.cell? ⟨r0 + 1, 1, none⟩ = some (.bool false) := blk_cell V10.hr1 1
 have c2 : w10.cell? ⟨r0 + 1, 2, none⟩ = some (.int .i64 0) := blk_cell V10.hr1 2
 have c3 : w10.cell? ⟨r0 + 1, 3, none⟩ = some (.int .i64 0) := blk_cell V10.hr1 3
 have c4 : w10.cell? ⟨r0 + 1, 4, none⟩ = some (.slice (some ⟨r0, 0, none⟩) 1 1) := blk_cell V10.hr1 4
 clear k10 hsh V10
 go_upto_region 11 with fail
 refine wp_region_rv 11 GK (kindW [(5, (fun v => v = .tuple #[.int .i64 1, .int .i64 0]), (fun _ _ => True))]) (by kernel_rfl) (by kernel_rfl) (kb_trans _) (kb_refl _) (kb_start _ _) (kindW_mono _ (by intro p hp; simp only [List.mem_cons, List.not_mem_nil, or_false] at hp; rcases hp with rfl <;> exact lasts_true)) ?_
 simp only [pT, pU, pV, pW]
 refine rv_det (by kernel_rfl) rfl (by intro w hG hH; have hc0 := kc hG (u0); have hc1 := kc hG (u1); have hc2 := kc hG (u2); go_simp; first | done | with_reducible rfl) ?_
 simp only [Act.put, pA, pZ, pS]
 refine rv_det (by kernel_rfl) rfl (by intro w hG hH; go_simp; first | done | with_reducible rfl) ?_
 simp only [Act.put, pA, pZ, pS]
 refine rv_det (by kernel_rfl) rfl (by intro w hG hH; have hc0 := kc hG (b4); go_simp; first | done | with_reducible rfl) ?_
 simp only [Act.put, pA, pZ, pS]
 refine rv_det (by kernel_rfl) rfl (by intro w hG hH; go_simp; first | done | with_reducible rfl) ?_
 simp only [Act.put, pA, pZ, pS]
 refine rv_det (by kernel_rfl) rfl (by intro w hG hH; have hc0 := kc hG (c0); have hc1 := kc hG (c1); have hc2 := kc hG (c2); have hc3 := kc hG (c3); have hc4 := kc hG (c4); go_simp; first | done | with_reducible rfl) ?_
 simp only [Act.put, pA, pZ, pS]
 refine rv_rel (by kernel_rfl) rfl ⟨_, rfl⟩ (by
  intro w hG hH
  refine opVal_call (by go_simp; first | done | exact ⟨⟨rfl, rfl⟩, rfl⟩) ?_
  refine ((HU.out _ (K10.out.trans hG)).shape).mono ?_
  rintro e w' ⟨rfl, hq⟩
  exact ⟨_, rfl, rfl, by first | (obtain ⟨nq, rfl⟩ := hq; exact (KB.refl _ _).drewN _) | (subst hq; exact KB.refl _ _) | exact hq, trivial⟩) ?_
 rintro v rfl
 simp only [Act.put, pA, pZ, pS]
 iterate 5 (refine rv_det (by kernel_rfl) rfl (by intro w hG hH; go_simp; first | done | with_reducible rfl) ?_; simp only [Act.put, pA, pZ, pS])
 refine rv_nil (fun w hG hH => ?_)
 obtain ⟨w11, rfl⟩ : ∃ x, x = w := ⟨_, rfl⟩
 have K11 := Lib.hid hG
 have V11 := HU.out w11 (K10.out.trans hG)
 clear hG hH u0 u1 u2 b4 c0 c1 c2 c3 c4
 have u0 : w11.cell? ⟨Bu, 0, none⟩ = some (.slice none 0 0) := blk_cell V11.u 0
 have u1 : w11.cell? ⟨Bu, 1, none⟩ = some (.slice (some ⟨F, 0, none⟩) 1 1) := blk_cell V11.u 1
 have u2 : w11.cell? ⟨Bu, 2, none⟩ = some (.int .i64 0) := blk_cell V11.u 2
 have FR := Lib.hid V11.frame
 clear V11
 go_wp2_with fail
 refine FR.out.mono ?_
 rintro e w12 ⟨k12, G, rfl⟩
 have K12 := Lib.hid (K11.out.trans k12)
 clear k12 FR u0 u1 u2
 have V12 := HU.out w12 (K10.out.trans K12.out)
 have u0 : w12.cell? ⟨Bu, 0, none⟩ = some (.slice none 0 0) := blk_cell V12.u 0
 have u1 : w12.cell? ⟨Bu, 1, none⟩ = some (.slice (some ⟨F, 0, none⟩) 1 1) := blk_cell V12.u 1
 have u2 : w12.cell? ⟨Bu, 2, none⟩ = some (.int .i64 0) := blk_cell V12.u 2
 obtain ⟨W13, h13⟩ : ∃ x, x = w12.alloc (.cells #[.int .i64 (-1)] 92) := ⟨_, rfl⟩
 have k13 : KB F0 w12 W13 := by rw [h13]; exact (KB.refl _ _).alloc _
 have PL := Lib.hid ((HU.out W13 (K10.out.trans (K12.out.trans k13))).place (q := w12.heap.size) (by rw [h13]; exact alloc_new _ _))
 have H13 := Lib.hid h13
 have K13 := Lib.hid (K12.out.trans k13)
 clear h13 k13 V12
 go_wp2_with fail
 rw [← H13.out]
 refine PL.out.mono ?_
 rintro e w14 ⟨k14, x, xc, rfl, hxc, hx1⟩
 have K14 := Lib.hid (K13.out.trans k14)
 have X1 := Lib.hid hx1
 clear k14 PL u0 u1 u2 hx1
 have V14 := HU.out w14 (K10.out.trans K14.out)
 have t0 : w14.cell? ⟨r0 + 1 + 1, 0, none⟩ = some (.int .u8 3) := blk_cell V14.b 0
 have t1 : w14.cell? ⟨r0 + 1 + 1, 1, none⟩ = some (.bool false) := blk_cell V14.b 1
 have t2 : w14.cell? ⟨r0 + 1 + 1, 2, none⟩ = some (.int .i64 0) := blk_cell V14.b 2
 have t3 : w14.cell? ⟨r0 + 1 + 1, 3, none⟩ = some (.int .i64 0) := blk_cell V14.b 3
 have t4 : w14.cell? ⟨r0 + 1 + 1, 4, none⟩ = some (.slice (some ⟨r0 + 1, 0, none⟩) 1 1) := blk_cell V14.b 4
 have BX := Lib.hid V14.boxes
 clear V14
 go_wp2_with fail
 refine BX.out.mono ?_
 rintro e w15 ⟨k15, xa, xb, rfl⟩
 have K15 := Lib.hid k15
 clear k15 BX t0 t1 t2 t3 t4
 go_wp2_with fail
 refine (lwI64_any w15).mono ?_
 rintro e w16 ⟨rfl, k16⟩
 have K16 := Lib.hid (K15.out.trans k16)
 clear k16
 go_wp2_with fail
 refine (lwI64_any w16).mono ?_
 rintro e w17 ⟨rfl, k17⟩
 have K17 := Lib.hid (K16.out.trans k17)
 clear k17
 obtain ⟨W18, h18⟩ : ∃ x, x = w17.alloc (.cells #[.string ⟨#[97]⟩, .int .u8 1, .bool false, .int .i64 0, .int .i64 0, .slice none 0 0, .string ⟨#[98]⟩, .int .u8 1, .bool false, .int .i64 0, .int .i64 0, .slice none 0 0] 83) := ⟨_, rfl⟩
 have k18 : KB F0 w17 W18 := by rw [h18]; exact (KB.refl _ _).alloc _
 have b18 : W18.heap[w17.heap.size]? = some (.cells #[.string ⟨#[97]⟩, .int .u8 1, .bool false, .int .i64 0, .int .i64 0, .slice none 0 0, .string ⟨#[98]⟩, .int .u8 1, .bool false, .int .i64 0, .int .i64 0, .slice none 0 0] 83 (0, 0)) := by rw [h18]; exact alloc_new _ _
 have z18 : W18.heap.size = w17.heap.size + 1 := by rw [h18]; simp
 obtain ⟨W19, h19⟩ : ∃ x, x = W18.alloc (.cells #[.string ⟨#[83]⟩, .slice (some ⟨w17.heap.size, 0, none⟩) 2 2] 81) := ⟨_, rfl⟩
 have k19 : KB F0 W18 W19 := by rw [h19]; exact (KB.refl _ _).alloc _
 have b19 : W19.heap[w17.heap.size + 1]? = some (.cells #[.string ⟨#[83]⟩, .slice (some ⟨w17.heap.size, 0, none⟩) 2 2] 81 (0, 0)) := by rw [h19, ← z18]; exact alloc_new _ _
 have FD := Lib.hid (awField_any (k19.heap (fun x => x) b18) b19)
 have H18 := Lib.hid h18
 have H19 := Lib.hid h19
 have K19 := Lib.hid (K17.out.trans (k18.trans k19))
 clear h18 h19 k18 k19 b18 b19 z18
 go_wp2_with fail
 rw [← H18.out]
 rw [← H19.out]
 refine FD.out.mono ?_
 rintro e w20 ⟨rfl, k20⟩
 have K20 := Lib.hid (K14.out.trans (K19.out.trans k20))
 have K20b := Lib.hid (K19.out.trans k20)
 clear k20 FD
 obtain ⟨q, b, bc, hsa, hsc, hbc, hc1, hc2⟩ := awShape1 SH.out
 have MY := Lib.hid (fun (V : World) (hV : KB F0 w20 V) => awMay_any SH.out (K20.out.trans hV))
 have s1 := K20.out.cell (p := ⟨q, 1, none⟩) (fun x => x) hc1
 have s2 := K20.out.cell (p := ⟨b, 2, none⟩) (fun x => x) hc2
 subst hsa
 have x1 := K20b.out.cell (p := ⟨x, 1, none⟩) (fun x => x) X1.out
 clear hc1 hc2
 go_wp2_with fail
 refine (MY.out _ (KB.refl _ _)).mono ?_
 rintro e w21 ⟨rfl, k21⟩
 have K21 := Lib.hid k21
 have x1 := k21.cell (p := ⟨x, 1, none⟩) (fun x => x) x1
 clear k21 MY s1 s2
 go_wp2_with fail
 go_ret
 exact ⟨rfl, U9.out.kb.trans (K10.out.trans (K20.out.trans K21.out))⟩
end Go.Proofs.YtaeppaaolkcbbaaGreatDoor

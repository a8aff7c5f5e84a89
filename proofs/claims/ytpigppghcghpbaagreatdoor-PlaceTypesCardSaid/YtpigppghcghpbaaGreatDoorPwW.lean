/- loanwordlaw09.PlaceWithin. -/
import Derived.Test.YtpigppghcghpbaaGreatDoorMg36
import Derived.Test.YtpigppghcghpbaaGreatDoorPwI
import Derived.Test.YtpigppghcghpbaaGreatDoorMg44
import Derived.Test.YtpigppghcghpbaaGreatDoorPlV
namespace Go.Proofs.YtpigppghcghpbaaGreatDoor
open Go.RowKit

theorem StsAt.le {w : World} {n m : Nat} {a : Option Addr} {S : List (List Ty)} (h : StsAt n w a S) (hm : m ≤ n) : StsAt m w a S := fun i hi => by
  obtain ⟨b, o, nm, fa, fc, e, h0, h1, h2, h3⟩ := h i hi
  refine ⟨b, o, nm, fa, fc, e, h0, h1, h2, fun j hj => ?_⟩
  obtain ⟨b, o, nm, a', c', e, h4, h5, h6⟩ := h3 j hj
  exact ⟨b, o, nm, a', c', e, h4, h5, h6.le hm⟩
theorem TysAt.le {w : World} {n m : Nat} {a : Option Addr} {l : List Ty} (h : TysAt n w a l) (hm : m ≤ n) : TysAt m w a l := fun i hi => by
  obtain ⟨b, o, a', c', e, h4, h5⟩ := h i hi
  exact ⟨b, o, a', c', e, h4, h5.le hm⟩
theorem winV_yes {p q : Pl} {op oq : Option (Ty × List Int)} {d : Int} (h : op.isSome = true ∧ oq.isSome = true ∧ 1 ≤ d ∧ d ≤ 3) : winV p q op oq d = (winB p q (hows oq) d, 0) := by unfold winV; rw [if_pos h]
theorem winV_no {p q : Pl} {op oq : Option (Ty × List Int)} {d : Int} (h : ¬ (op.isSome = true ∧ oq.isSome = true ∧ 1 ≤ d ∧ d ≤ 3)) : winV p q op oq d = (false, 2) := by unfold winV; rw [if_neg h]
set_option maxRecDepth 100000 in
set_option maxHeartbeats 64000000 in
theorem withinLaw_any (S : List (List Ty)) (sa : Option Addr) (sc : Nat) (hsc : S.length ≤ sc) (L : List Ty) (la : Option Addr) (lc : Nat) (p q : Pl) (ap aq : Option Addr) (cp cq : Nat) (d : Int) (w : World) (hT : TabP w) (hS : StsAt 61 w sa S) (hL : TysAt 61 w la L) (hp : IntsAt w ap p.path) (hq : IntsAt w aq q.path) (hcp : p.path.length ≤ cp) (hcq : q.path.length ≤ cq) :
    Calls Tryz.prog 3 #[.slice sa S.length sc, .slice la L.length lc, plV p ap cp, plV q aq cq, .int .u8 d] w fun e w' => e = .returned (.bool true) ∧ KB F0 w w' := by
  obtain ⟨w0, rfl⟩ : ∃ w0, w0 = w := ⟨_, rfl⟩
  obtain ⟨Np, hNp⟩ : ∃ N, N = p.path.length := ⟨_, rfl⟩
  obtain ⟨Nq, hNq⟩ : ∃ N, N = q.path.length := ⟨_, rfl⟩
  obtain ⟨lp, hlp⟩ : ∃ x, x = p.loc := ⟨_, rfl⟩
  obtain ⟨lq, hlq⟩ : ∃ x, x = q.loc := ⟨_, rfl⟩
  obtain ⟨nS, hnS⟩ : ∃ n, n = S.length := ⟨_, rfl⟩
  obtain ⟨nL, hnL⟩ : ∃ n, n = L.length := ⟨_, rfl⟩
  obtain ⟨hk3, hb1, hb2, hb3, -⟩ := new3 w0 #[.int .i64 lp, .slice ap Np cp] #[.int .i64 lq, .slice aq Nq cq] #[.int .i64 lp, .slice ap Np cp, .int .i64 lq, .slice aq Nq cq] 26 26 26
  obtain ⟨W, hW⟩ : ∃ W, W = (((w0.alloc (.cells #[.int .i64 lp, .slice ap Np cp] 26)).alloc (.cells #[.int .i64 lq, .slice aq Nq cq] 26)).alloc (.cells #[.int .i64 lp, .slice ap Np cp, .int .i64 lq, .slice aq Nq cq] 26)) := ⟨_, rfl⟩
  rw [← hW] at hk3 hb1 hb2 hb3
  have FT := Lib.hid (fits_any S sa sc L la lc 2 (by omega) (fun k => if k = 0 then Np else Nq) (w0.heap.size + 1 + 1) W (hS.kbF hk3) (hL.kbF hk3) (fun k hk => by
    obtain rfl | rfl : k = 0 ∨ k = 1 := by omega
    · exact ⟨ap, cp, blk_cell hb3 1⟩
    · exact ⟨aq, cq, blk_cell hb3 3⟩))
  have HB := Lib.hid (And.intro hk3 (And.intro hb1 hb2))
  have AW := Lib.hid (fun (V : World) (hk : KB F0 W V) => awake_any V (hT.kb (hk3.trans hk)))
  have HP := Lib.hid (fun (hl : Np ≤ 60) (V : World) (hk : KB F0 W V) => (show PlAt V p ap cp from ⟨hp.kbF (hk3.trans hk), hcp, by omega⟩))
  have HQ := Lib.hid (fun (hl : Nq ≤ 60) (V : World) (hk : KB F0 W V) => (show PlAt V q aq cq from ⟨hq.kbF (hk3.trans hk), hcq, by omega⟩))
  have HSL := Lib.hid (fun (V : World) (hk : KB F0 W V) => And.intro ((hS.le (show 49 ≤ 61 by omega)).kbF (hk3.trans hk)) ((hL.le (show 49 ≤ 61 by omega)).kbF (hk3.trans hk)))
  have HW := Lib.hid hW
  have HN := Lib.hid (And.intro hNp (And.intro hNq (And.intro hlp (And.intro hlq (And.intro hnS (And.intro hnL hsc))))))
  have ep : ∀ a c, plV p a c = .agg #[.int .i64 lp, .slice a Np c] := fun a c => by rw [hlp, hNp]; rfl
  have eq : ∀ a c, plV q a c = .agg #[.int .i64 lq, .slice a Nq c] := fun a c => by rw [hlq, hNq]; rfl
  rw [ep, eq, ← hnS, ← hnL]
  rw [← hnS, ← hnL] at FT
  have HE := Lib.hid (And.intro ep eq)
  clear hk3 hb1 hb2 hb3 hW hT hp hq hcp hcq hNp hNq hlp hlq ep eq hnS hnL hS hL hsc
  go_enter Tryz.func3, Tryz.ntmps3
  go_wp2_with fail
  rw [← HW.out]
  refine FT.out.mono ?_
  rintro e w1 ⟨ok, rfl, hF, k1⟩
  have HF := Lib.hid hF
  have HB1 := Lib.hid (And.intro k1 (And.intro (k1.heap (fun x => x) HB.out.2.1) (k1.heap (fun x => x) HB.out.2.2)))
  clear hF k1 FT
  cases ok
  case false =>
    go_wp2_with fail
    refine (AW.out _ HB1.out.1).mono ?_
    rintro e w2 ⟨rfl, k2⟩
    have K2 := Lib.hid (HB.out.1.trans (HB1.out.1.trans k2))
    clear k2
    go_wp2_with fail
    go_ret
    exact ⟨rfl, K2.out⟩
  have HFS : Hid (FitsS S L 2 (fun k => if k = 0 then Np else Nq)) := Lib.hid (HF.out rfl)
  have hNp60 : Np ≤ 60 := HFS.out.p 0 (by omega)
  have hNq60 : Nq ≤ 60 := HFS.out.p 1 (by omega)
  have LP := Lib.hid (fun (V : World) (hk : KB F0 w1 V) => lent_nw p ap cp V (HP.out hNp60 V (HB1.out.1.trans hk)))
  have LQ := Lib.hid (fun (V : World) (hk : KB F0 w1 V) => lent_nw q aq cq V (HQ.out hNq60 V (HB1.out.1.trans hk)))
  have x0 : w1.cell? ⟨w0.heap.size, 0, none⟩ = some (.int .i64 lp) := blk_cell HB1.out.2.1 0
  have x1 : w1.cell? ⟨w0.heap.size, 1, none⟩ = some (.slice ap Np cp) := blk_cell HB1.out.2.1 1
  have y0 : w1.cell? ⟨w0.heap.size + 1, 0, none⟩ = some (.int .i64 lq) := blk_cell HB1.out.2.2 0
  have y1 : w1.cell? ⟨w0.heap.size + 1, 1, none⟩ = some (.slice aq Nq cq) := blk_cell HB1.out.2.2 1
  obtain ⟨zp, hzp⟩ : ∃ z, z = p.path := ⟨_, rfl⟩
  obtain ⟨zq, hzq⟩ : ∃ z, z = q.path := ⟨_, rfl⟩
  have HZ := Lib.hid (And.intro hzp hzq)
  simp only [HE.out.1, HE.out.2] at LP LQ
  simp only [← HN.out.1, ← HN.out.2.1, ← HN.out.2.2.1, ← HN.out.2.2.2.1] at LP LQ
  simp only [← hzp, ← hzq] at LP LQ
  clear hzp hzq
  go_upto_region 3 with fail
  refine St.wp_region_rn 6 GK (St.kindS [(1, LentV lp Np, LentW w1.heap.size lp Np (zp ++ [77])), (3, LentV lq Nq, LentW w1.heap.size lq Nq (zq ++ [77])), (4, St.IsPtr, St.NewAt w1.heap.size #[.int .i64 0, .slice none 0 0] 26), (5, St.IsPtr, St.NewAt w1.heap.size #[.int .i64 0, .slice none 0 0] 26)]) (by kernel_rfl) (by kernel_rfl) (kb_trans _) (kb_refl _) (kb_start _ _) (fun _ _ h => h.size) (St.kindS_mono _ (by intro p hp; simp only [List.mem_cons, List.not_mem_nil, or_false] at hp; rcases hp with rfl | rfl | rfl | rfl <;> first | exact lentW_kb | exact St.newAt_kb)) ?_
  simp only [List.take_succ_cons, List.take_zero, List.drop_succ_cons, List.drop_zero]
  refine St.rn_det (by kernel_rfl) rfl (by intro w hG hH; have hc0 := KB.cell hG (fun x => x) (x0); have hc1 := KB.cell hG (fun x => x) (x1); go_simp; first | done | with_reducible rfl) ?_
  simp only [Act.put, List.setIfInBounds_toArray, List.set_cons_zero, List.set_cons_succ]
  refine St.rn_plain (by kernel_rfl) rfl (lentV_ex _ _) (fun _ _ h => h.size) (by
    intro w hG hH
    refine St.opVal_call (by go_simp; first | done | exact ⟨⟨rfl, rfl⟩, rfl⟩) ?_
    refine (LP.out _ hG).mono ?_
    rintro e w' ⟨v, rfl, hv, hk, hw⟩
    exact ⟨_, rfl, hv, hk, fun g => hw _ g hG.size⟩) ?_
  rintro v i1 ⟨g1, e1, rfl, he1⟩
  simp only [Act.put, List.setIfInBounds_toArray, List.set_cons_zero, List.set_cons_succ]
  refine St.rn_det (by kernel_rfl) rfl (by intro w hG hH; have hc0 := KB.cell hG (fun x => x) (y0); have hc1 := KB.cell hG (fun x => x) (y1); go_simp; first | done | with_reducible rfl) ?_
  simp only [Act.put, List.setIfInBounds_toArray, List.set_cons_zero, List.set_cons_succ]
  refine St.rn_plain (by kernel_rfl) rfl (lentV_ex _ _) (fun _ _ h => h.size) (by
    intro w hG hH
    refine St.opVal_call (by go_simp; first | done | exact ⟨⟨rfl, rfl⟩, rfl⟩) ?_
    refine (LQ.out _ hG).mono ?_
    rintro e w' ⟨v, rfl, hv, hk, hw⟩
    exact ⟨_, rfl, hv, hk, fun g => hw _ g hG.size⟩) ?_
  rintro v i2 ⟨g2, e2, rfl, he2⟩
  simp only [Act.put, List.setIfInBounds_toArray, List.set_cons_zero, List.set_cons_succ]
  refine St.rn_rel (by kernel_rfl) rfl St.isPtr_ex (fun w hG hH => St.opVal_new hG (by go_simp; first | done | rfl)) ?_
  rintro v j7 ⟨n7, rfl⟩ - hd7
  simp only [Act.put, List.setIfInBounds_toArray, List.set_cons_zero, List.set_cons_succ]
  refine St.rn_rel (by kernel_rfl) rfl St.isPtr_ex (fun w hG hH => St.opVal_new hG (by go_simp; first | done | rfl)) ?_
  rintro v j8 ⟨n8, rfl⟩ - hd8
  simp only [Act.put, List.setIfInBounds_toArray, List.set_cons_zero, List.set_cons_succ]
  refine St.rn_nil (fun w hG hH => ?_)
  have f8 := hH _ List.mem_cons_self
  have f7 := hH _ (List.mem_cons_of_mem _ List.mem_cons_self)
  have f2 := hH _ (List.mem_cons_of_mem _ (List.mem_cons_of_mem _ List.mem_cons_self))
  have f1 := hH _ (List.mem_cons_of_mem _ (List.mem_cons_of_mem _ (List.mem_cons_of_mem _ List.mem_cons_self)))
  simp only at f8 f7 f2 f1
  have hne : n7 ≠ n8 := St.newAt_ne f7 f8 (hd8 _ List.mem_cons_self)
  obtain ⟨hW2, hA, hB⟩ := lent_two (x := lp) (y := lq) hG (f7 n7 rfl).1 (f8 n8 rfl).1 hne (f7 n7 rfl).2.2 (f8 n8 rfl).2.2 he1 he2 (f1 g1 e1 rfl) (f2 g2 e2 rfl)
  have u0 : w.cell? ⟨n7, 0, none⟩ = some (.int .i64 0) := blk_cell (f7 n7 rfl).2.2 0
  have u1 : w.cell? ⟨n7, 1, none⟩ = some (.slice none 0 0) := blk_cell (f7 n7 rfl).2.2 1
  have v0 : w.cell? ⟨n8, 0, none⟩ = some (.int .i64 0) := blk_cell (f8 n8 rfl).2.2 0
  have v1 : w.cell? ⟨n8, 1, none⟩ = some (.slice none 0 0) := blk_cell (f8 n8 rfl).2.2 1
  have r0 := blk_frozen (f7 n7 rfl).2.2 0
  have r1 := blk_frozen (f7 n7 rfl).2.2 1
  have r2 := blk_frozen (f8 n8 rfl).2.2 0
  have r3 := blk_frozen (f8 n8 rfl).2.2 1
  have hne2 := hne.symm
  have HA := Lib.hid (And.intro hW2 (And.intro hA hB))
  clear hW2 hA hB f8 f7 f2 f1 hH hG hd7 hd8 he1 he2
  go_upto_region 4 with fail
  obtain ⟨w2, hw2⟩ : ∃ W, W = (((w.setCell ⟨n7, 0, none⟩ (.int .i64 lp)).setCell ⟨n7, 1, none⟩ (.slice (some ⟨g1, 0, none⟩) Np e1)).setCell ⟨n8, 0, none⟩ (.int .i64 lq)).setCell ⟨n8, 1, none⟩ (.slice (some ⟨g2, 0, none⟩) Nq e2) := ⟨_, rfl⟩
  rw [← hw2] at HA ⊢
  clear hw2 u0 u1 v0 v1 r0 r1 r2 r3 hne hne2 x0 x1 y0 y1 LP LQ
  have KA := Lib.hid HA.out.1
  have LA : Hid (LentAt w2 w1.heap.size p.loc p.path.length p.path n7 g1 e1) := Lib.hid (by have h := HA.out.2.1; rw [HN.out.1, HN.out.2.2.1, HZ.out.1] at h; exact h)
  have LB : Hid (LentAt w2 w1.heap.size q.loc q.path.length q.path n8 g2 e2) := Lib.hid (by have h := HA.out.2.2; rw [HN.out.2.1, HN.out.2.2.2.1, HZ.out.2] at h; exact h)
  have hs1 : p.path.length ≤ 100000 := by rw [← HN.out.1]; omega
  have hs2 : q.path.length ≤ 100000 := by rw [← HN.out.2.1]; omega
  have hS1 : S.length ≤ 1000000 := by have := HFS.out.s; omega
  have hL1 : L.length ≤ 1000000 := by have := HFS.out.l; omega
  have hF1 : ∀ i, (fds S i).length ≤ 1000000 := fun i => by have := HFS.out.f i; omega
  have K12 := Lib.hid (show KB F0 W w2 from HB1.out.1.trans KA.out)
  have PA := Lib.hid (fun (V : World) (hk : KB F0 w2 V) => And.intro ((LA.out.kbF hk).pl hs1) ((LB.out.kbF hk).pl hs2))
  have PP := Lib.hid (fun (V : World) (hk : KB F0 w2 V) => And.intro (HP.out hNp60 V (K12.out.trans hk)) (HQ.out hNq60 V (K12.out.trans hk)))
  have C1 := fun (V : World) (hk : KB F0 w2 V) => plWithin_any S hS1 hF1 sa sc HN.out.2.2.2.2.2.2 L hL1 la lc p q (some ⟨g1, 0, none⟩) (some ⟨g2, 0, none⟩) e1 e2 d V (HSL.out V (K12.out.trans hk)).1 (HSL.out V (K12.out.trans hk)).2 (PA.out V hk).1 (PA.out V hk).2
  have C2 := fun (V : World) (hk : KB F0 w2 V) => And.intro (rwWalk_any S hS1 hF1 sa sc HN.out.2.2.2.2.2.2 L hL1 la lc p ap cp V (HSL.out V (K12.out.trans hk)).1 (HSL.out V (K12.out.trans hk)).2 (PP.out V hk).1) (rwWalk_any S hS1 hF1 sa sc HN.out.2.2.2.2.2.2 L hL1 la lc q aq cq V (HSL.out V (K12.out.trans hk)).1 (HSL.out V (K12.out.trans hk)).2 (PP.out V hk).2)
  have C3 := fun (V : World) (hk : KB F0 w2 V) (hd : 1 ≤ d ∧ d ≤ 3) (hv : (wkP S L q).isSome = true) => rwWithin_any S hS1 hF1 sa sc HN.out.2.2.2.2.2.2 L hL1 la lc p q ap aq cp cq d V (HSL.out V (K12.out.trans hk)).1 (HSL.out V (K12.out.trans hk)).2 (PP.out V hk).1 (PP.out V hk).2 hd hv
  have C6 := fun (V : World) (hk : KB F0 w2 V) => And.intro ((LA.out.kbF hk).kept ap cp (PP.out V hk).1) ((LB.out.kbF hk).kept aq cq (PP.out V hk).2)
  simp only [HE.out.1, HE.out.2, ← HN.out.1, ← HN.out.2.1, ← HN.out.2.2.1, ← HN.out.2.2.2.1, ← HN.out.2.2.2.2.1, ← HN.out.2.2.2.2.2.1] at C1 C2 C3 C6
  obtain ⟨op, hop⟩ : ∃ o, o = wkP S L p := ⟨_, rfl⟩
  obtain ⟨oq, hoq⟩ : ∃ o, o = wkP S L q := ⟨_, rfl⟩
  rw [← hop, ← hoq] at C1
  rw [← hop, ← hoq] at C2
  rw [← hoq] at C3
  have D1 := Lib.hid C1
  have D2 := Lib.hid C2
  have D3 := Lib.hid C3
  have D6 := Lib.hid C6
  have a0 : w2.cell? ⟨n7, 0, none⟩ = some (.int .i64 lp) := blk_cell HA.out.2.1.cell 0
  have a1 : w2.cell? ⟨n7, 1, none⟩ = some (.slice (some ⟨g1, 0, none⟩) Np e1) := blk_cell HA.out.2.1.cell 1
  have b0 : w2.cell? ⟨n8, 0, none⟩ = some (.int .i64 lq) := blk_cell HA.out.2.2.cell 0
  have b1 : w2.cell? ⟨n8, 1, none⟩ = some (.slice (some ⟨g2, 0, none⟩) Nq e2) := blk_cell HA.out.2.2.cell 1
  have x0 : w2.cell? ⟨w0.heap.size, 0, none⟩ = some (.int .i64 lp) := K12.out.cell (p := ⟨w0.heap.size, 0, none⟩) (fun x => x) (blk_cell HB.out.2.1 0)
  have x1 : w2.cell? ⟨w0.heap.size, 1, none⟩ = some (.slice ap Np cp) := K12.out.cell (p := ⟨w0.heap.size, 1, none⟩) (fun x => x) (blk_cell HB.out.2.1 1)
  have y0 : w2.cell? ⟨w0.heap.size + 1, 0, none⟩ = some (.int .i64 lq) := K12.out.cell (p := ⟨w0.heap.size + 1, 0, none⟩) (fun x => x) (blk_cell HB.out.2.2 0)
  have y1 : w2.cell? ⟨w0.heap.size + 1, 1, none⟩ = some (.slice aq Nq cq) := K12.out.cell (p := ⟨w0.heap.size + 1, 1, none⟩) (fun x => x) (blk_cell HB.out.2.2 1)
  have HC := Lib.hid (And.intro (And.intro a0 a1) (And.intro (And.intro b0 b1) (And.intro (And.intro x0 x1) (And.intro y0 y1))))
  clear C1 C2 C3 C6 hop hoq hs1 hs2 hS1 hL1 hF1 x0 x1 y0 y1
  go_wp2_with fail
  refine (D1.out _ (KB.refl _ _)).mono ?_
  rintro e w3 ⟨rfl, k3⟩
  have K3 := Lib.hid k3
  clear k3 a0 a1 b0 b1
  have x0 := K3.out.cell (p := ⟨w0.heap.size, 0, none⟩) (fun x => x) HC.out.2.2.1.1
  have x1 := K3.out.cell (p := ⟨w0.heap.size, 1, none⟩) (fun x => x) HC.out.2.2.1.2
  obtain ⟨R, hR⟩ : ∃ R, R = winV p q op oq d := ⟨_, rfl⟩
  rw [← hR]
  obtain ⟨rb, re⟩ := R
  have HR := Lib.hid hR
  clear hR
  simp only
  go_wp2_with fail
  refine ((D2.out _ K3.out).1).mono ?_
  rintro e w4 hE
  obtain ⟨tk, tm, tr, ts, va, vn, vc, ga, gc, rfl, -, k4⟩ := wkV_of hE
  obtain ⟨w5, hw5⟩ : ∃ q, q = w4.alloc (.cells #[.int .u8 tk, .bool tm, .int .i64 tr, .int .i64 ts, .slice va vn vc] 36) := ⟨_, rfl⟩
  have K5 := Lib.hid (show KB F0 w2 w5 from by rw [hw5]; exact (K3.out.trans k4).alloc _)
  have HW5 := Lib.hid hw5
  clear hE k4 hw5 x0 x1
  generalize (hows op).length = lh1
  obtain ⟨sp, hsp⟩ : ∃ b, b = op.isSome := ⟨_, rfl⟩
  rw [← hsp]
  have HSP := Lib.hid hsp
  clear hsp
  go_upto_region 6 with fail
  rw [← HW5.out]
  have y0 := K5.out.cell (p := ⟨w0.heap.size + 1, 0, none⟩) (fun x => x) HC.out.2.2.2.1
  have y1 := K5.out.cell (p := ⟨w0.heap.size + 1, 1, none⟩) (fun x => x) HC.out.2.2.2.2
  go_wp2_with fail
  refine ((D2.out _ K5.out).2).mono ?_
  rintro e w6 hE
  obtain ⟨tk2, tm2, tr2, ts2, va2, vn2, vc2, ga2, gc2, rfl, -, k6⟩ := wkV_of hE
  obtain ⟨w7, hw7⟩ : ∃ q, q = w6.alloc (.cells #[.int .u8 tk2, .bool tm2, .int .i64 tr2, .int .i64 ts2, .slice va2 vn2 vc2] 36) := ⟨_, rfl⟩
  have K7 := Lib.hid (show KB F0 w2 w7 from by rw [hw7]; exact (K5.out.trans k6).alloc _)
  have HW7 := Lib.hid hw7
  clear hE k6 hw7 y0 y1
  generalize (hows oq).length = lh2
  obtain ⟨sq, hsq⟩ : ∃ b, b = oq.isSome := ⟨_, rfl⟩
  rw [← hsq]
  have HSQ := Lib.hid hsq
  clear hsq
  go_upto_region 7 with fail
  rw [← HW7.out]
  cases sp
  case false =>
    have HBR : Hid ((rb, re) = (false, 2)) := Lib.hid (by
      rw [HR.out]
      exact winV_no (fun h => by
        have := h.1; rw [← HSP.out] at this; cases this))
    have hrb : rb = false := (Prod.mk.inj HBR.out).1
    have hre : re = 2 := (Prod.mk.inj HBR.out).2
    subst hrb hre
    have a0 := K7.out.cell (p := ⟨n7, 0, none⟩) (fun x => x) HC.out.1.1
    have a1 := K7.out.cell (p := ⟨n7, 1, none⟩) (fun x => x) HC.out.1.2
    have x0 := K7.out.cell (p := ⟨w0.heap.size, 0, none⟩) (fun x => x) HC.out.2.2.1.1
    have x1 := K7.out.cell (p := ⟨w0.heap.size, 1, none⟩) (fun x => x) HC.out.2.2.1.2
    go_wp2_with fail
    refine ((D6.out _ K7.out).1).mono ?_
    rintro e w8 ⟨rfl, k8⟩
    have K8 := Lib.hid (K7.out.trans k8)
    clear k8 a0 a1 x0 x1
    have b0 := K8.out.cell (p := ⟨n8, 0, none⟩) (fun x => x) HC.out.2.1.1
    have b1 := K8.out.cell (p := ⟨n8, 1, none⟩) (fun x => x) HC.out.2.1.2
    have y0 := K8.out.cell (p := ⟨w0.heap.size + 1, 0, none⟩) (fun x => x) HC.out.2.2.2.1
    have y1 := K8.out.cell (p := ⟨w0.heap.size + 1, 1, none⟩) (fun x => x) HC.out.2.2.2.2
    go_wp2_with fail
    refine ((D6.out _ K8.out).2).mono ?_
    rintro e w9 ⟨rfl, k9⟩
    have K9 := Lib.hid (K8.out.trans k9)
    clear k9 b0 b1 y0 y1
    go_wp2_with fail
    refine (AW.out _ (K12.out.trans K9.out)).mono ?_
    rintro e w10 ⟨rfl, k10⟩
    have K10 := Lib.hid (HB.out.1.trans (K12.out.trans (K9.out.trans k10)))
    clear k10
    go_wp2_with fail
    go_ret
    exact ⟨rfl, K10.out⟩
  cases sq
  case false =>
    have HBR : Hid ((rb, re) = (false, 2)) := Lib.hid (by
      rw [HR.out]
      exact winV_no (fun h => by
        have := h.2.1; rw [← HSQ.out] at this; cases this))
    have hrb : rb = false := (Prod.mk.inj HBR.out).1
    have hre : re = 2 := (Prod.mk.inj HBR.out).2
    subst hrb hre
    have a0 := K7.out.cell (p := ⟨n7, 0, none⟩) (fun x => x) HC.out.1.1
    have a1 := K7.out.cell (p := ⟨n7, 1, none⟩) (fun x => x) HC.out.1.2
    have x0 := K7.out.cell (p := ⟨w0.heap.size, 0, none⟩) (fun x => x) HC.out.2.2.1.1
    have x1 := K7.out.cell (p := ⟨w0.heap.size, 1, none⟩) (fun x => x) HC.out.2.2.1.2
    go_wp2_with fail
    refine ((D6.out _ K7.out).1).mono ?_
    rintro e w8 ⟨rfl, k8⟩
    have K8 := Lib.hid (K7.out.trans k8)
    clear k8 a0 a1 x0 x1
    have b0 := K8.out.cell (p := ⟨n8, 0, none⟩) (fun x => x) HC.out.2.1.1
    have b1 := K8.out.cell (p := ⟨n8, 1, none⟩) (fun x => x) HC.out.2.1.2
    have y0 := K8.out.cell (p := ⟨w0.heap.size + 1, 0, none⟩) (fun x => x) HC.out.2.2.2.1
    have y1 := K8.out.cell (p := ⟨w0.heap.size + 1, 1, none⟩) (fun x => x) HC.out.2.2.2.2
    go_wp2_with fail
    refine ((D6.out _ K8.out).2).mono ?_
    rintro e w9 ⟨rfl, k9⟩
    have K9 := Lib.hid (K8.out.trans k9)
    clear k9 b0 b1 y0 y1
    go_wp2_with fail
    refine (AW.out _ (K12.out.trans K9.out)).mono ?_
    rintro e w10 ⟨rfl, k10⟩
    have K10 := Lib.hid (HB.out.1.trans (K12.out.trans (K9.out.trans k10)))
    clear k10
    go_wp2_with fail
    go_ret
    exact ⟨rfl, K10.out⟩
  by_cases hd1 : d < 1
  case pos =>
    have dd1 : decide (d < 1) = true := decide_eq_true hd1
    have HBR : Hid ((rb, re) = (false, 2)) := Lib.hid (by
      rw [HR.out]
      exact winV_no (fun h => by
        omega))
    have hrb : rb = false := (Prod.mk.inj HBR.out).1
    have hre : re = 2 := (Prod.mk.inj HBR.out).2
    subst hrb hre
    have a0 := K7.out.cell (p := ⟨n7, 0, none⟩) (fun x => x) HC.out.1.1
    have a1 := K7.out.cell (p := ⟨n7, 1, none⟩) (fun x => x) HC.out.1.2
    have x0 := K7.out.cell (p := ⟨w0.heap.size, 0, none⟩) (fun x => x) HC.out.2.2.1.1
    have x1 := K7.out.cell (p := ⟨w0.heap.size, 1, none⟩) (fun x => x) HC.out.2.2.1.2
    go_wp2_with fail
    refine ((D6.out _ K7.out).1).mono ?_
    rintro e w8 ⟨rfl, k8⟩
    have K8 := Lib.hid (K7.out.trans k8)
    clear k8 a0 a1 x0 x1
    have b0 := K8.out.cell (p := ⟨n8, 0, none⟩) (fun x => x) HC.out.2.1.1
    have b1 := K8.out.cell (p := ⟨n8, 1, none⟩) (fun x => x) HC.out.2.1.2
    have y0 := K8.out.cell (p := ⟨w0.heap.size + 1, 0, none⟩) (fun x => x) HC.out.2.2.2.1
    have y1 := K8.out.cell (p := ⟨w0.heap.size + 1, 1, none⟩) (fun x => x) HC.out.2.2.2.2
    go_wp2_with fail
    refine ((D6.out _ K8.out).2).mono ?_
    rintro e w9 ⟨rfl, k9⟩
    have K9 := Lib.hid (K8.out.trans k9)
    clear k9 b0 b1 y0 y1
    go_wp2_with fail
    refine (AW.out _ (K12.out.trans K9.out)).mono ?_
    rintro e w10 ⟨rfl, k10⟩
    have K10 := Lib.hid (HB.out.1.trans (K12.out.trans (K9.out.trans k10)))
    clear k10
    go_wp2_with fail
    go_ret
    exact ⟨rfl, K10.out⟩
  have dd1 : decide (d < 1) = false := decide_eq_false hd1
  by_cases hd3 : 3 < d
  case pos =>
    have dd3 : decide (3 < d) = true := decide_eq_true hd3
    have HBR : Hid ((rb, re) = (false, 2)) := Lib.hid (by
      rw [HR.out]
      exact winV_no (fun h => by
        omega))
    have hrb : rb = false := (Prod.mk.inj HBR.out).1
    have hre : re = 2 := (Prod.mk.inj HBR.out).2
    subst hrb hre
    have a0 := K7.out.cell (p := ⟨n7, 0, none⟩) (fun x => x) HC.out.1.1
    have a1 := K7.out.cell (p := ⟨n7, 1, none⟩) (fun x => x) HC.out.1.2
    have x0 := K7.out.cell (p := ⟨w0.heap.size, 0, none⟩) (fun x => x) HC.out.2.2.1.1
    have x1 := K7.out.cell (p := ⟨w0.heap.size, 1, none⟩) (fun x => x) HC.out.2.2.1.2
    go_wp2_with fail
    refine ((D6.out _ K7.out).1).mono ?_
    rintro e w8 ⟨rfl, k8⟩
    have K8 := Lib.hid (K7.out.trans k8)
    clear k8 a0 a1 x0 x1
    have b0 := K8.out.cell (p := ⟨n8, 0, none⟩) (fun x => x) HC.out.2.1.1
    have b1 := K8.out.cell (p := ⟨n8, 1, none⟩) (fun x => x) HC.out.2.1.2
    have y0 := K8.out.cell (p := ⟨w0.heap.size + 1, 0, none⟩) (fun x => x) HC.out.2.2.2.1
    have y1 := K8.out.cell (p := ⟨w0.heap.size + 1, 1, none⟩) (fun x => x) HC.out.2.2.2.2
    go_wp2_with fail
    refine ((D6.out _ K8.out).2).mono ?_
    rintro e w9 ⟨rfl, k9⟩
    have K9 := Lib.hid (K8.out.trans k9)
    clear k9 b0 b1 y0 y1
    go_wp2_with fail
    refine (AW.out _ (K12.out.trans K9.out)).mono ?_
    rintro e w10 ⟨rfl, k10⟩
    have K10 := Lib.hid (HB.out.1.trans (K12.out.trans (K9.out.trans k10)))
    clear k10
    go_wp2_with fail
    go_ret
    exact ⟨rfl, K10.out⟩
  have dd3 : decide (3 < d) = false := decide_eq_false hd3
  have HBR : Hid ((rb, re) = (winB p q (hows oq) d, 0)) := Lib.hid (by
    rw [HR.out]
    exact winV_yes ⟨HSP.out.symm, HSQ.out.symm, by omega, by omega⟩)
  have D3' := Lib.hid (fun (V : World) (hk : KB F0 w2 V) => D3.out V hk ⟨by omega, by omega⟩ HSQ.out.symm)
  rw [← (Prod.mk.inj HBR.out).1] at D3'
  have hre : re = 0 := (Prod.mk.inj HBR.out).2
  subst hre
  have x0 := K7.out.cell (p := ⟨w0.heap.size, 0, none⟩) (fun x => x) HC.out.2.2.1.1
  have x1 := K7.out.cell (p := ⟨w0.heap.size, 1, none⟩) (fun x => x) HC.out.2.2.1.2
  have y0 := K7.out.cell (p := ⟨w0.heap.size + 1, 0, none⟩) (fun x => x) HC.out.2.2.2.1
  have y1 := K7.out.cell (p := ⟨w0.heap.size + 1, 1, none⟩) (fun x => x) HC.out.2.2.2.2
  go_wp2_with fail
  refine (D3'.out _ K7.out).mono ?_
  rintro e w8 ⟨rfl, k8⟩
  have K8 := Lib.hid (K7.out.trans k8)
  clear k8 x0 x1 y0 y1
  have a0 := K8.out.cell (p := ⟨n7, 0, none⟩) (fun x => x) HC.out.1.1
  have a1 := K8.out.cell (p := ⟨n7, 1, none⟩) (fun x => x) HC.out.1.2
  have x0 := K8.out.cell (p := ⟨w0.heap.size, 0, none⟩) (fun x => x) HC.out.2.2.1.1
  have x1 := K8.out.cell (p := ⟨w0.heap.size, 1, none⟩) (fun x => x) HC.out.2.2.1.2
  go_wp2_with fail
  refine ((D6.out _ K8.out).1).mono ?_
  rintro e w9 ⟨rfl, k9⟩
  have K9 := Lib.hid (K8.out.trans k9)
  clear k9 a0 a1 x0 x1
  have b0 := K9.out.cell (p := ⟨n8, 0, none⟩) (fun x => x) HC.out.2.1.1
  have b1 := K9.out.cell (p := ⟨n8, 1, none⟩) (fun x => x) HC.out.2.1.2
  have y0 := K9.out.cell (p := ⟨w0.heap.size + 1, 0, none⟩) (fun x => x) HC.out.2.2.2.1
  have y1 := K9.out.cell (p := ⟨w0.heap.size + 1, 1, none⟩) (fun x => x) HC.out.2.2.2.2
  go_wp2_with fail
  refine ((D6.out _ K9.out).2).mono ?_
  rintro e w10 ⟨rfl, k10⟩
  have K10 := Lib.hid (K9.out.trans k10)
  clear k10 b0 b1 y0 y1
  go_wp2_with fail
  refine (AW.out _ (K12.out.trans K10.out)).mono ?_
  rintro e w11 ⟨rfl, k11⟩
  have K11 := Lib.hid (HB.out.1.trans (K12.out.trans (K10.out.trans k11)))
  clear k11
  go_wp2_with fail
  go_ret
  exact ⟨rfl, K11.out⟩
end Go.Proofs.YtpigppghcghpbaaGreatDoor

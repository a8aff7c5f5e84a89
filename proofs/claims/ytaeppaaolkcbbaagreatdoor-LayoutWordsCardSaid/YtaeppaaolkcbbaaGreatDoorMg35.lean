/- graph.point (printed by gen_grj.py). -/
import Derived.Test.YtaeppaaolkcbbaaGreatDoorMg33
namespace Go.Proofs.YtaeppaaolkcbbaaGreatDoor
open Go.RowKit
set_option maxRecDepth 100000 in
set_option maxHeartbeats 64000000 in
theorem grPointUse_any (S : List (List Ty)) (Fs : List Gr) (g : Gr) (u : AskA) (d : GrA) (p : Pt) (pd : PtA) (wb w : World) (H : PtIn S Fs g u d p pd wb w) (hop : p.op = 1) (hpre : ptPre g.points.length p = true) :
  Calls Tryz.prog 105 #[.agg (askD S Fs g u d), .agg (ptD p pd)] w fun e w' => e = .returned (.bool (armUse p (spG S g.locals p.dst) (opF S g.locals p.a))) ∧ KB F0 w w' := by
 obtain ⟨w0, rfl⟩ : ∃ w0, w0 = w := ⟨_, rfl⟩
 obtain ⟨rr, hrr⟩ : ∃ rr, rr = armUse p (spG S g.locals p.dst) (opF S g.locals p.a) := ⟨_, rfl⟩
 rw [← hrr]
 have HH := Lib.hid H
 obtain ⟨x, hx⟩ : ∃ x, x = spG S g.locals p.dst := ⟨_, rfl⟩
 obtain ⟨y, hy⟩ : ∃ y, y = spG S g.locals p.src := ⟨_, rfl⟩
 obtain ⟨a, ha⟩ : ∃ a, a = opF S g.locals p.a := ⟨_, rfl⟩
 obtain ⟨b, hb⟩ : ∃ b, b = opF S g.locals p.b := ⟨_, rfl⟩
 obtain ⟨dt, dm, dok⟩ := x
 obtain ⟨st, sm, sok⟩ := y
 obtain ⟨at_, aok⟩ := a
 obtain ⟨bt, bok⟩ := b
 try simp only [← hx, ← hy, ← ha, ← hb] at hrr
 have HR := Lib.hid (And.intro hrr hop)
 obtain ⟨hat, hnx⟩ : 0 ≤ p.at_ ∧ (0 ≤ p.next ∧ p.next < (g.points.length : Int)) := by
  unfold ptPre at hpre
  simp only [hop, Bool.and_eq_true, Bool.not_eq_true', decide_eq_false_iff_not] at hpre
  exact ⟨by omega, by simpa using hpre.2⟩
 have HSP := Lib.hid (And.intro hx (And.intro hy (And.intro ha hb)))
 have hBC : ptD p pd = #[.int .u8 1, .int .i64 p.dst.loc, .slice pd.ta p.dst.path.length pd.tc, .int .u8 p.a.k, .int .i64 p.a.n, .int .i64 p.a.p.loc, .slice pd.aa p.a.p.path.length pd.ac, .int .u8 p.b.k, .int .i64 p.b.n, .int .i64 p.b.p.loc, .slice pd.ba p.b.p.path.length pd.bc, .slice pd.ga p.args.length pd.gc, .string p.sign, .int .i64 p.src.loc, .slice pd.fa p.src.path.length pd.fc, .bool p.mut_, .int .i64 p.fn, .int .i64 p.st, .int .i64 p.next, .int .i64 p.els, .int .i64 p.at_] := by unfold ptD ptC; rw [hop]
 rw [hBC]
 obtain ⟨hk, hb1, hb2⟩ := new2 w0 (askD S Fs g u d) #[.int .u8 1, .int .i64 p.dst.loc, .slice pd.ta p.dst.path.length pd.tc, .int .u8 p.a.k, .int .i64 p.a.n, .int .i64 p.a.p.loc, .slice pd.aa p.a.p.path.length pd.ac, .int .u8 p.b.k, .int .i64 p.b.n, .int .i64 p.b.p.loc, .slice pd.ba p.b.p.path.length pd.bc, .slice pd.ga p.args.length pd.gc, .string p.sign, .int .i64 p.src.loc, .slice pd.fa p.src.path.length pd.fc, .bool p.mut_, .int .i64 p.fn, .int .i64 p.st, .int .i64 p.next, .int .i64 p.els, .int .i64 p.at_] 175 129
 obtain ⟨W, hW⟩ : ∃ W, W = ((w0.alloc (.cells (askD S Fs g u d) 175)).alloc (.cells #[.int .u8 1, .int .i64 p.dst.loc, .slice pd.ta p.dst.path.length pd.tc, .int .u8 p.a.k, .int .i64 p.a.n, .int .i64 p.a.p.loc, .slice pd.aa p.a.p.path.length pd.ac, .int .u8 p.b.k, .int .i64 p.b.n, .int .i64 p.b.p.loc, .slice pd.ba p.b.p.path.length pd.bc, .slice pd.ga p.args.length pd.gc, .string p.sign, .int .i64 p.src.loc, .slice pd.fa p.src.path.length pd.fc, .bool p.mut_, .int .i64 p.fn, .int .i64 p.st, .int .i64 p.next, .int .i64 p.els, .int .i64 p.at_] 129)) := ⟨_, rfl⟩
 have hsz : W.heap.size = w0.heap.size + 2 := by rw [hW]; simp
 rw [← hW] at hk hb1 hb2
 have HW := Lib.hid hW
 obtain ⟨W2, hW2⟩ : ∃ W2, W2 = W.alloc (.cells #[.int .i64 (g.points.length : Nat)] 3) := ⟨_, rfl⟩
 have hb3 : W2.heap[w0.heap.size + 2]? = some (.cells #[.int .i64 (g.points.length : Nat)] 3 (0, 0)) := by rw [hW2, ← hsz]; exact alloc_new _ _
 have hk2 : KB F0 W W2 := by rw [hW2]; exact (KB.refl _ _).alloc _
 have HB := Lib.hid (And.intro (hk.trans hk2) (And.intro (hk2.heap (fun x => x) hb1) (And.intro (hk2.heap (fun x => x) hb2) hb3)))
 have HW2 := Lib.hid hW2
 have a9 : W.cell? ⟨w0.heap.size, 9, none⟩ = some (.slice d.pa g.points.length d.pc) := blk_cell hb1 9
 clear hk hb1 hb2 hb3 hW hW2 hk2 hpre hrr H hx hy ha hb
 clear hop hBC
 go_enter Tryz.func105, Tryz.ntmps105
 go_upto_region 1 with fail
 rw [← HW.out]
 go_upto_region 2 with fail
 rw [← HW2.out]
 clear a9
 have c0 : W2.cell? ⟨w0.heap.size + 1, 0, none⟩ = some (.int .u8 1) := blk_cell (HB.out.2.2.1) 0
 have c18 : W2.cell? ⟨w0.heap.size + 1, 18, none⟩ = some (.int .i64 p.next) := blk_cell (HB.out.2.2.1) 18
 have c20 : W2.cell? ⟨w0.heap.size + 1, 20, none⟩ = some (.int .i64 p.at_) := blk_cell (HB.out.2.2.1) 20
 have hN := HB.out.2.2.2
 have n0 : W2.cell? ⟨w0.heap.size + 2, 0, none⟩ = some (.int .i64 (g.points.length : Nat)) := blk_cell hN 0
 have d0 : decide (p.at_ < 0) = false := decide_eq_false (by omega)
 clear hN
 go_wp2_with fail
 refine (grPoint1_any p.next (g.points.length : Nat) (w0.heap.size + 2) W2 n0).mono ?_
 rintro e w' ⟨rfl, rfl⟩
 obtain ⟨W2, rfl⟩ : ∃ W2, W2 = w' := ⟨_, rfl⟩
 rw [decide_eq_true hnx.1, decide_eq_true hnx.2]
 go_upto_region 5 with fail
 clear c0 c18 c20
 clear n0 d0
 have a0 : W2.cell? ⟨w0.heap.size, 0, none⟩ = some (.slice u.sa S.length u.sc) := blk_cell (HB.out.2.1) 0
 have a1 : W2.cell? ⟨w0.heap.size, 1, none⟩ = some (.slice u.fa Fs.length u.fc) := blk_cell (HB.out.2.1) 1
 have a2 : W2.cell? ⟨w0.heap.size, 2, none⟩ = some (.int .i64 u.mn) := blk_cell (HB.out.2.1) 2
 have a3 : W2.cell? ⟨w0.heap.size, 3, none⟩ = some (.string g.name) := blk_cell (HB.out.2.1) 3
 have a4 : W2.cell? ⟨w0.heap.size, 4, none⟩ = some (.int .i64 g.lives) := blk_cell (HB.out.2.1) 4
 have a5 : W2.cell? ⟨w0.heap.size, 5, none⟩ = some (.slice d.oa g.outs.length d.oc) := blk_cell (HB.out.2.1) 5
 have a6 : W2.cell? ⟨w0.heap.size, 6, none⟩ = some (.int .i64 g.params) := blk_cell (HB.out.2.1) 6
 have a7 : W2.cell? ⟨w0.heap.size, 7, none⟩ = some (.slice d.la g.locals.length d.lc) := blk_cell (HB.out.2.1) 7
 have a8 : W2.cell? ⟨w0.heap.size, 8, none⟩ = some (.slice d.na g.names.length d.nc) := blk_cell (HB.out.2.1) 8
 have a9 : W2.cell? ⟨w0.heap.size, 9, none⟩ = some (.slice d.pa g.points.length d.pc) := blk_cell (HB.out.2.1) 9
 have c1 : W2.cell? ⟨w0.heap.size + 1, 1, none⟩ = some (.int .i64 p.dst.loc) := blk_cell (HB.out.2.2.1) 1
 have c2 : W2.cell? ⟨w0.heap.size + 1, 2, none⟩ = some (.slice pd.ta p.dst.path.length pd.tc) := blk_cell (HB.out.2.2.1) 2
 have c13 : W2.cell? ⟨w0.heap.size + 1, 13, none⟩ = some (.int .i64 p.src.loc) := blk_cell (HB.out.2.2.1) 13
 have c14 : W2.cell? ⟨w0.heap.size + 1, 14, none⟩ = some (.slice pd.fa p.src.path.length pd.fc) := blk_cell (HB.out.2.2.1) 14
 have LP := Lib.hid (HH.out.dst HSP.out.1)
 have LQ := Lib.hid (HH.out.src HSP.out.2.1)
 refine St.wp_region_rn 10 GK (St.kindS [(3, SpotV (dt, dm, dok), SpotW S wb (dt, dm, dok)), (7, SpotV (st, sm, sok), SpotW S wb (st, sm, sok)), (8, St.IsPtr, St.NewAt W2.heap.size #[.int .u8 0, .bool false, .int .i64 0, .int .i64 0, .slice none 0 0, .int .i64 0, .bool false] 201), (9, St.IsPtr, St.NewAt W2.heap.size #[.int .u8 0, .bool false, .int .i64 0, .int .i64 0, .slice none 0 0, .int .i64 0, .bool false] 201)]) (by kernel_rfl) (by kernel_rfl) (kb_trans _) (kb_refl _) (kb_start _ _) (fun _ _ h => h.size) (St.kindS_mono _ (by intro p hp; simp only [List.mem_cons, List.not_mem_nil, or_false] at hp; rcases hp with rfl | rfl | rfl | rfl <;> first | exact spotW_kb | exact St.newAt_kb)) ?_
 simp only [pT, pU, pV, pW]
 refine St.rn_det (by kernel_rfl) rfl (by intro w hG hH; have hc0 := kc hG (a0); have hc1 := kc hG (a1); have hc2 := kc hG (a2); have hc3 := kc hG (a3); have hc4 := kc hG (a4); have hc5 := kc hG (a5); have hc6 := kc hG (a6); have hc7 := kc hG (a7); have hc8 := kc hG (a8); have hc9 := kc hG (a9); go_simp; first | done | with_reducible rfl) ?_
 simp only [Act.put, pA, pZ, pS]
 refine St.rn_det (by kernel_rfl) rfl (by intro w hG hH; go_simp; first | done | with_reducible rfl) ?_
 simp only [Act.put, pA, pZ, pS]
 refine St.rn_det (by kernel_rfl) rfl (by intro w hG hH; have hc0 := kc hG (c1); have hc1 := kc hG (c2); go_simp; first | done | with_reducible rfl) ?_
 simp only [Act.put, pA, pZ, pS]
 refine St.rn_plain (by kernel_rfl) rfl (spotV_ex _) (fun _ _ h => h.size) (by
  intro w hG hH
  refine St.opVal_call (by go_simp; first | done | exact ⟨⟨rfl, rfl⟩, rfl⟩) ?_
  exact (LP.out _ (HB.out.1.trans hG)).mono fun e w' h => h) ?_
 rintro v i1 ⟨dta, dtc, rfl⟩
 simp only [Act.put, pA, pZ, pS]
 refine St.rn_det (by kernel_rfl) rfl (by intro w hG hH; have hc0 := kc hG (a0); have hc1 := kc hG (a1); have hc2 := kc hG (a2); have hc3 := kc hG (a3); have hc4 := kc hG (a4); have hc5 := kc hG (a5); have hc6 := kc hG (a6); have hc7 := kc hG (a7); have hc8 := kc hG (a8); have hc9 := kc hG (a9); go_simp; first | done | with_reducible rfl) ?_
 simp only [Act.put, pA, pZ, pS]
 refine St.rn_det (by kernel_rfl) rfl (by intro w hG hH; go_simp; first | done | with_reducible rfl) ?_
 simp only [Act.put, pA, pZ, pS]
 refine St.rn_det (by kernel_rfl) rfl (by intro w hG hH; have hc0 := kc hG (c13); have hc1 := kc hG (c14); go_simp; first | done | with_reducible rfl) ?_
 simp only [Act.put, pA, pZ, pS]
 refine St.rn_plain (by kernel_rfl) rfl (spotV_ex _) (fun _ _ h => h.size) (by
  intro w hG hH
  refine St.opVal_call (by go_simp; first | done | exact ⟨⟨rfl, rfl⟩, rfl⟩) ?_
  exact (LQ.out _ (HB.out.1.trans hG)).mono fun e w' h => h) ?_
 rintro v i2 ⟨sta, stc, rfl⟩
 simp only [Act.put, pA, pZ, pS]
 refine St.rn_rel (by kernel_rfl) rfl St.isPtr_ex (fun w hG hH => St.opVal_new hG (by go_simp; first | done | rfl)) ?_
 rintro v j7 ⟨n7, rfl⟩ - hd7
 simp only [Act.put, pA, pZ, pS]
 refine St.rn_rel (by kernel_rfl) rfl St.isPtr_ex (fun w hG hH => St.opVal_new hG (by go_simp; first | done | rfl)) ?_
 rintro v j8 ⟨n8, rfl⟩ - hd8
 simp only [Act.put, pA, pZ, pS]
 refine St.rn_nil (fun w hG hH => ?_)
 have f8 := hH _ List.mem_cons_self
 have f7 := hH _ (List.mem_cons_of_mem _ List.mem_cons_self)
 have f2 := hH _ (List.mem_cons_of_mem _ (List.mem_cons_of_mem _ List.mem_cons_self))
 have f1 := hH _ (List.mem_cons_of_mem _ (List.mem_cons_of_mem _ (List.mem_cons_of_mem _ List.mem_cons_self)))
 simp only at f8 f7 f2 f1
 have hne : n7 ≠ n8 := St.newAt_ne f7 f8 (hd8 _ List.mem_cons_self)
 have hne2 := hne.symm
 have g7 := f7 n7 rfl
 have g8 := f8 n8 rfl
 have HTI := Lib.hid (And.intro (f1 dta dtc rfl) (f2 sta stc rfl))
 obtain ⟨w3, rfl⟩ : ∃ w3, w3 = w := ⟨_, rfl⟩
 have u0 : w3.cell? ⟨n7, 0, none⟩ = some (.int .u8 0) := blk_cell (g7.2.2) 0
 have u1 : w3.cell? ⟨n7, 1, none⟩ = some (.bool false) := blk_cell (g7.2.2) 1
 have u2 : w3.cell? ⟨n7, 2, none⟩ = some (.int .i64 0) := blk_cell (g7.2.2) 2
 have u3 : w3.cell? ⟨n7, 3, none⟩ = some (.int .i64 0) := blk_cell (g7.2.2) 3
 have u4 : w3.cell? ⟨n7, 4, none⟩ = some (.slice none 0 0) := blk_cell (g7.2.2) 4
 have u5 : w3.cell? ⟨n7, 5, none⟩ = some (.int .i64 0) := blk_cell (g7.2.2) 5
 have u6 : w3.cell? ⟨n7, 6, none⟩ = some (.bool false) := blk_cell (g7.2.2) 6
 have v0 : w3.cell? ⟨n8, 0, none⟩ = some (.int .u8 0) := blk_cell (g8.2.2) 0
 have v1 : w3.cell? ⟨n8, 1, none⟩ = some (.bool false) := blk_cell (g8.2.2) 1
 have v2 : w3.cell? ⟨n8, 2, none⟩ = some (.int .i64 0) := blk_cell (g8.2.2) 2
 have v3 : w3.cell? ⟨n8, 3, none⟩ = some (.int .i64 0) := blk_cell (g8.2.2) 3
 have v4 : w3.cell? ⟨n8, 4, none⟩ = some (.slice none 0 0) := blk_cell (g8.2.2) 4
 have v5 : w3.cell? ⟨n8, 5, none⟩ = some (.int .i64 0) := blk_cell (g8.2.2) 5
 have v6 : w3.cell? ⟨n8, 6, none⟩ = some (.bool false) := blk_cell (g8.2.2) 6
 have r0 := blk_frozen g7.2.2 0
 have q0 := blk_frozen g8.2.2 0
 have r1 := blk_frozen g7.2.2 1
 have q1 := blk_frozen g8.2.2 1
 have r2 := blk_frozen g7.2.2 2
 have q2 := blk_frozen g8.2.2 2
 have r3 := blk_frozen g7.2.2 3
 have q3 := blk_frozen g8.2.2 3
 have r4 := blk_frozen g7.2.2 4
 have q4 := blk_frozen g8.2.2 4
 have r5 := blk_frozen g7.2.2 5
 have q5 := blk_frozen g8.2.2 5
 have r6 := blk_frozen g7.2.2 6
 have q6 := blk_frozen g8.2.2 6
 have HG3 := Lib.hid (And.intro hG (And.intro g7 (And.intro g8 hne)))
 clear a0 a1 a2 a3 a4 a5 a6 a7 a8 a9
 clear c1 c2 c13 c14
 clear f8 f7 f2 f1 hH hG hd7 hd8 g7 g8 LP LQ
 unfold spV
 go_upto_region 6 with fail
 obtain ⟨W3, hW3⟩ : ∃ W3, W3 = ((((((((((((((w3.setCell ⟨n7, 0, none⟩ (.int .u8 dt.k)).setCell ⟨n7, 1, none⟩ (.bool dt.m)).setCell ⟨n7, 2, none⟩ (.int .i64 dt.r)).setCell ⟨n7, 3, none⟩ (.int .i64 dt.s)).setCell ⟨n7, 4, none⟩ (.slice dta dt.of.length dtc)).setCell ⟨n7, 5, none⟩ (.int .i64 dm)).setCell ⟨n7, 6, none⟩ (.bool dok)).setCell ⟨n8, 0, none⟩ (.int .u8 st.k)).setCell ⟨n8, 1, none⟩ (.bool st.m)).setCell ⟨n8, 2, none⟩ (.int .i64 st.r)).setCell ⟨n8, 3, none⟩ (.int .i64 st.s)).setCell ⟨n8, 4, none⟩ (.slice sta st.of.length stc)).setCell ⟨n8, 5, none⟩ (.int .i64 sm)).setCell ⟨n8, 6, none⟩ (.bool sok)) := ⟨_, rfl⟩
 rw [← hW3]
 have hW3' : W3 = set7 (set7 w3 n7 (.int .u8 dt.k) (.bool dt.m) (.int .i64 dt.r) (.int .i64 dt.s) (.slice dta dt.of.length dtc) (.int .i64 dm) (.bool dok)) n8 (.int .u8 st.k) (.bool st.m) (.int .i64 st.r) (.int .i64 st.s) (.slice sta st.of.length stc) (.int .i64 sm) (.bool sok) := by rw [hW3]; rfl
 have e7 : W3.heap[n7]? = some (.cells (spC dt dta dtc dm dok) 201 (0, 0)) := by rw [hW3']; exact (set7_kb _ n8 _ _ _ _ _ _ _).heap HG3.out.2.2.2 (set7_blk HG3.out.2.1.2.2 _ _ _ _ _ _ _)
 have e8 : W3.heap[n8]? = some (.cells (spC st sta stc sm sok) 201 (0, 0)) := by rw [hW3']; exact set7_blk ((set7_kb w3 n7 _ _ _ _ _ _ _).heap (fun e => HG3.out.2.2.2 e.symm) HG3.out.2.2.1.2.2) _ _ _ _ _ _ _
 have k3 : KB F0 W2 W3 := by rw [hW3']; exact set7_new (set7_new HG3.out.1 HG3.out.2.1.1 _ _ _ _ _ _ _) HG3.out.2.2.1.1 _ _ _ _ _ _ _
 have H3 := Lib.hid (And.intro (HB.out.1.trans k3) (And.intro (k3.heap (fun x => x) HB.out.2.1) (And.intro (k3.heap (fun x => x) HB.out.2.2.1) (And.intro (k3.heap (fun x => x) HB.out.2.2.2) (And.intro e7 e8)))))
 have x5 : W3.cell? ⟨n7, 5, none⟩ = some (.int .i64 dm) := blk_cell e7 5
 have x6 : W3.cell? ⟨n7, 6, none⟩ = some (.bool dok) := blk_cell e7 6
 clear hW3 hW3' e7 e8 k3 hne hne2 HG3 HB u0 u1 u2 u3 u4 u5 u6 v0 v1 v2 v3 v4 v5 v6 r0 r1 r2 r3 r4 r5 r6 q0 q1 q2 q3 q4 q5 q6
 rcases laid_cases dok dm with ⟨rfl, dl⟩ | ⟨rfl, dl⟩ | rfl
 all_goals
  go_upto_region 7 with fail
  clear x5 x6
  have a0 : W3.cell? ⟨w0.heap.size, 0, none⟩ = some (.slice u.sa S.length u.sc) := blk_cell (H3.out.2.1) 0
  have a1 : W3.cell? ⟨w0.heap.size, 1, none⟩ = some (.slice u.fa Fs.length u.fc) := blk_cell (H3.out.2.1) 1
  have a2 : W3.cell? ⟨w0.heap.size, 2, none⟩ = some (.int .i64 u.mn) := blk_cell (H3.out.2.1) 2
  have a3 : W3.cell? ⟨w0.heap.size, 3, none⟩ = some (.string g.name) := blk_cell (H3.out.2.1) 3
  have a4 : W3.cell? ⟨w0.heap.size, 4, none⟩ = some (.int .i64 g.lives) := blk_cell (H3.out.2.1) 4
  have a5 : W3.cell? ⟨w0.heap.size, 5, none⟩ = some (.slice d.oa g.outs.length d.oc) := blk_cell (H3.out.2.1) 5
  have a6 : W3.cell? ⟨w0.heap.size, 6, none⟩ = some (.int .i64 g.params) := blk_cell (H3.out.2.1) 6
  have a7 : W3.cell? ⟨w0.heap.size, 7, none⟩ = some (.slice d.la g.locals.length d.lc) := blk_cell (H3.out.2.1) 7
  have a8 : W3.cell? ⟨w0.heap.size, 8, none⟩ = some (.slice d.na g.names.length d.nc) := blk_cell (H3.out.2.1) 8
  have a9 : W3.cell? ⟨w0.heap.size, 9, none⟩ = some (.slice d.pa g.points.length d.pc) := blk_cell (H3.out.2.1) 9
  have c3 : W3.cell? ⟨w0.heap.size + 1, 3, none⟩ = some (.int .u8 p.a.k) := blk_cell (H3.out.2.2.1) 3
  have c4 : W3.cell? ⟨w0.heap.size + 1, 4, none⟩ = some (.int .i64 p.a.n) := blk_cell (H3.out.2.2.1) 4
  have c5 : W3.cell? ⟨w0.heap.size + 1, 5, none⟩ = some (.int .i64 p.a.p.loc) := blk_cell (H3.out.2.2.1) 5
  have c6 : W3.cell? ⟨w0.heap.size + 1, 6, none⟩ = some (.slice pd.aa p.a.p.path.length pd.ac) := blk_cell (H3.out.2.2.1) 6
  go_wp2_with fail
  refine (HH.out.opA HSP.out.2.2.1 W3 H3.out.1).mono ?_
  rintro e w4 ⟨ata, atc, rfl, hta, k4⟩
  have H4 := Lib.hid (And.intro k4 hta)
  clear k4 hta
  clear a0 a1 a2 a3 a4 a5 a6 a7 a8 a9
  clear c3 c4 c5 c6
  go_upto_region 8 with fail
  obtain ⟨W4, hW4⟩ : ∃ W4, W4 = w4.alloc (.cells #[.int .u8 at_.k, .bool at_.m, .int .i64 at_.r, .int .i64 at_.s, .slice ata at_.of.length atc] 26) := ⟨_, rfl⟩
  obtain ⟨k4, b4⟩ := boxTy w4 at_ ata atc
  rw [← hW4] at k4 b4 ⊢
  have K4 := Lib.hid (And.intro (H4.out.1.trans k4) b4)
  clear hW4 k4 b4
  have a0 : W4.cell? ⟨w0.heap.size, 0, none⟩ = some (.slice u.sa S.length u.sc) := blk_cell (K4.out.1.heap (fun x => x) H3.out.2.1) 0
  have a1 : W4.cell? ⟨w0.heap.size, 1, none⟩ = some (.slice u.fa Fs.length u.fc) := blk_cell (K4.out.1.heap (fun x => x) H3.out.2.1) 1
  have a2 : W4.cell? ⟨w0.heap.size, 2, none⟩ = some (.int .i64 u.mn) := blk_cell (K4.out.1.heap (fun x => x) H3.out.2.1) 2
  have a3 : W4.cell? ⟨w0.heap.size, 3, none⟩ = some (.string g.name) := blk_cell (K4.out.1.heap (fun x => x) H3.out.2.1) 3
  have a4 : W4.cell? ⟨w0.heap.size, 4, none⟩ = some (.int .i64 g.lives) := blk_cell (K4.out.1.heap (fun x => x) H3.out.2.1) 4
  have a5 : W4.cell? ⟨w0.heap.size, 5, none⟩ = some (.slice d.oa g.outs.length d.oc) := blk_cell (K4.out.1.heap (fun x => x) H3.out.2.1) 5
  have a6 : W4.cell? ⟨w0.heap.size, 6, none⟩ = some (.int .i64 g.params) := blk_cell (K4.out.1.heap (fun x => x) H3.out.2.1) 6
  have a7 : W4.cell? ⟨w0.heap.size, 7, none⟩ = some (.slice d.la g.locals.length d.lc) := blk_cell (K4.out.1.heap (fun x => x) H3.out.2.1) 7
  have a8 : W4.cell? ⟨w0.heap.size, 8, none⟩ = some (.slice d.na g.names.length d.nc) := blk_cell (K4.out.1.heap (fun x => x) H3.out.2.1) 8
  have a9 : W4.cell? ⟨w0.heap.size, 9, none⟩ = some (.slice d.pa g.points.length d.pc) := blk_cell (K4.out.1.heap (fun x => x) H3.out.2.1) 9
  have c7 : W4.cell? ⟨w0.heap.size + 1, 7, none⟩ = some (.int .u8 p.b.k) := blk_cell (K4.out.1.heap (fun x => x) H3.out.2.2.1) 7
  have c8 : W4.cell? ⟨w0.heap.size + 1, 8, none⟩ = some (.int .i64 p.b.n) := blk_cell (K4.out.1.heap (fun x => x) H3.out.2.2.1) 8
  have c9 : W4.cell? ⟨w0.heap.size + 1, 9, none⟩ = some (.int .i64 p.b.p.loc) := blk_cell (K4.out.1.heap (fun x => x) H3.out.2.2.1) 9
  have c10 : W4.cell? ⟨w0.heap.size + 1, 10, none⟩ = some (.slice pd.ba p.b.p.path.length pd.bc) := blk_cell (K4.out.1.heap (fun x => x) H3.out.2.2.1) 10
  go_wp2_with fail
  refine (HH.out.opB HSP.out.2.2.2 W4 (H3.out.1.trans K4.out.1)).mono ?_
  rintro e w5 ⟨bta, btc, rfl, htb, k5⟩
  have H5 := Lib.hid (And.intro k5 htb)
  clear k5 htb
  clear a0 a1 a2 a3 a4 a5 a6 a7 a8 a9
  clear c7 c8 c9 c10
  go_upto_region 9 with fail
  obtain ⟨W5, hW5⟩ : ∃ W5, W5 = w5.alloc (.cells #[.int .u8 bt.k, .bool bt.m, .int .i64 bt.r, .int .i64 bt.s, .slice bta bt.of.length btc] 26) := ⟨_, rfl⟩
  obtain ⟨k5, b5⟩ := boxTy w5 bt bta btc
  rw [← hW5] at k5 b5 ⊢
  have hk5 : KB F0 W3 W5 := K4.out.1.trans (H5.out.1.trans k5)
  have HS0 : Hid (PtSt W5 w0.heap.size n7 n8 w4.heap.size w5.heap.size (askD S Fs g u d) #[.int .u8 1, .int .i64 p.dst.loc, .slice pd.ta p.dst.path.length pd.tc, .int .u8 p.a.k, .int .i64 p.a.n, .int .i64 p.a.p.loc, .slice pd.aa p.a.p.path.length pd.ac, .int .u8 p.b.k, .int .i64 p.b.n, .int .i64 p.b.p.loc, .slice pd.ba p.b.p.path.length pd.bc, .slice pd.ga p.args.length pd.gc, .string p.sign, .int .i64 p.src.loc, .slice pd.fa p.src.path.length pd.fc, .bool p.mut_, .int .i64 p.fn, .int .i64 p.st, .int .i64 p.next, .int .i64 p.els, .int .i64 p.at_] (g.points.length : Nat) (spC dt dta dtc dm _) (spC st sta stc sm sok) (tyC at_ ata atc) (tyC bt bta btc)) :=
   Lib.hid ⟨hk5.heap (fun x => x) H3.out.2.1, hk5.heap (fun x => x) H3.out.2.2.1, hk5.heap (fun x => x) H3.out.2.2.2.1, hk5.heap (fun x => x) H3.out.2.2.2.2.1, hk5.heap (fun x => x) H3.out.2.2.2.2.2, (H5.out.1.trans k5).heap (fun x => x) K4.out.2, b5⟩
  have HK0 := Lib.hid (H3.out.1.trans hk5)
  have HTA := Lib.hid (And.intro H4.out.2 H5.out.2)
  clear hW5 k5 b5 hk5 H3 H4 H5 K4
  obtain ⟨n10, hn10⟩ : ∃ n, n = w4.heap.size := ⟨_, rfl⟩
  obtain ⟨n12, hn12⟩ : ∃ n, n = w5.heap.size := ⟨_, rfl⟩
  rw [← hn10, ← hn12] at HS0 ⊢
  clear hn10 hn12
 ·skip
  have c0 : W5.cell? ⟨w0.heap.size + 1, 0, none⟩ = some (.int .u8 1) := blk_cell HS0.out.B 0
  have RS := Lib.hid (grRestToA_any p pd.ta pd.tc pd.aa pd.ac pd.ba pd.bc pd.ga pd.gc pd.fa pd.fc W5)
  simp only [ptC, HR.out.2] at RS
  obtain ⟨r1, hr1⟩ : ∃ b, b = (restL p [true, true, false, false, false, false, false, false, false, false]).all id := ⟨_, rfl⟩
  rw [← hr1] at RS
  have Hr1 := Lib.hid hr1
  clear hr1
  go_wp2_with ((with_reducible refine atLoadPt (.tmp 3) ?_); refine loadPt (o := ⟨_, Op.load 129 (.tmp 3), _, _, _, none⟩) rfl (.tmp 3) rfl (w0.heap.size + 1) rfl _ rfl HS0.out.B ?_)
  refine RS.out.mono ?_
  rintro e V1 ⟨rfl, k⟩
  clear RS
  clear c0
  have HS1 := Lib.hid (HS0.out.kbF k)
  have HK1 := Lib.hid (HK0.out.trans k)
  clear k
  cases r1 with
  | false =>
   go_wp2_with fail
   go_ret
   exact ⟨ret_eq (by rw [HR.out.1]; simp [armUse, laidB, of_decide_eq_true dl, restB, ← Hr1.out]), HK1.out⟩
  | true =>
   cases aok with
   | false =>
    go_wp2_with fail
    go_ret
    exact ⟨ret_eq (by rw [HR.out.1]; simp [armUse, laidB, of_decide_eq_true dl, restB, ← Hr1.out]), HK1.out⟩
   | true =>
    have m0 : V1.cell? ⟨n10, 0, none⟩ = some (.int .u8 at_.k) := blk_cell HS1.out.C10 0
    have m1 : V1.cell? ⟨n10, 1, none⟩ = some (.bool at_.m) := blk_cell HS1.out.C10 1
    have m2 : V1.cell? ⟨n10, 2, none⟩ = some (.int .i64 at_.r) := blk_cell HS1.out.C10 2
    have m3 : V1.cell? ⟨n10, 3, none⟩ = some (.int .i64 at_.s) := blk_cell HS1.out.C10 3
    have m4 : V1.cell? ⟨n10, 4, none⟩ = some (.slice ata at_.of.length atc) := blk_cell HS1.out.C10 4
    have x0 : V1.cell? ⟨n7, 0, none⟩ = some (.int .u8 dt.k) := blk_cell HS1.out.C7 0
    have x1 : V1.cell? ⟨n7, 1, none⟩ = some (.bool dt.m) := blk_cell HS1.out.C7 1
    have x2 : V1.cell? ⟨n7, 2, none⟩ = some (.int .i64 dt.r) := blk_cell HS1.out.C7 2
    have x3 : V1.cell? ⟨n7, 3, none⟩ = some (.int .i64 dt.s) := blk_cell HS1.out.C7 3
    have x4 : V1.cell? ⟨n7, 4, none⟩ = some (.slice dta dt.of.length dtc) := blk_cell HS1.out.C7 4
    have AL := Lib.hid (tyAlike_any at_ dt ata dta atc dtc V1 (OnWay.in_at HH.out.hM.1 (HH.out.hwb.trans HK1.out) HTA.out.1) (OnWay.in_at HH.out.hM.1 (HH.out.hwb.trans HK1.out) HTI.out.1.1))
    unfold tyV at AL
    obtain ⟨al, hal⟩ : ∃ b, b = alkB at_ dt := ⟨_, rfl⟩
    rw [← hal] at AL
    have Hal := Lib.hid hal
    clear hal
    go_wp2_with fail
    refine AL.out.mono ?_
    rintro e V2 ⟨rfl, k⟩
    clear AL
    clear m0 m1 m2 m3 m4 x0 x1 x2 x3 x4
    have HS2 := Lib.hid (HS1.out.kbF k)
    have HK2 := Lib.hid (HK1.out.trans k)
    clear k
    cases al with
    | false =>
     go_wp2_with fail
     go_ret
     exact ⟨ret_eq (by rw [HR.out.1]; simp [armUse, laidB, of_decide_eq_true dl, restB, ← Hr1.out, ← Hal.out]), HK2.out⟩
    | true =>
     go_wp2_with fail
     go_ret
     exact ⟨ret_eq (by rw [HR.out.1]; simp [armUse, laidB, of_decide_eq_true dl, restB, ← Hr1.out, ← Hal.out]), HK2.out⟩
 ·skip
  have c0 : W5.cell? ⟨w0.heap.size + 1, 0, none⟩ = some (.int .u8 1) := blk_cell HS0.out.B 0
  have RS := Lib.hid (grRestToA_any p pd.ta pd.tc pd.aa pd.ac pd.ba pd.bc pd.ga pd.gc pd.fa pd.fc W5)
  simp only [ptC, HR.out.2] at RS
  obtain ⟨r1, hr1⟩ : ∃ b, b = (restL p [true, true, false, false, false, false, false, false, false, false]).all id := ⟨_, rfl⟩
  rw [← hr1] at RS
  have Hr1 := Lib.hid hr1
  clear hr1
  go_wp2_with ((with_reducible refine atLoadPt (.tmp 3) ?_); refine loadPt (o := ⟨_, Op.load 129 (.tmp 3), _, _, _, none⟩) rfl (.tmp 3) rfl (w0.heap.size + 1) rfl _ rfl HS0.out.B ?_)
  refine RS.out.mono ?_
  rintro e V1 ⟨rfl, k⟩
  clear RS
  clear c0
  have HS1 := Lib.hid (HS0.out.kbF k)
  have HK1 := Lib.hid (HK0.out.trans k)
  clear k
  cases r1 with
  | false =>
   go_wp2_with fail
   go_ret
   exact ⟨ret_eq (by rw [HR.out.1]; simp [armUse, laidB, dl, restB, ← Hr1.out]), HK1.out⟩
  | true =>
   go_wp2_with fail
   go_ret
   exact ⟨ret_eq (by rw [HR.out.1]; simp [armUse, laidB, dl, restB, ← Hr1.out]), HK1.out⟩
 ·skip
  have c0 : W5.cell? ⟨w0.heap.size + 1, 0, none⟩ = some (.int .u8 1) := blk_cell HS0.out.B 0
  have RS := Lib.hid (grRestToA_any p pd.ta pd.tc pd.aa pd.ac pd.ba pd.bc pd.ga pd.gc pd.fa pd.fc W5)
  simp only [ptC, HR.out.2] at RS
  obtain ⟨r1, hr1⟩ : ∃ b, b = (restL p [true, true, false, false, false, false, false, false, false, false]).all id := ⟨_, rfl⟩
  rw [← hr1] at RS
  have Hr1 := Lib.hid hr1
  clear hr1
  go_wp2_with ((with_reducible refine atLoadPt (.tmp 3) ?_); refine loadPt (o := ⟨_, Op.load 129 (.tmp 3), _, _, _, none⟩) rfl (.tmp 3) rfl (w0.heap.size + 1) rfl _ rfl HS0.out.B ?_)
  refine RS.out.mono ?_
  rintro e V1 ⟨rfl, k⟩
  clear RS
  clear c0
  have HS1 := Lib.hid (HS0.out.kbF k)
  have HK1 := Lib.hid (HK0.out.trans k)
  clear k
  cases r1 with
  | false =>
   go_wp2_with fail
   go_ret
   exact ⟨ret_eq (by rw [HR.out.1]; simp [armUse, laidB, restB, ← Hr1.out]), HK1.out⟩
  | true =>
   go_wp2_with fail
   go_ret
   exact ⟨ret_eq (by rw [HR.out.1]; simp [armUse, laidB, restB, ← Hr1.out]), HK1.out⟩
end Go.Proofs.YtaeppaaolkcbbaaGreatDoor

/- graph.rest: all other fields are zero (printed by gen_gre.py). -/
import Derived.Test.YtaeppaaolkcbbaaGreatDoorMg25
import Derived.Test.YtaeppaaolkcbbaaGreatDoorMg02
namespace Go.Proofs.YtaeppaaolkcbbaaGreatDoor
open Go.RowKit

structure Pt where
 op : Int
 dst : Pl
 a : Opd
 b : Opd
 args : List Opd
 sign : ByteArray
 src : Pl
 mut_ : Bool
 fn : Int
 st : Int
 next : Int
 els : Int
 at_ : Int
abbrev ptC (p : Pt) (ta : Option Addr) (tc : Nat) (aa : Option Addr) (ac : Nat) (ba : Option Addr) (bc : Nat) (ga : Option Addr) (gc : Nat) (fa : Option Addr) (fc : Nat) : Array Value :=
 #[.int .u8 p.op, .int .i64 p.dst.loc, .slice ta p.dst.path.length tc, .int .u8 p.a.k, .int .i64 p.a.n, .int .i64 p.a.p.loc, .slice aa p.a.p.path.length ac, .int .u8 p.b.k, .int .i64 p.b.n, .int .i64 p.b.p.loc, .slice ba p.b.p.path.length bc,
  .slice ga p.args.length gc, .string p.sign, .int .i64 p.src.loc, .slice fa p.src.path.length fc, .bool p.mut_, .int .i64 p.fn, .int .i64 p.st, .int .i64 p.next, .int .i64 p.els, .int .i64 p.at_]
def RowN (B k : Nat) (v : Value) : Prop := ∃ nb, v = .slice (some ⟨nb, 0, none⟩) k k ∧ B ≤ nb
def RowNAt (B k : Nat) (cs : Array Value) (t : TypeId) (v : Value) (w : World) : Prop := ∃ nb, v = .slice (some ⟨nb, 0, none⟩) k k ∧ B ≤ nb ∧ w.heap[nb]? = some (.cells cs t (0, 0))
theorem rowN_ex (B k : Nat) : ∃ v, RowN B k v := ⟨_, B, rfl, Nat.le_refl _⟩
theorem lasts_rowN (B k : Nat) (cs : Array Value) (t : TypeId) : Lasts (RowNAt B k cs t) := fun _ _ _ hG ⟨nb, h1, h2, h3⟩ => ⟨nb, h1, h2, hG.heap (fun x => x) h3⟩
theorem opVal_rowN {P : Program} {o : Oper} {a : Act} {w w0 : World} {k : Nat} {cs : Array Value} {t : TypeId} (hG : GK w0 w)
  (hr : (execOp a.eval o).run P w = .ok (.value (.slice (some ⟨w.heap.size, 0, none⟩) k k)) (w.alloc (.cells cs t))) :
  OpVal P o a w (fun v w' => RowN w0.heap.size k v ∧ GK w w' ∧ RowNAt w0.heap.size k cs t v w') :=
 opVal_value hr ⟨⟨_, rfl, hG.size⟩, (KB.refl _ w).alloc _, ⟨_, rfl, hG.size, alloc_new w _⟩⟩
theorem sign_nil (s : ByteArray) : s.toList.isEmpty = decide (s.size = 0) := by
 rw [ByteArray.toList_eq, Bool.eq_iff_iff, List.isEmpty_iff, decide_eq_true_iff]
 exact ⟨fun h => by show s.data.size = 0; rw [← Array.length_toList, h]; rfl, fun h => List.eq_nil_of_length_eq_zero (by rw [Array.length_toList]; exact h)⟩
def restL (p : Pt) (h : List Bool) : List Bool := [h.getD 0 false || zeroB p.dst, h.getD 1 false || noneB p.a, h.getD 2 false || noneB p.b, h.getD 3 false || decide (p.args.length = 0), h.getD 4 false || decide (p.sign.size = 0), h.getD 5 false || zeroB p.src, h.getD 6 false || !p.mut_, h.getD 7 false || decide (p.fn = 0), h.getD 8 false || decide (p.st = 0), h.getD 9 false || decide (p.els = 0)]
theorem bools10 {w : World} {b : Nat} {t0 t1 t2 t3 t4 t5 t6 t7 t8 t9 : Bool} {T : TypeId} (h : w.heap[b]? = some (.cells #[.bool t0, .bool t1, .bool t2, .bool t3, .bool t4, .bool t5, .bool t6, .bool t7, .bool t8, .bool t9] T (0, 0))) : BoolsAt w (some ⟨b, 0, none⟩) [t0, t1, t2, t3, t4, t5, t6, t7, t8, t9] := by
 intro k hk
 refine ⟨b, 0, rfl, ?_⟩
 rw [blk_cell h (0 + k)]
 match k, hk with
 | 0, _ | 1, _ | 2, _ | 3, _ | 4, _ | 5, _ | 6, _ | 7, _ | 8, _ | 9, _ => rfl
set_option maxRecDepth 100000 in
set_option maxHeartbeats 32000000 in
theorem grRestToA_any (p : Pt) (ta : Option Addr) (tc : Nat) (aa : Option Addr) (ac : Nat) (ba : Option Addr) (bc : Nat) (ga : Option Addr) (gc : Nat) (fa : Option Addr) (fc : Nat) (w : World) :
  Calls Tryz.prog 142 #[.agg (ptC p ta tc aa ac ba bc ga gc fa fc), .agg #[.bool true, .bool true, .bool false, .bool false, .bool false, .bool false, .bool false, .bool false, .bool false, .bool false]] w fun e w' => e = .returned (.bool ((restL p [true, true, false, false, false, false, false, false, false, false]).all id)) ∧ KB F0 w w' := by
 obtain ⟨w0, rfl⟩ : ∃ w0, w0 = w := ⟨_, rfl⟩
 obtain ⟨hk, hb1, hb2⟩ := new2 w0 (ptC p ta tc aa ac ba bc ga gc fa fc) #[.bool true, .bool true, .bool false, .bool false, .bool false, .bool false, .bool false, .bool false, .bool false, .bool false] 129 208
 obtain ⟨W, hW⟩ : ∃ W, W = ((w0.alloc (.cells (ptC p ta tc aa ac ba bc ga gc fa fc) 129)).alloc (.cells #[.bool true, .bool true, .bool false, .bool false, .bool false, .bool false, .bool false, .bool false, .bool false, .bool false] 208)) := ⟨_, rfl⟩
 rw [← hW] at hk hb1 hb2
 have HB := Lib.hid (And.intro hk (And.intro hb1 hb2))
 have HW := Lib.hid hW
 have c1 : W.cell? ⟨w0.heap.size, 1, none⟩ = some (.int .i64 p.dst.loc) := blk_cell hb1 1
 have c2 : W.cell? ⟨w0.heap.size, 2, none⟩ = some (.slice ta p.dst.path.length tc) := blk_cell hb1 2
 have c3 : W.cell? ⟨w0.heap.size, 3, none⟩ = some (.int .u8 p.a.k) := blk_cell hb1 3
 have c4 : W.cell? ⟨w0.heap.size, 4, none⟩ = some (.int .i64 p.a.n) := blk_cell hb1 4
 have c5 : W.cell? ⟨w0.heap.size, 5, none⟩ = some (.int .i64 p.a.p.loc) := blk_cell hb1 5
 have c6 : W.cell? ⟨w0.heap.size, 6, none⟩ = some (.slice aa p.a.p.path.length ac) := blk_cell hb1 6
 have c7 : W.cell? ⟨w0.heap.size, 7, none⟩ = some (.int .u8 p.b.k) := blk_cell hb1 7
 have c8 : W.cell? ⟨w0.heap.size, 8, none⟩ = some (.int .i64 p.b.n) := blk_cell hb1 8
 have c9 : W.cell? ⟨w0.heap.size, 9, none⟩ = some (.int .i64 p.b.p.loc) := blk_cell hb1 9
 have c10 : W.cell? ⟨w0.heap.size, 10, none⟩ = some (.slice ba p.b.p.path.length bc) := blk_cell hb1 10
 have c11 : W.cell? ⟨w0.heap.size, 11, none⟩ = some (.slice ga p.args.length gc) := blk_cell hb1 11
 have c12 : W.cell? ⟨w0.heap.size, 12, none⟩ = some (.string p.sign) := blk_cell hb1 12
 have c13 : W.cell? ⟨w0.heap.size, 13, none⟩ = some (.int .i64 p.src.loc) := blk_cell hb1 13
 have c14 : W.cell? ⟨w0.heap.size, 14, none⟩ = some (.slice fa p.src.path.length fc) := blk_cell hb1 14
 have c15 : W.cell? ⟨w0.heap.size, 15, none⟩ = some (.bool p.mut_) := blk_cell hb1 15
 have c16 : W.cell? ⟨w0.heap.size, 16, none⟩ = some (.int .i64 p.fn) := blk_cell hb1 16
 have c17 : W.cell? ⟨w0.heap.size, 17, none⟩ = some (.int .i64 p.st) := blk_cell hb1 17
 have c19 : W.cell? ⟨w0.heap.size, 19, none⟩ = some (.int .i64 p.els) := blk_cell hb1 19
 have h0 : W.cell? ⟨w0.heap.size + 1, 0, none⟩ = some (.bool true) := blk_cell hb2 0
 have h1 : W.cell? ⟨w0.heap.size + 1, 1, none⟩ = some (.bool true) := blk_cell hb2 1
 have h2 : W.cell? ⟨w0.heap.size + 1, 2, none⟩ = some (.bool false) := blk_cell hb2 2
 have h3 : W.cell? ⟨w0.heap.size + 1, 3, none⟩ = some (.bool false) := blk_cell hb2 3
 have h4 : W.cell? ⟨w0.heap.size + 1, 4, none⟩ = some (.bool false) := blk_cell hb2 4
 have h5 : W.cell? ⟨w0.heap.size + 1, 5, none⟩ = some (.bool false) := blk_cell hb2 5
 have h6 : W.cell? ⟨w0.heap.size + 1, 6, none⟩ = some (.bool false) := blk_cell hb2 6
 have h7 : W.cell? ⟨w0.heap.size + 1, 7, none⟩ = some (.bool false) := blk_cell hb2 7
 have h8 : W.cell? ⟨w0.heap.size + 1, 8, none⟩ = some (.bool false) := blk_cell hb2 8
 have h9 : W.cell? ⟨w0.heap.size + 1, 9, none⟩ = some (.bool false) := blk_cell hb2 9
 have Z0 := Lib.hid (fun V => grZero_any p.dst ta tc V)
 have Z1 := Lib.hid (fun V => grRest1_any p.a aa ac V)
 have Z2 := Lib.hid (fun V => grRest1_any p.b ba bc V)
 have Z5 := Lib.hid (fun V => grZero_any p.src fa fc V)
 unfold plV at Z0 Z5
 unfold opV at Z1 Z2
 have hArg : ((p.args.length : Int) == 0) = decide (p.args.length = 0) := Bool.eq_iff_iff.2 (by simp)
 have hFn : (p.fn == 0) = decide (p.fn = 0) := Bool.eq_iff_iff.2 (by simp)
 have hSt : (p.st == 0) = decide (p.st = 0) := Bool.eq_iff_iff.2 (by simp)
 have hEl : (p.els == 0) = decide (p.els = 0) := Bool.eq_iff_iff.2 (by simp)
 clear hk hb1 hb2 hW
 unfold restL
 simp only [List.getD_cons_zero, List.getD_cons_succ, Bool.true_or, Bool.false_or]
 generalize noneB p.b = z2 at Z2 ⊢
 generalize zeroB p.src = z5 at Z5 ⊢
 obtain ⟨rr, hrr⟩ : ∃ rr, rr = List.all [true, true, z2, decide (p.args.length = 0), decide (p.sign.size = 0), z5, !p.mut_, decide (p.fn = 0), decide (p.st = 0), decide (p.els = 0)] id := ⟨_, rfl⟩
 rw [← hrr]
 have HRR := Lib.hid hrr
 clear hrr
 go_enter Tryz.func142, Tryz.ntmps142
 go_upto_region 2 with fail
 rw [← HW.out]
 refine wp_region_rv 74 GK (kindW [(21, (fun v => v = .bool z2), (fun _ _ => True)), (43, (fun v => v = .bool z5), (fun _ _ => True)), (73, RowN W.heap.size 10, RowNAt W.heap.size 10 #[.bool (true), .bool (true), .bool (z2), .bool (((p.args.length : Int) == 0)), .bool (p.sign.toList.isEmpty), .bool (z5), .bool (!p.mut_), .bool ((p.fn == 0)), .bool ((p.st == 0)), .bool ((p.els == 0))] 4)]) (by kernel_rfl) (by kernel_rfl) (kb_trans _) (kb_refl _) (kb_start _ _) (kindW_mono _ (by intro p hp; simp only [List.mem_cons, List.not_mem_nil, or_false] at hp; rcases hp with rfl | rfl | rfl <;> first | exact lasts_true | exact lasts_rowN _ _ _ _)) ?_
 simp only [pT, pU, pV, pW]
 iterate 3 (refine rv_det (by kernel_rfl) rfl (by intro w hG hH; have hc0 := kc hG (h0); go_simp; first | done | with_reducible rfl) ?_; simp only [Act.put, pA, pZ, pS])
 iterate 3 (refine rv_skip (by kernel_rfl) ?_; simp only [Act.put, pA, pZ, pS])
 refine rv_det (by kernel_rfl) rfl (by intro w hG hH; have hc0 := kc hG (h0); go_simp; first | done | with_reducible rfl) ?_
 simp only [Act.put, pA, pZ, pS]
 iterate 3 (refine rv_det (by kernel_rfl) rfl (by intro w hG hH; have hc0 := kc hG (h1); go_simp; first | done | with_reducible rfl) ?_; simp only [Act.put, pA, pZ, pS])
 iterate 4 (refine rv_skip (by kernel_rfl) ?_; simp only [Act.put, pA, pZ, pS])
 refine rv_det (by kernel_rfl) rfl (by intro w hG hH; have hc0 := kc hG (h1); go_simp; first | done | with_reducible rfl) ?_
 simp only [Act.put, pA, pZ, pS]
 iterate 3 (refine rv_det (by kernel_rfl) rfl (by intro w hG hH; have hc0 := kc hG (h2); go_simp; first | done | with_reducible rfl) ?_; simp only [Act.put, pA, pZ, pS])
 iterate 3 (refine rv_det (by kernel_rfl) rfl (by intro w hG hH; have hc0 := kc hG (c7); have hc1 := kc hG (c8); have hc2 := kc hG (c9); have hc3 := kc hG (c10); go_simp; first | done | with_reducible rfl) ?_; simp only [Act.put, pA, pZ, pS])
 refine rv_rel (by kernel_rfl) rfl ⟨_, rfl⟩ (by
  intro w hG hH
  refine opVal_call (by go_simp; first | done | exact ⟨⟨rfl, rfl⟩, rfl⟩) ?_
  refine (Z2.out _).mono ?_
  rintro e w' ⟨rfl, hq⟩
  exact ⟨_, rfl, rfl, by first | (obtain ⟨nq, rfl⟩ := hq; exact (KB.refl _ _).drewN _) | (subst hq; exact KB.refl _ _) | exact hq, trivial⟩) ?_
 rintro v rfl
 simp only [Act.put, pA, pZ, pS]
 refine rv_det (by kernel_rfl) rfl (by intro w hG hH; have hc0 := kc hG (h2); go_simp; first | done | with_reducible rfl) ?_
 simp only [Act.put, pA, pZ, pS]
 iterate 3 (refine rv_det (by kernel_rfl) rfl (by intro w hG hH; have hc0 := kc hG (h3); go_simp; first | done | with_reducible rfl) ?_; simp only [Act.put, pA, pZ, pS])
 iterate 4 (refine rv_det (by kernel_rfl) rfl (by intro w hG hH; have hc0 := kc hG (c11); go_simp; first | done | with_reducible rfl) ?_; simp only [Act.put, pA, pZ, pS])
 refine rv_det (by kernel_rfl) rfl (by intro w hG hH; have hc0 := kc hG (h3); go_simp; first | done | with_reducible rfl) ?_
 simp only [Act.put, pA, pZ, pS]
 iterate 3 (refine rv_det (by kernel_rfl) rfl (by intro w hG hH; have hc0 := kc hG (h4); go_simp; first | done | with_reducible rfl) ?_; simp only [Act.put, pA, pZ, pS])
 iterate 3 (refine rv_det (by kernel_rfl) rfl (by intro w hG hH; have hc0 := kc hG (c12); go_simp; first | done | with_reducible rfl) ?_; simp only [Act.put, pA, pZ, pS])
 refine rv_det (by kernel_rfl) rfl (by intro w hG hH; have hc0 := kc hG (h4); go_simp; first | done | with_reducible rfl) ?_
 simp only [Act.put, pA, pZ, pS]
 iterate 3 (refine rv_det (by kernel_rfl) rfl (by intro w hG hH; have hc0 := kc hG (h5); go_simp; first | done | with_reducible rfl) ?_; simp only [Act.put, pA, pZ, pS])
 iterate 2 (refine rv_det (by kernel_rfl) rfl (by intro w hG hH; have hc0 := kc hG (c13); have hc1 := kc hG (c14); go_simp; first | done | with_reducible rfl) ?_; simp only [Act.put, pA, pZ, pS])
 refine rv_rel (by kernel_rfl) rfl ⟨_, rfl⟩ (by
  intro w hG hH
  refine opVal_call (by go_simp; first | done | exact ⟨⟨rfl, rfl⟩, rfl⟩) ?_
  refine (Z5.out _).mono ?_
  rintro e w' ⟨rfl, hq⟩
  exact ⟨_, rfl, rfl, by first | (obtain ⟨nq, rfl⟩ := hq; exact (KB.refl _ _).drewN _) | (subst hq; exact KB.refl _ _) | exact hq, trivial⟩) ?_
 rintro v rfl
 simp only [Act.put, pA, pZ, pS]
 refine rv_det (by kernel_rfl) rfl (by intro w hG hH; have hc0 := kc hG (h5); go_simp; first | done | with_reducible rfl) ?_
 simp only [Act.put, pA, pZ, pS]
 iterate 3 (refine rv_det (by kernel_rfl) rfl (by intro w hG hH; have hc0 := kc hG (h6); go_simp; first | done | with_reducible rfl) ?_; simp only [Act.put, pA, pZ, pS])
 iterate 3 (refine rv_det (by kernel_rfl) rfl (by intro w hG hH; have hc0 := kc hG (c15); go_simp; first | done | with_reducible rfl) ?_; simp only [Act.put, pA, pZ, pS])
 refine rv_det (by kernel_rfl) rfl (by intro w hG hH; have hc0 := kc hG (h6); go_simp; first | done | with_reducible rfl) ?_
 simp only [Act.put, pA, pZ, pS]
 iterate 3 (refine rv_det (by kernel_rfl) rfl (by intro w hG hH; have hc0 := kc hG (h7); go_simp; first | done | with_reducible rfl) ?_; simp only [Act.put, pA, pZ, pS])
 iterate 3 (refine rv_det (by kernel_rfl) rfl (by intro w hG hH; have hc0 := kc hG (c16); go_simp; first | done | with_reducible rfl) ?_; simp only [Act.put, pA, pZ, pS])
 refine rv_det (by kernel_rfl) rfl (by intro w hG hH; have hc0 := kc hG (h7); go_simp; first | done | with_reducible rfl) ?_
 simp only [Act.put, pA, pZ, pS]
 iterate 3 (refine rv_det (by kernel_rfl) rfl (by intro w hG hH; have hc0 := kc hG (h8); go_simp; first | done | with_reducible rfl) ?_; simp only [Act.put, pA, pZ, pS])
 iterate 3 (refine rv_det (by kernel_rfl) rfl (by intro w hG hH; have hc0 := kc hG (c17); go_simp; first | done | with_reducible rfl) ?_; simp only [Act.put, pA, pZ, pS])
 refine rv_det (by kernel_rfl) rfl (by intro w hG hH; have hc0 := kc hG (h8); go_simp; first | done | with_reducible rfl) ?_
 simp only [Act.put, pA, pZ, pS]
 iterate 3 (refine rv_det (by kernel_rfl) rfl (by intro w hG hH; have hc0 := kc hG (h9); go_simp; first | done | with_reducible rfl) ?_; simp only [Act.put, pA, pZ, pS])
 iterate 3 (refine rv_det (by kernel_rfl) rfl (by intro w hG hH; have hc0 := kc hG (c19); go_simp; first | done | with_reducible rfl) ?_; simp only [Act.put, pA, pZ, pS])
 refine rv_det (by kernel_rfl) rfl (by intro w hG hH; have hc0 := kc hG (h9); go_simp; first | done | with_reducible rfl) ?_
 simp only [Act.put, pA, pZ, pS]
 refine rv_rel (by kernel_rfl) rfl (rowN_ex _ _) (fun w hG hH => opVal_rowN hG (by go_simp; first | done | rfl)) ?_
 rintro v ⟨nb, rfl, hnb⟩
 simp only [Act.put, pA, pZ, pS]
 refine rv_nil (fun w hG hH => ?_)
 obtain ⟨nb', e1, e2, e3⟩ := hH _ (List.mem_cons_self ..)
 cases e1
 have HR := Lib.hid (ctBool_any [true, true, z2, ((p.args.length : Int) == 0), p.sign.toList.isEmpty, z5, !p.mut_, (p.fn == 0), (p.st == 0), (p.els == 0)] (by show (10 : Nat) ≤ 1000000; decide) (some ⟨nb, 0, none⟩) 10 w (bools10 e3))
 have HK := Lib.hid (HB.out.1.trans hG)
 clear hH e2 e3 hG hnb
 clear c1 c2 c3 c4 c5 c6 c7 c8 c9 c10 c11 c12 c13 c14 c15 c16 c17 c19 h0 h1 h2 h3 h4 h5 h6 h7 h8 h9
 go_wp2_with fail
 refine HR.out.mono ?_
 rintro e w9 ⟨rfl, rfl⟩
 go_wp2_with fail
 go_ret
 exact ⟨ret_eq (by rw [HRR.out]; simp [sign_nil]), HK.out⟩
set_option maxRecDepth 100000 in
set_option maxHeartbeats 32000000 in
theorem grRestToFM_any (p : Pt) (ta : Option Addr) (tc : Nat) (aa : Option Addr) (ac : Nat) (ba : Option Addr) (bc : Nat) (ga : Option Addr) (gc : Nat) (fa : Option Addr) (fc : Nat) (w : World) :
  Calls Tryz.prog 142 #[.agg (ptC p ta tc aa ac ba bc ga gc fa fc), .agg #[.bool true, .bool false, .bool false, .bool false, .bool false, .bool true, .bool true, .bool false, .bool false, .bool false]] w fun e w' => e = .returned (.bool ((restL p [true, false, false, false, false, true, true, false, false, false]).all id)) ∧ KB F0 w w' := by
 obtain ⟨w0, rfl⟩ : ∃ w0, w0 = w := ⟨_, rfl⟩
 obtain ⟨hk, hb1, hb2⟩ := new2 w0 (ptC p ta tc aa ac ba bc ga gc fa fc) #[.bool true, .bool false, .bool false, .bool false, .bool false, .bool true, .bool true, .bool false, .bool false, .bool false] 129 208
 obtain ⟨W, hW⟩ : ∃ W, W = ((w0.alloc (.cells (ptC p ta tc aa ac ba bc ga gc fa fc) 129)).alloc (.cells #[.bool true, .bool false, .bool false, .bool false, .bool false, .bool true, .bool true, .bool false, .bool false, .bool false] 208)) := ⟨_, rfl⟩
 rw [← hW] at hk hb1 hb2
 have HB := Lib.hid (And.intro hk (And.intro hb1 hb2))
 have HW := Lib.hid hW
 have c1 : W.cell? ⟨w0.heap.size, 1, none⟩ = some (.int .i64 p.dst.loc) := blk_cell hb1 1
 have c2 : W.cell? ⟨w0.heap.size, 2, none⟩ = some (.slice ta p.dst.path.length tc) := blk_cell hb1 2
 have c3 : W.cell? ⟨w0.heap.size, 3, none⟩ = some (.int .u8 p.a.k) := blk_cell hb1 3
 have c4 : W.cell? ⟨w0.heap.size, 4, none⟩ = some (.int .i64 p.a.n) := blk_cell hb1 4
 have c5 : W.cell? ⟨w0.heap.size, 5, none⟩ = some (.int .i64 p.a.p.loc) := blk_cell hb1 5
 have c6 : W.cell? ⟨w0.heap.size, 6, none⟩ = some (.slice aa p.a.p.path.length ac) := blk_cell hb1 6
 have c7 : W.cell? ⟨w0.heap.size, 7, none⟩ = some (.int .u8 p.b.k) := blk_cell hb1 7
 have c8 : W.cell? ⟨w0.heap.size, 8, none⟩ = some (.int .i64 p.b.n) := blk_cell hb1 8
 have c9 : W.cell? ⟨w0.heap.size, 9, none⟩ = some (.int .i64 p.b.p.loc) := blk_cell hb1 9
 have c10 : W.cell? ⟨w0.heap.size, 10, none⟩ = some (.slice ba p.b.p.path.length bc) := blk_cell hb1 10
 have c11 : W.cell? ⟨w0.heap.size, 11, none⟩ = some (.slice ga p.args.length gc) := blk_cell hb1 11
 have c12 : W.cell? ⟨w0.heap.size, 12, none⟩ = some (.string p.sign) := blk_cell hb1 12
 have c13 : W.cell? ⟨w0.heap.size, 13, none⟩ = some (.int .i64 p.src.loc) := blk_cell hb1 13
 have c14 : W.cell? ⟨w0.heap.size, 14, none⟩ = some (.slice fa p.src.path.length fc) := blk_cell hb1 14
 have c15 : W.cell? ⟨w0.heap.size, 15, none⟩ = some (.bool p.mut_) := blk_cell hb1 15
 have c16 : W.cell? ⟨w0.heap.size, 16, none⟩ = some (.int .i64 p.fn) := blk_cell hb1 16
 have c17 : W.cell? ⟨w0.heap.size, 17, none⟩ = some (.int .i64 p.st) := blk_cell hb1 17
 have c19 : W.cell? ⟨w0.heap.size, 19, none⟩ = some (.int .i64 p.els) := blk_cell hb1 19
 have h0 : W.cell? ⟨w0.heap.size + 1, 0, none⟩ = some (.bool true) := blk_cell hb2 0
 have h1 : W.cell? ⟨w0.heap.size + 1, 1, none⟩ = some (.bool false) := blk_cell hb2 1
 have h2 : W.cell? ⟨w0.heap.size + 1, 2, none⟩ = some (.bool false) := blk_cell hb2 2
 have h3 : W.cell? ⟨w0.heap.size + 1, 3, none⟩ = some (.bool false) := blk_cell hb2 3
 have h4 : W.cell? ⟨w0.heap.size + 1, 4, none⟩ = some (.bool false) := blk_cell hb2 4
 have h5 : W.cell? ⟨w0.heap.size + 1, 5, none⟩ = some (.bool true) := blk_cell hb2 5
 have h6 : W.cell? ⟨w0.heap.size + 1, 6, none⟩ = some (.bool true) := blk_cell hb2 6
 have h7 : W.cell? ⟨w0.heap.size + 1, 7, none⟩ = some (.bool false) := blk_cell hb2 7
 have h8 : W.cell? ⟨w0.heap.size + 1, 8, none⟩ = some (.bool false) := blk_cell hb2 8
 have h9 : W.cell? ⟨w0.heap.size + 1, 9, none⟩ = some (.bool false) := blk_cell hb2 9
 have Z0 := Lib.hid (fun V => grZero_any p.dst ta tc V)
 have Z1 := Lib.hid (fun V => grRest1_any p.a aa ac V)
 have Z2 := Lib.hid (fun V => grRest1_any p.b ba bc V)
 have Z5 := Lib.hid (fun V => grZero_any p.src fa fc V)
 unfold plV at Z0 Z5
 unfold opV at Z1 Z2
 have hArg : ((p.args.length : Int) == 0) = decide (p.args.length = 0) := Bool.eq_iff_iff.2 (by simp)
 have hFn : (p.fn == 0) = decide (p.fn = 0) := Bool.eq_iff_iff.2 (by simp)
 have hSt : (p.st == 0) = decide (p.st = 0) := Bool.eq_iff_iff.2 (by simp)
 have hEl : (p.els == 0) = decide (p.els = 0) := Bool.eq_iff_iff.2 (by simp)
 clear hk hb1 hb2 hW
 unfold restL
 simp only [List.getD_cons_zero, List.getD_cons_succ, Bool.true_or, Bool.false_or]
 generalize noneB p.a = z1 at Z1 ⊢
 generalize noneB p.b = z2 at Z2 ⊢
 obtain ⟨rr, hrr⟩ : ∃ rr, rr = List.all [true, z1, z2, decide (p.args.length = 0), decide (p.sign.size = 0), true, true, decide (p.fn = 0), decide (p.st = 0), decide (p.els = 0)] id := ⟨_, rfl⟩
 rw [← hrr]
 have HRR := Lib.hid hrr
 clear hrr
 go_enter Tryz.func142, Tryz.ntmps142
 go_upto_region 2 with fail
 rw [← HW.out]
 refine wp_region_rv 74 GK (kindW [(13, (fun v => v = .bool z1), (fun _ _ => True)), (21, (fun v => v = .bool z2), (fun _ _ => True)), (73, RowN W.heap.size 10, RowNAt W.heap.size 10 #[.bool (true), .bool (z1), .bool (z2), .bool (((p.args.length : Int) == 0)), .bool (p.sign.toList.isEmpty), .bool (true), .bool (true), .bool ((p.fn == 0)), .bool ((p.st == 0)), .bool ((p.els == 0))] 4)]) (by kernel_rfl) (by kernel_rfl) (kb_trans _) (kb_refl _) (kb_start _ _) (kindW_mono _ (by intro p hp; simp only [List.mem_cons, List.not_mem_nil, or_false] at hp; rcases hp with rfl | rfl | rfl <;> first | exact lasts_true | exact lasts_rowN _ _ _ _)) ?_
 simp only [pT, pU, pV, pW]
 iterate 3 (refine rv_det (by kernel_rfl) rfl (by intro w hG hH; have hc0 := kc hG (h0); go_simp; first | done | with_reducible rfl) ?_; simp only [Act.put, pA, pZ, pS])
 iterate 3 (refine rv_skip (by kernel_rfl) ?_; simp only [Act.put, pA, pZ, pS])
 refine rv_det (by kernel_rfl) rfl (by intro w hG hH; have hc0 := kc hG (h0); go_simp; first | done | with_reducible rfl) ?_
 simp only [Act.put, pA, pZ, pS]
 iterate 3 (refine rv_det (by kernel_rfl) rfl (by intro w hG hH; have hc0 := kc hG (h1); go_simp; first | done | with_reducible rfl) ?_; simp only [Act.put, pA, pZ, pS])
 iterate 3 (refine rv_det (by kernel_rfl) rfl (by intro w hG hH; have hc0 := kc hG (c3); have hc1 := kc hG (c4); have hc2 := kc hG (c5); have hc3 := kc hG (c6); go_simp; first | done | with_reducible rfl) ?_; simp only [Act.put, pA, pZ, pS])
 refine rv_rel (by kernel_rfl) rfl ⟨_, rfl⟩ (by
  intro w hG hH
  refine opVal_call (by go_simp; first | done | exact ⟨⟨rfl, rfl⟩, rfl⟩) ?_
  refine (Z1.out _).mono ?_
  rintro e w' ⟨rfl, hq⟩
  exact ⟨_, rfl, rfl, by first | (obtain ⟨nq, rfl⟩ := hq; exact (KB.refl _ _).drewN _) | (subst hq; exact KB.refl _ _) | exact hq, trivial⟩) ?_
 rintro v rfl
 simp only [Act.put, pA, pZ, pS]
 refine rv_det (by kernel_rfl) rfl (by intro w hG hH; have hc0 := kc hG (h1); go_simp; first | done | with_reducible rfl) ?_
 simp only [Act.put, pA, pZ, pS]
 iterate 3 (refine rv_det (by kernel_rfl) rfl (by intro w hG hH; have hc0 := kc hG (h2); go_simp; first | done | with_reducible rfl) ?_; simp only [Act.put, pA, pZ, pS])
 iterate 3 (refine rv_det (by kernel_rfl) rfl (by intro w hG hH; have hc0 := kc hG (c7); have hc1 := kc hG (c8); have hc2 := kc hG (c9); have hc3 := kc hG (c10); go_simp; first | done | with_reducible rfl) ?_; simp only [Act.put, pA, pZ, pS])
 refine rv_rel (by kernel_rfl) rfl ⟨_, rfl⟩ (by
  intro w hG hH
  refine opVal_call (by go_simp; first | done | exact ⟨⟨rfl, rfl⟩, rfl⟩) ?_
  refine (Z2.out _).mono ?_
  rintro e w' ⟨rfl, hq⟩
  exact ⟨_, rfl, rfl, by first | (obtain ⟨nq, rfl⟩ := hq; exact (KB.refl _ _).drewN _) | (subst hq; exact KB.refl _ _) | exact hq, trivial⟩) ?_
 rintro v rfl
 simp only [Act.put, pA, pZ, pS]
 refine rv_det (by kernel_rfl) rfl (by intro w hG hH; have hc0 := kc hG (h2); go_simp; first | done | with_reducible rfl) ?_
 simp only [Act.put, pA, pZ, pS]
 iterate 3 (refine rv_det (by kernel_rfl) rfl (by intro w hG hH; have hc0 := kc hG (h3); go_simp; first | done | with_reducible rfl) ?_; simp only [Act.put, pA, pZ, pS])
 iterate 4 (refine rv_det (by kernel_rfl) rfl (by intro w hG hH; have hc0 := kc hG (c11); go_simp; first | done | with_reducible rfl) ?_; simp only [Act.put, pA, pZ, pS])
 refine rv_det (by kernel_rfl) rfl (by intro w hG hH; have hc0 := kc hG (h3); go_simp; first | done | with_reducible rfl) ?_
 simp only [Act.put, pA, pZ, pS]
 iterate 3 (refine rv_det (by kernel_rfl) rfl (by intro w hG hH; have hc0 := kc hG (h4); go_simp; first | done | with_reducible rfl) ?_; simp only [Act.put, pA, pZ, pS])
 iterate 3 (refine rv_det (by kernel_rfl) rfl (by intro w hG hH; have hc0 := kc hG (c12); go_simp; first | done | with_reducible rfl) ?_; simp only [Act.put, pA, pZ, pS])
 refine rv_det (by kernel_rfl) rfl (by intro w hG hH; have hc0 := kc hG (h4); go_simp; first | done | with_reducible rfl) ?_
 simp only [Act.put, pA, pZ, pS]
 iterate 3 (refine rv_det (by kernel_rfl) rfl (by intro w hG hH; have hc0 := kc hG (h5); go_simp; first | done | with_reducible rfl) ?_; simp only [Act.put, pA, pZ, pS])
 iterate 3 (refine rv_skip (by kernel_rfl) ?_; simp only [Act.put, pA, pZ, pS])
 refine rv_det (by kernel_rfl) rfl (by intro w hG hH; have hc0 := kc hG (h5); go_simp; first | done | with_reducible rfl) ?_
 simp only [Act.put, pA, pZ, pS]
 iterate 3 (refine rv_det (by kernel_rfl) rfl (by intro w hG hH; have hc0 := kc hG (h6); go_simp; first | done | with_reducible rfl) ?_; simp only [Act.put, pA, pZ, pS])
 iterate 3 (refine rv_skip (by kernel_rfl) ?_; simp only [Act.put, pA, pZ, pS])
 refine rv_det (by kernel_rfl) rfl (by intro w hG hH; have hc0 := kc hG (h6); go_simp; first | done | with_reducible rfl) ?_
 simp only [Act.put, pA, pZ, pS]
 iterate 3 (refine rv_det (by kernel_rfl) rfl (by intro w hG hH; have hc0 := kc hG (h7); go_simp; first | done | with_reducible rfl) ?_; simp only [Act.put, pA, pZ, pS])
 iterate 3 (refine rv_det (by kernel_rfl) rfl (by intro w hG hH; have hc0 := kc hG (c16); go_simp; first | done | with_reducible rfl) ?_; simp only [Act.put, pA, pZ, pS])
 refine rv_det (by kernel_rfl) rfl (by intro w hG hH; have hc0 := kc hG (h7); go_simp; first | done | with_reducible rfl) ?_
 simp only [Act.put, pA, pZ, pS]
 iterate 3 (refine rv_det (by kernel_rfl) rfl (by intro w hG hH; have hc0 := kc hG (h8); go_simp; first | done | with_reducible rfl) ?_; simp only [Act.put, pA, pZ, pS])
 iterate 3 (refine rv_det (by kernel_rfl) rfl (by intro w hG hH; have hc0 := kc hG (c17); go_simp; first | done | with_reducible rfl) ?_; simp only [Act.put, pA, pZ, pS])
 refine rv_det (by kernel_rfl) rfl (by intro w hG hH; have hc0 := kc hG (h8); go_simp; first | done | with_reducible rfl) ?_
 simp only [Act.put, pA, pZ, pS]
 iterate 3 (refine rv_det (by kernel_rfl) rfl (by intro w hG hH; have hc0 := kc hG (h9); go_simp; first | done | with_reducible rfl) ?_; simp only [Act.put, pA, pZ, pS])
 iterate 3 (refine rv_det (by kernel_rfl) rfl (by intro w hG hH; have hc0 := kc hG (c19); go_simp; first | done | with_reducible rfl) ?_; simp only [Act.put, pA, pZ, pS])
 refine rv_det (by kernel_rfl) rfl (by intro w hG hH; have hc0 := kc hG (h9); go_simp; first | done | with_reducible rfl) ?_
 simp only [Act.put, pA, pZ, pS]
 refine rv_rel (by kernel_rfl) rfl (rowN_ex _ _) (fun w hG hH => opVal_rowN hG (by go_simp; first | done | rfl)) ?_
 rintro v ⟨nb, rfl, hnb⟩
 simp only [Act.put, pA, pZ, pS]
 refine rv_nil (fun w hG hH => ?_)
 obtain ⟨nb', e1, e2, e3⟩ := hH _ (List.mem_cons_self ..)
 cases e1
 have HR := Lib.hid (ctBool_any [true, z1, z2, ((p.args.length : Int) == 0), p.sign.toList.isEmpty, true, true, (p.fn == 0), (p.st == 0), (p.els == 0)] (by show (10 : Nat) ≤ 1000000; decide) (some ⟨nb, 0, none⟩) 10 w (bools10 e3))
 have HK := Lib.hid (HB.out.1.trans hG)
 clear hH e2 e3 hG hnb
 clear c1 c2 c3 c4 c5 c6 c7 c8 c9 c10 c11 c12 c13 c14 c15 c16 c17 c19 h0 h1 h2 h3 h4 h5 h6 h7 h8 h9
 go_wp2_with fail
 refine HR.out.mono ?_
 rintro e w9 ⟨rfl, rfl⟩
 go_wp2_with fail
 go_ret
 exact ⟨ret_eq (by rw [HRR.out]; simp [sign_nil]), HK.out⟩
set_option maxRecDepth 100000 in
set_option maxHeartbeats 32000000 in
theorem grRestNo_any (p : Pt) (ta : Option Addr) (tc : Nat) (aa : Option Addr) (ac : Nat) (ba : Option Addr) (bc : Nat) (ga : Option Addr) (gc : Nat) (fa : Option Addr) (fc : Nat) (w : World) :
  Calls Tryz.prog 142 #[.agg (ptC p ta tc aa ac ba bc ga gc fa fc), .agg #[.bool false, .bool false, .bool false, .bool false, .bool false, .bool false, .bool false, .bool false, .bool false, .bool false]] w fun e w' => e = .returned (.bool ((restL p [false, false, false, false, false, false, false, false, false, false]).all id)) ∧ KB F0 w w' := by
 obtain ⟨w0, rfl⟩ : ∃ w0, w0 = w := ⟨_, rfl⟩
 obtain ⟨hk, hb1, hb2⟩ := new2 w0 (ptC p ta tc aa ac ba bc ga gc fa fc) #[.bool false, .bool false, .bool false, .bool false, .bool false, .bool false, .bool false, .bool false, .bool false, .bool false] 129 208
 obtain ⟨W, hW⟩ : ∃ W, W = ((w0.alloc (.cells (ptC p ta tc aa ac ba bc ga gc fa fc) 129)).alloc (.cells #[.bool false, .bool false, .bool false, .bool false, .bool false, .bool false, .bool false, .bool false, .bool false, .bool false] 208)) := ⟨_, rfl⟩
 rw [← hW] at hk hb1 hb2
 have HB := Lib.hid (And.intro hk (And.intro hb1 hb2))
 have HW := Lib.hid hW
 have c1 : W.cell? ⟨w0.heap.size, 1, none⟩ = some (.int .i64 p.dst.loc) := blk_cell hb1 1
 have c2 : W.cell? ⟨w0.heap.size, 2, none⟩ = some (.slice ta p.dst.path.length tc) := blk_cell hb1 2
 have c3 : W.cell? ⟨w0.heap.size, 3, none⟩ = some (.int .u8 p.a.k) := blk_cell hb1 3
 have c4 : W.cell? ⟨w0.heap.size, 4, none⟩ = some (.int .i64 p.a.n) := blk_cell hb1 4
 have c5 : W.cell? ⟨w0.heap.size, 5, none⟩ = some (.int .i64 p.a.p.loc) := blk_cell hb1 5
 have c6 : W.cell? ⟨w0.heap.size, 6, none⟩ = some (.slice aa p.a.p.path.length ac) := blk_cell hb1 6
 have c7 : W.cell? ⟨w0.heap.size, 7, none⟩ = some (.int .u8 p.b.k) := blk_cell hb1 7
 have c8 : W.cell? ⟨w0.heap.size, 8, none⟩ = some (.int .i64 p.b.n) := blk_cell hb1 8
 have c9 : W.cell? ⟨w0.heap.size, 9, none⟩ = some (.int .i64 p.b.p.loc) := blk_cell hb1 9
 have c10 : W.cell? ⟨w0.heap.size, 10, none⟩ = some (.slice ba p.b.p.path.length bc) := blk_cell hb1 10
 have c11 : W.cell? ⟨w0.heap.size, 11, none⟩ = some (.slice ga p.args.length gc) := blk_cell hb1 11
 have c12 : W.cell? ⟨w0.heap.size, 12, none⟩ = some (.string p.sign) := blk_cell hb1 12
 have c13 : W.cell? ⟨w0.heap.size, 13, none⟩ = some (.int .i64 p.src.loc) := blk_cell hb1 13
 have c14 : W.cell? ⟨w0.heap.size, 14, none⟩ = some (.slice fa p.src.path.length fc) := blk_cell hb1 14
 have c15 : W.cell? ⟨w0.heap.size, 15, none⟩ = some (.bool p.mut_) := blk_cell hb1 15
 have c16 : W.cell? ⟨w0.heap.size, 16, none⟩ = some (.int .i64 p.fn) := blk_cell hb1 16
 have c17 : W.cell? ⟨w0.heap.size, 17, none⟩ = some (.int .i64 p.st) := blk_cell hb1 17
 have c19 : W.cell? ⟨w0.heap.size, 19, none⟩ = some (.int .i64 p.els) := blk_cell hb1 19
 have h0 : W.cell? ⟨w0.heap.size + 1, 0, none⟩ = some (.bool false) := blk_cell hb2 0
 have h1 : W.cell? ⟨w0.heap.size + 1, 1, none⟩ = some (.bool false) := blk_cell hb2 1
 have h2 : W.cell? ⟨w0.heap.size + 1, 2, none⟩ = some (.bool false) := blk_cell hb2 2
 have h3 : W.cell? ⟨w0.heap.size + 1, 3, none⟩ = some (.bool false) := blk_cell hb2 3
 have h4 : W.cell? ⟨w0.heap.size + 1, 4, none⟩ = some (.bool false) := blk_cell hb2 4
 have h5 : W.cell? ⟨w0.heap.size + 1, 5, none⟩ = some (.bool false) := blk_cell hb2 5
 have h6 : W.cell? ⟨w0.heap.size + 1, 6, none⟩ = some (.bool false) := blk_cell hb2 6
 have h7 : W.cell? ⟨w0.heap.size + 1, 7, none⟩ = some (.bool false) := blk_cell hb2 7
 have h8 : W.cell? ⟨w0.heap.size + 1, 8, none⟩ = some (.bool false) := blk_cell hb2 8
 have h9 : W.cell? ⟨w0.heap.size + 1, 9, none⟩ = some (.bool false) := blk_cell hb2 9
 have Z0 := Lib.hid (fun V => grZero_any p.dst ta tc V)
 have Z1 := Lib.hid (fun V => grRest1_any p.a aa ac V)
 have Z2 := Lib.hid (fun V => grRest1_any p.b ba bc V)
 have Z5 := Lib.hid (fun V => grZero_any p.src fa fc V)
 unfold plV at Z0 Z5
 unfold opV at Z1 Z2
 have hArg : ((p.args.length : Int) == 0) = decide (p.args.length = 0) := Bool.eq_iff_iff.2 (by simp)
 have hFn : (p.fn == 0) = decide (p.fn = 0) := Bool.eq_iff_iff.2 (by simp)
 have hSt : (p.st == 0) = decide (p.st = 0) := Bool.eq_iff_iff.2 (by simp)
 have hEl : (p.els == 0) = decide (p.els = 0) := Bool.eq_iff_iff.2 (by simp)
 clear hk hb1 hb2 hW
 unfold restL
 simp only [List.getD_cons_zero, List.getD_cons_succ, Bool.true_or, Bool.false_or]
 generalize zeroB p.dst = z0 at Z0 ⊢
 generalize noneB p.a = z1 at Z1 ⊢
 generalize noneB p.b = z2 at Z2 ⊢
 generalize zeroB p.src = z5 at Z5 ⊢
 obtain ⟨rr, hrr⟩ : ∃ rr, rr = List.all [z0, z1, z2, decide (p.args.length = 0), decide (p.sign.size = 0), z5, !p.mut_, decide (p.fn = 0), decide (p.st = 0), decide (p.els = 0)] id := ⟨_, rfl⟩
 rw [← hrr]
 have HRR := Lib.hid hrr
 clear hrr
 go_enter Tryz.func142, Tryz.ntmps142
 go_upto_region 2 with fail
 rw [← HW.out]
 refine wp_region_rv 74 GK (kindW [(5, (fun v => v = .bool z0), (fun _ _ => True)), (13, (fun v => v = .bool z1), (fun _ _ => True)), (21, (fun v => v = .bool z2), (fun _ _ => True)), (43, (fun v => v = .bool z5), (fun _ _ => True)), (73, RowN W.heap.size 10, RowNAt W.heap.size 10 #[.bool (z0), .bool (z1), .bool (z2), .bool (((p.args.length : Int) == 0)), .bool (p.sign.toList.isEmpty), .bool (z5), .bool (!p.mut_), .bool ((p.fn == 0)), .bool ((p.st == 0)), .bool ((p.els == 0))] 4)]) (by kernel_rfl) (by kernel_rfl) (kb_trans _) (kb_refl _) (kb_start _ _) (kindW_mono _ (by intro p hp; simp only [List.mem_cons, List.not_mem_nil, or_false] at hp; rcases hp with rfl | rfl | rfl | rfl | rfl <;> first | exact lasts_true | exact lasts_rowN _ _ _ _)) ?_
 simp only [pT, pU, pV, pW]
 iterate 3 (refine rv_det (by kernel_rfl) rfl (by intro w hG hH; have hc0 := kc hG (h0); go_simp; first | done | with_reducible rfl) ?_; simp only [Act.put, pA, pZ, pS])
 iterate 2 (refine rv_det (by kernel_rfl) rfl (by intro w hG hH; have hc0 := kc hG (c1); have hc1 := kc hG (c2); go_simp; first | done | with_reducible rfl) ?_; simp only [Act.put, pA, pZ, pS])
 refine rv_rel (by kernel_rfl) rfl ⟨_, rfl⟩ (by
  intro w hG hH
  refine opVal_call (by go_simp; first | done | exact ⟨⟨rfl, rfl⟩, rfl⟩) ?_
  refine (Z0.out _).mono ?_
  rintro e w' ⟨rfl, hq⟩
  exact ⟨_, rfl, rfl, by first | (obtain ⟨nq, rfl⟩ := hq; exact (KB.refl _ _).drewN _) | (subst hq; exact KB.refl _ _) | exact hq, trivial⟩) ?_
 rintro v rfl
 simp only [Act.put, pA, pZ, pS]
 refine rv_det (by kernel_rfl) rfl (by intro w hG hH; have hc0 := kc hG (h0); go_simp; first | done | with_reducible rfl) ?_
 simp only [Act.put, pA, pZ, pS]
 iterate 3 (refine rv_det (by kernel_rfl) rfl (by intro w hG hH; have hc0 := kc hG (h1); go_simp; first | done | with_reducible rfl) ?_; simp only [Act.put, pA, pZ, pS])
 iterate 3 (refine rv_det (by kernel_rfl) rfl (by intro w hG hH; have hc0 := kc hG (c3); have hc1 := kc hG (c4); have hc2 := kc hG (c5); have hc3 := kc hG (c6); go_simp; first | done | with_reducible rfl) ?_; simp only [Act.put, pA, pZ, pS])
 refine rv_rel (by kernel_rfl) rfl ⟨_, rfl⟩ (by
  intro w hG hH
  refine opVal_call (by go_simp; first | done | exact ⟨⟨rfl, rfl⟩, rfl⟩) ?_
  refine (Z1.out _).mono ?_
  rintro e w' ⟨rfl, hq⟩
  exact ⟨_, rfl, rfl, by first | (obtain ⟨nq, rfl⟩ := hq; exact (KB.refl _ _).drewN _) | (subst hq; exact KB.refl _ _) | exact hq, trivial⟩) ?_
 rintro v rfl
 simp only [Act.put, pA, pZ, pS]
 refine rv_det (by kernel_rfl) rfl (by intro w hG hH; have hc0 := kc hG (h1); go_simp; first | done | with_reducible rfl) ?_
 simp only [Act.put, pA, pZ, pS]
 iterate 3 (refine rv_det (by kernel_rfl) rfl (by intro w hG hH; have hc0 := kc hG (h2); go_simp; first | done | with_reducible rfl) ?_; simp only [Act.put, pA, pZ, pS])
 iterate 3 (refine rv_det (by kernel_rfl) rfl (by intro w hG hH; have hc0 := kc hG (c7); have hc1 := kc hG (c8); have hc2 := kc hG (c9); have hc3 := kc hG (c10); go_simp; first | done | with_reducible rfl) ?_; simp only [Act.put, pA, pZ, pS])
 refine rv_rel (by kernel_rfl) rfl ⟨_, rfl⟩ (by
  intro w hG hH
  refine opVal_call (by go_simp; first | done | exact ⟨⟨rfl, rfl⟩, rfl⟩) ?_
  refine (Z2.out _).mono ?_
  rintro e w' ⟨rfl, hq⟩
  exact ⟨_, rfl, rfl, by first | (obtain ⟨nq, rfl⟩ := hq; exact (KB.refl _ _).drewN _) | (subst hq; exact KB.refl _ _) | exact hq, trivial⟩) ?_
 rintro v rfl
 simp only [Act.put, pA, pZ, pS]
 refine rv_det (by kernel_rfl) rfl (by intro w hG hH; have hc0 := kc hG (h2); go_simp; first | done | with_reducible rfl) ?_
 simp only [Act.put, pA, pZ, pS]
 iterate 3 (refine rv_det (by kernel_rfl) rfl (by intro w hG hH; have hc0 := kc hG (h3); go_simp; first | done | with_reducible rfl) ?_; simp only [Act.put, pA, pZ, pS])
 iterate 4 (refine rv_det (by kernel_rfl) rfl (by intro w hG hH; have hc0 := kc hG (c11); go_simp; first | done | with_reducible rfl) ?_; simp only [Act.put, pA, pZ, pS])
 refine rv_det (by kernel_rfl) rfl (by intro w hG hH; have hc0 := kc hG (h3); go_simp; first | done | with_reducible rfl) ?_
 simp only [Act.put, pA, pZ, pS]
 iterate 3 (refine rv_det (by kernel_rfl) rfl (by intro w hG hH; have hc0 := kc hG (h4); go_simp; first | done | with_reducible rfl) ?_; simp only [Act.put, pA, pZ, pS])
 iterate 3 (refine rv_det (by kernel_rfl) rfl (by intro w hG hH; have hc0 := kc hG (c12); go_simp; first | done | with_reducible rfl) ?_; simp only [Act.put, pA, pZ, pS])
 refine rv_det (by kernel_rfl) rfl (by intro w hG hH; have hc0 := kc hG (h4); go_simp; first | done | with_reducible rfl) ?_
 simp only [Act.put, pA, pZ, pS]
 iterate 3 (refine rv_det (by kernel_rfl) rfl (by intro w hG hH; have hc0 := kc hG (h5); go_simp; first | done | with_reducible rfl) ?_; simp only [Act.put, pA, pZ, pS])
 iterate 2 (refine rv_det (by kernel_rfl) rfl (by intro w hG hH; have hc0 := kc hG (c13); have hc1 := kc hG (c14); go_simp; first | done | with_reducible rfl) ?_; simp only [Act.put, pA, pZ, pS])
 refine rv_rel (by kernel_rfl) rfl ⟨_, rfl⟩ (by
  intro w hG hH
  refine opVal_call (by go_simp; first | done | exact ⟨⟨rfl, rfl⟩, rfl⟩) ?_
  refine (Z5.out _).mono ?_
  rintro e w' ⟨rfl, hq⟩
  exact ⟨_, rfl, rfl, by first | (obtain ⟨nq, rfl⟩ := hq; exact (KB.refl _ _).drewN _) | (subst hq; exact KB.refl _ _) | exact hq, trivial⟩) ?_
 rintro v rfl
 simp only [Act.put, pA, pZ, pS]
 refine rv_det (by kernel_rfl) rfl (by intro w hG hH; have hc0 := kc hG (h5); go_simp; first | done | with_reducible rfl) ?_
 simp only [Act.put, pA, pZ, pS]
 iterate 3 (refine rv_det (by kernel_rfl) rfl (by intro w hG hH; have hc0 := kc hG (h6); go_simp; first | done | with_reducible rfl) ?_; simp only [Act.put, pA, pZ, pS])
 iterate 3 (refine rv_det (by kernel_rfl) rfl (by intro w hG hH; have hc0 := kc hG (c15); go_simp; first | done | with_reducible rfl) ?_; simp only [Act.put, pA, pZ, pS])
 refine rv_det (by kernel_rfl) rfl (by intro w hG hH; have hc0 := kc hG (h6); go_simp; first | done | with_reducible rfl) ?_
 simp only [Act.put, pA, pZ, pS]
 iterate 3 (refine rv_det (by kernel_rfl) rfl (by intro w hG hH; have hc0 := kc hG (h7); go_simp; first | done | with_reducible rfl) ?_; simp only [Act.put, pA, pZ, pS])
 iterate 3 (refine rv_det (by kernel_rfl) rfl (by intro w hG hH; have hc0 := kc hG (c16); go_simp; first | done | with_reducible rfl) ?_; simp only [Act.put, pA, pZ, pS])
 refine rv_det (by kernel_rfl) rfl (by intro w hG hH; have hc0 := kc hG (h7); go_simp; first | done | with_reducible rfl) ?_
 simp only [Act.put, pA, pZ, pS]
 iterate 3 (refine rv_det (by kernel_rfl) rfl (by intro w hG hH; have hc0 := kc hG (h8); go_simp; first | done | with_reducible rfl) ?_; simp only [Act.put, pA, pZ, pS])
 iterate 3 (refine rv_det (by kernel_rfl) rfl (by intro w hG hH; have hc0 := kc hG (c17); go_simp; first | done | with_reducible rfl) ?_; simp only [Act.put, pA, pZ, pS])
 refine rv_det (by kernel_rfl) rfl (by intro w hG hH; have hc0 := kc hG (h8); go_simp; first | done | with_reducible rfl) ?_
 simp only [Act.put, pA, pZ, pS]
 iterate 3 (refine rv_det (by kernel_rfl) rfl (by intro w hG hH; have hc0 := kc hG (h9); go_simp; first | done | with_reducible rfl) ?_; simp only [Act.put, pA, pZ, pS])
 iterate 3 (refine rv_det (by kernel_rfl) rfl (by intro w hG hH; have hc0 := kc hG (c19); go_simp; first | done | with_reducible rfl) ?_; simp only [Act.put, pA, pZ, pS])
 refine rv_det (by kernel_rfl) rfl (by intro w hG hH; have hc0 := kc hG (h9); go_simp; first | done | with_reducible rfl) ?_
 simp only [Act.put, pA, pZ, pS]
 refine rv_rel (by kernel_rfl) rfl (rowN_ex _ _) (fun w hG hH => opVal_rowN hG (by go_simp; first | done | rfl)) ?_
 rintro v ⟨nb, rfl, hnb⟩
 simp only [Act.put, pA, pZ, pS]
 refine rv_nil (fun w hG hH => ?_)
 obtain ⟨nb', e1, e2, e3⟩ := hH _ (List.mem_cons_self ..)
 cases e1
 have HR := Lib.hid (ctBool_any [z0, z1, z2, ((p.args.length : Int) == 0), p.sign.toList.isEmpty, z5, !p.mut_, (p.fn == 0), (p.st == 0), (p.els == 0)] (by show (10 : Nat) ≤ 1000000; decide) (some ⟨nb, 0, none⟩) 10 w (bools10 e3))
 have HK := Lib.hid (HB.out.1.trans hG)
 clear hH e2 e3 hG hnb
 clear c1 c2 c3 c4 c5 c6 c7 c8 c9 c10 c11 c12 c13 c14 c15 c16 c17 c19 h0 h1 h2 h3 h4 h5 h6 h7 h8 h9
 go_wp2_with fail
 refine HR.out.mono ?_
 rintro e w9 ⟨rfl, rfl⟩
 go_wp2_with fail
 go_ret
 exact ⟨ret_eq (by rw [HRR.out]; simp [sign_nil]), HK.out⟩
end Go.Proofs.YtaeppaaolkcbbaaGreatDoor

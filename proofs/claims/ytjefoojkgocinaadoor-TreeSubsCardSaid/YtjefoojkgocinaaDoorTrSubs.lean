/- The law TreeSubs. -/
import Derived.Test.YtjefoojkgocinaaDoorTrHeld
import Derived.Test.YtjefoojkgocinaaDoorTrAwake
import Derived.Test.YtjefoojkgocinaaDoorRegTwo
namespace Go.Proofs.YtjefoojkgocinaaDoor
open Go.RowKit

theorem OwnTs.at_ {W : World} {B c n : Nat} {a : Option Addr} {ts : List Nd} {ls : List Value} (h : OwnTs W B (.slice a n c) ts ls) : NodesAt W a ts ∧ ts.length ≤ c ∧ c ≤ 9223372036854775807 := by
  obtain ⟨a', c', e, hn, h1, h2, -⟩ := h.nodes
  simp only [Value.slice.injEq] at e
  obtain ⟨rfl, -, rfl⟩ := e
  unfold maxLen at h2
  exact ⟨hn, h1, by omega⟩
theorem OwnTs.spE {W : World} {B c : Nat} {a : Option Addr} {ts : List Nd} {ls : List Value} (h : OwnTs W B (.slice a ts.length c) ts ls) : ∃ g, 0 < ts.length → SP W B W.heap.size g ts.length ls (fun k => (ts.getD k nd0).l.length) ∧ a = some ⟨g, 0, none⟩ ∧ B ≤ g ∧ g < W.heap.size := by
  by_cases h0 : 0 < ts.length
  · obtain ⟨g, c', e, -⟩ := h.shape h0
    simp only [Value.slice.injEq, true_and] at e
    obtain ⟨rfl, rfl⟩ := e
    exact ⟨g, fun _ => ⟨(h.sp h0).1, rfl, (h.sp h0).2⟩⟩
  · exact ⟨0, fun h => (h0 h).elim⟩

theorem subT_le (ts : List Nd) (n : Int) : (subT ts n).length ≤ ts.length := by
  unfold subT
  split
  · unfold subN; simp; omega
  · exact Nat.zero_le _
theorem subT_ok {ts : List Nd} {n : Int} (hok : ∀ x ∈ ts, NdOk x) : ∀ x ∈ subT ts n, NdOk x := by
  unfold subT
  split
  · rename_i h
    intro x hx
    obtain ⟨y, hy, rfl⟩ := List.mem_map.1 hx
    have hyo := hok y (mem_part hy)
    refine ⟨hyo.k, hyo.at1, hyo.at2, hyo.n1, hyo.n2, hyo.s, fun c hc => ?_⟩
    obtain ⟨c0, hc0, rfl⟩ := List.mem_map.1 hc
    unfold subOk at h
    simp only [Bool.and_eq_true, decide_eq_true_eq] at h
    obtain ⟨hg, hl, -, -⟩ := may_parts h.1.1
    obtain ⟨i, h1, h2, rfl⟩ := kids_of_mem hy
    have := good_down hg i h2 c0 hc0
    omega
  · intro x hx; cases hx
set_option maxRecDepth 100000 in
set_option maxHeartbeats 8000000 in
theorem treeSubs_any (ts us : List Nd) (hok : ∀ x ∈ ts, NdOk x) (hok2 : ∀ x ∈ us, NdOk x) (a b : Option Addr) (ca cb : Nat) (hca : ts.length ≤ ca) (hcam : ca ≤ 9223372036854775807) (hcb : us.length ≤ cb) (hcbm : cb ≤ 9223372036854775807) (n : Int) (hn1 : -9223372036854775808 ≤ n) (hn2 : n ≤ 9223372036854775807) (w : World)
    (h1 : NodesAt w a ts) (h2 : NodesAt w b us) (hT : Tab w) :
    Calls Tryd.prog 4 #[.agg #[.slice a ts.length ca], .agg #[.slice b us.length cb], .int .i64 n] w fun e w' => e = .returned (.bool true) ∧ KB F0 w w' := by
  obtain ⟨w0, rfl⟩ : ∃ w0, w0 = w := ⟨_, rfl⟩
  have F1 := Lib.hid (fun (W : World) (h : KB F0 w0 W) => fits_any ts a ca hca hcam W (h1.kbF h))
  have F2 := Lib.hid (fun (W : World) (h : KB F0 w0 W) => fits_any us b cb hcb hcbm W (h2.kbF h))
  have AW := Lib.hid (fun (W : World) (h : KB F0 w0 W) => awake_any W (hT.kb h))
  have OW := Lib.hid (fun (hb : ts.length ≤ 16392 ∧ ∀ x ∈ ts, x.l.length ≤ 16392) (W : World) (h : KB F0 w0 W) => cown_any ts (by omega) (fun x hx => by have := hb.2 x hx; omega) a ca W (h1.kbF h))
  have HTS := Lib.hid (And.intro h1 (And.intro h2 (And.intro hT (And.intro hok hok2))))
  obtain ⟨N, hN⟩ : ∃ N, N = ts.length := ⟨_, rfl⟩
  obtain ⟨M, hM⟩ : ∃ M, M = us.length := ⟨_, rfl⟩
  rw [← hN] at F1 OW hca ⊢
  rw [← hM] at F2 hcb ⊢
  have HN := Lib.hid (And.intro hN hM)
  have hs1 : (w0.alloc (.cells #[.slice a N ca] 31)).heap.size = w0.heap.size + 1 := by simp
  obtain ⟨W1, hW1⟩ : ∃ W1, W1 = ((w0.alloc (.cells #[.slice a N ca] 31)).alloc (.cells #[.slice b M cb] 31)) := ⟨_, rfl⟩
  have k1 : KB F0 w0 W1 := by rw [hW1]; exact ((KB.refl _ _).alloc _).alloc _
  have h0h : W1.heap[w0.heap.size]? = some (.cells #[.slice a N ca] 31 (0, 0)) := by
    rw [hW1]; exact ((KB.refl F0 _).alloc _).heap (fun x => x) (alloc_new _ _)
  have h1h : W1.heap[w0.heap.size + 1]? = some (.cells #[.slice b M cb] 31 (0, 0)) := by
    rw [hW1, ← hs1]; exact alloc_new _ _
  have H1 := Lib.hid (And.intro k1 (And.intro h0h h1h))
  have HW1 := Lib.hid hW1
  have b0 : W1.cell? ⟨w0.heap.size, 0, none⟩ = some (.slice a N ca) := blk_cell h0h 0
  rw [hW1] at b0
  clear h1 h2 hT hok hok2 hN hM hs1 hW1 k1 h0h h1h
  go_enter Tryd.func4, Tryd.ntmps4
  go_wp2_with fail
  rw [← HW1.out]
  refine (F1.out W1 H1.out.1).mono ?_
  rintro e W2 ⟨f1, rfl, hf1, k2⟩
  have Hf1 := Lib.hid hf1
  have K2 := Lib.hid (H1.out.1.trans k2)
  have h0h := k2.heap (fun x => x) H1.out.2.1
  have h1h := k2.heap (fun x => x) H1.out.2.2
  have b1 : W2.cell? ⟨w0.heap.size + 1, 0, none⟩ = some (.slice b M cb) := blk_cell h1h 0
  have HH2 := Lib.hid (And.intro h0h h1h)
  clear k2 h0h h1h b0 hf1
  cases f1
  case false =>
    go_wp2_with fail
    refine (AW.out W2 K2.out).mono ?_
    rintro e W3 ⟨rfl, k3⟩
    have K3 := Lib.hid (K2.out.trans k3)
    clear k3
    go_wp2
    go_ret
    exact ⟨rfl, K3.out⟩
  go_wp2_with fail
  refine (F2.out W2 K2.out).mono ?_
  rintro e W3 ⟨f2, rfl, hf2, k3⟩
  have Hf2 := Lib.hid hf2
  have K3 := Lib.hid (K2.out.trans k3)
  have h0h := k3.heap (fun x => x) HH2.out.1
  have h1h := k3.heap (fun x => x) HH2.out.2
  have b0 : W3.cell? ⟨w0.heap.size, 0, none⟩ = some (.slice a N ca) := blk_cell h0h 0
  have HH3 := Lib.hid (And.intro h0h h1h)
  clear k3 h0h h1h b1 hf2
  cases f2
  case false =>
    go_wp2_with fail
    refine (AW.out W3 K3.out).mono ?_
    rintro e W4 ⟨rfl, k4⟩
    have K4 := Lib.hid (K3.out.trans k4)
    clear k4
    go_wp2
    go_ret
    exact ⟨rfl, K4.out⟩
  have hbT := Hf1.out (by first | rfl | trivial)
  have hbU := Hf2.out (by first | rfl | trivial)
  have HB := Lib.hid (And.intro hbT hbU)
  go_wp2_with fail
  refine (OW.out HB.out.1 W3 K3.out).mono ?_
  rintro e W4 ⟨v1, ls1, rfl, ho1, k4⟩
  obtain ⟨a1, c1, rfl, -⟩ := ho1.nodes
  rw [← HN.out.1] at ho1
  have K4 := Lib.hid (K3.out.trans k4)
  have SB := Lib.hid (fun (W : World) (h : KB F0 w0 W) (ho : OwnTs W W3.heap.size (.slice a1 N c1) ts ls1) => sub_any ts (by have := HB.out.1.1; have := HN.out.1; omega) HTS.out.2.2.2.1 a1 c1 ho.at_.2.1 n hn1 hn2 W ho.at_.1 (HTS.out.2.2.1.kb h))
  have CS := Lib.hid (fun (W : World) (h : KB F0 w0 W) => csub_any ts (by have := HB.out.1.1; have := HN.out.1; omega) HTS.out.2.2.2.1 a ca n hn1 hn2 W (HTS.out.1.kbF h) (HTS.out.2.2.1.kb h))
  obtain ⟨R, hR⟩ : ∃ R, R = subT ts n := ⟨_, rfl⟩
  obtain ⟨E, hE⟩ : ∃ E, E = subE ts n := ⟨_, rfl⟩
  rw [← HN.out.1, ← hR, ← hE] at SB CS
  have HR := Lib.hid hR
  have h4 := Lib.hid (And.intro ho1 (And.intro (k4.heap (fun x => x) HH3.out.1) (k4.heap (fun x => x) HH3.out.2)))
  have e1 : Value.slice a1 ts.length c1 = .slice a1 N c1 := by rw [HN.out.1]
  rw [e1]
  clear k4 ho1 e1 b0 hR hE
  go_wp2_with fail
  -- the first Sub
  obtain ⟨W5, hW5⟩ : ∃ W5, W5 = W4.alloc (.cells #[.slice a1 N c1] 31) := ⟨_, rfl⟩
  rw [← hW5]
  have kV : KB F0 W4 W5 := by rw [hW5]; exact (KB.refl _ _).alloc _
  have hov : W5.heap[W4.heap.size]? = some (.cells #[.slice a1 N c1] 31 (0, 0)) := by rw [hW5]; exact alloc_new _ _
  obtain ⟨Ov, hOv⟩ : ∃ Ov, Ov = W4.heap.size := ⟨_, rfl⟩
  rw [← hOv] at hov ⊢
  have K5 := Lib.hid (K4.out.trans kV)
  have C5 := Lib.hid kV
  have h5 := Lib.hid (And.intro (h4.out.1.kbF kV) (And.intro (kV.heap (fun x => x) h4.out.2.1) (And.intro (kV.heap (fun x => x) h4.out.2.2) hov)))
  clear hW5 kV hov hOv
  refine (SB.out W5 K5.out h5.out.1).mono ?_
  rintro e W6 ⟨v2, ls2, rfl, ho2, k6⟩
  obtain ⟨a2, c2, rfl, -⟩ := ho2.nodes
  have K6 := Lib.hid (K5.out.trans k6)
  have C6 := Lib.hid (C5.out.trans k6)
  have hs6 : W5.heap.size ≤ W6.heap.size := k6.size
  have h6 := Lib.hid (And.intro (h5.out.1.kbF k6) (And.intro (k6.heap (fun x => x) h5.out.2.1) (And.intro (k6.heap (fun x => x) h5.out.2.2.1) (And.intro (k6.heap (fun x => x) h5.out.2.2.2) ho2))))
  have hov6 : (W6.alloc (.cells #[.slice a2 R.length c2] 31)).cell? ⟨Ov, 0, none⟩ = some (.slice a1 N c1) := blk_cell (((KB.refl F0 W6).alloc _).heap (fun x => x) h6.out.2.2.2.1) 0
  clear ho2 k6
  go_wp2_with fail
  -- the second Sub
  obtain ⟨W7, hW7⟩ : ∃ W7, W7 = W6.alloc (.cells #[.slice a2 R.length c2] 31) := ⟨_, rfl⟩
  rw [← hW7]
  have kV : KB F0 W6 W7 := by rw [hW7]; exact (KB.refl _ _).alloc _
  have hav : W7.heap[W6.heap.size]? = some (.cells #[.slice a2 R.length c2] 31 (0, 0)) := by rw [hW7]; exact alloc_new _ _
  have hs7 : W6.heap.size ≤ W7.heap.size := kV.size
  obtain ⟨Av, hAv⟩ : ∃ Av, Av = W6.heap.size := ⟨_, rfl⟩
  rw [← hAv] at hav ⊢
  have K7 := Lib.hid (K6.out.trans kV)
  have C7 := Lib.hid (C6.out.trans kV)
  have h7 := Lib.hid (And.intro (h6.out.1.kbF kV) (And.intro (kV.heap (fun x => x) h6.out.2.1) (And.intro (kV.heap (fun x => x) h6.out.2.2.1) (And.intro (kV.heap (fun x => x) h6.out.2.2.2.1) (And.intro hav kV)))))
  clear hW7 kV hav hov6
  refine (SB.out W7 K7.out h7.out.1).mono ?_
  rintro e W8 ⟨v3, ls3, rfl, ho3, k8⟩
  obtain ⟨a3, c3, rfl, -⟩ := ho3.nodes
  have K8 := Lib.hid (K7.out.trans k8)
  have C8 := Lib.hid (C7.out.trans k8)
  have h8 := Lib.hid (And.intro (h7.out.1.kbF k8) (And.intro (k8.heap (fun x => x) h7.out.2.1) (And.intro (k8.heap (fun x => x) h7.out.2.2.1) (And.intro (k8.heap (fun x => x) h7.out.2.2.2.1) (And.intro (k8.heap (fun x => x) h7.out.2.2.2.2.1) (And.intro ho3 (h7.out.2.2.2.2.2.trans k8)))))))
  have hb08 : (W8.alloc (.cells #[.slice a3 R.length c3] 31)).cell? ⟨w0.heap.size, 0, none⟩ = some (.slice a N ca) := blk_cell (((KB.refl F0 W8).alloc _).heap (fun x => x) h8.out.2.1) 0
  clear ho3 k8
  go_wp2_with fail
  -- the document's
  obtain ⟨W9, hW9⟩ : ∃ W9, W9 = W8.alloc (.cells #[.slice a3 R.length c3] 31) := ⟨_, rfl⟩
  rw [← hW9]
  have kV : KB F0 W8 W9 := by rw [hW9]; exact (KB.refl _ _).alloc _
  have hbv : W9.heap[W8.heap.size]? = some (.cells #[.slice a3 R.length c3] 31 (0, 0)) := by rw [hW9]; exact alloc_new _ _
  obtain ⟨Bv, hBv⟩ : ∃ Bv, Bv = W8.heap.size := ⟨_, rfl⟩
  rw [← hBv] at hbv ⊢
  have K9 := Lib.hid (K8.out.trans kV)
  have h9 := Lib.hid (And.intro kV hbv)
  clear hW9 kV hbv hb08
  refine (CS.out W9 K9.out).mono ?_
  rintro e W10 ⟨v4, ls4, rfl, ho4, k10⟩
  obtain ⟨a4, c4, rfl, -⟩ := ho4.nodes
  have K10 := Lib.hid (K9.out.trans k10)
  have h10 := Lib.hid (And.intro (h9.out.1.trans k10) (And.intro (k10.heap (fun x => x) h9.out.2) ho4))
  clear ho4 k10
  go_wp2_with fail
  -- the verdict
  obtain ⟨W11, hW11⟩ : ∃ W11, W11 = W10.alloc (.cells #[.slice a4 R.length c4] 31) := ⟨_, rfl⟩
  rw [← hW11]
  have kV : KB F0 W10 W11 := by rw [hW11]; exact (KB.refl _ _).alloc _
  have hwv : W11.heap[W10.heap.size]? = some (.cells #[.slice a4 R.length c4] 31 (0, 0)) := by rw [hW11]; exact alloc_new _ _
  have k811 := h10.out.1.trans kV
  have K11 := Lib.hid (K10.out.trans kV)
  have C11 := Lib.hid (C8.out.trans k811)
  have hpO := k811.heap (fun x => x) h8.out.2.2.2.1
  have hpA := k811.heap (fun x => x) h8.out.2.2.2.2.1
  rw [hAv] at hpA
  have hpB := kV.heap (fun x => x) h10.out.2.1
  rw [hBv] at hpB
  have hpT := k811.heap (fun x => x) h8.out.2.1
  have hpU := k811.heap (fun x => x) h8.out.2.2.1
  have pA : W11.cell? ⟨W6.heap.size, 0, none⟩ = some (.slice a2 R.length c2) := blk_cell hpA 0
  have pB : W11.cell? ⟨W8.heap.size, 0, none⟩ = some (.slice a3 R.length c3) := blk_cell hpB 0
  have pW : W11.cell? ⟨W10.heap.size, 0, none⟩ = some (.slice a4 R.length c4) := blk_cell hwv 0
  have hRok : ∀ x ∈ R, NdOk x := by rw [HR.out]; exact subT_ok HTS.out.2.2.2.1
  have hRl : R.length < 100000000 := by
    have := subT_le ts n
    rw [← HR.out] at this
    have := HB.out.1.1
    have := HN.out.1
    omega
  obtain ⟨ga, hsp⟩ := h6.out.2.2.2.2.spE
  have hA6 := h6.out.2.2.2.2.at_
  have HD : Hid (∀ m, Calls Tryd.prog 13 #[.agg #[.slice a2 R.length c2], .agg #[.slice a3 R.length c3], .agg #[.slice a4 R.length c4]] (W11.drew.drewN m) fun e w' => e = .returned (.bool true) ∧ KB (SE W5.heap.size W6.heap.size) (W11.drew.drewN m) w') := Lib.hid (fun m => by
    have k611 : KB F0 W6 (W11.drew.drewN m) := ((h8.out.2.2.2.2.2.2.trans k811)).drew.drewN m
    exact held_any R hRl hRok W5.heap.size W6.heap.size W7.heap.size W9.heap.size ga c2 c3 c4 a2 a3 a4 ls2 ls3 ls4 _ (W11.drew.drewN m) (fun h0 => ⟨(hsp h0).1.kb k611, (hsp h0).2⟩) hA6.2.1 hA6.2.2 k611.size (hA6.1.kbF k611)
      (h8.out.2.2.2.2.2.1.kbF (k811.drew.drewN m)) (h10.out.2.2.kbF (kV.drew.drewN m)) hs7 (Nat.le_trans (h8.out.2.2.2.2.2.2).size h9.out.1.size))
  have HP := Lib.hid (And.intro hpO (And.intro hpT hpU))
  have hs45 := C5.out.size
  have hE1 : ((E : Int) == (E : Int)) = true := by simp
  have hs5w : w0.heap.size ≤ W5.heap.size := K5.out.size
  have hOlt : Ov < W5.heap.size := heap_lt h5.out.2.2.2
  have hTlt : w0.heap.size + 1 < W5.heap.size := heap_lt h5.out.2.2.1
  clear hW11 kV hwv k811 hpO hpA hpB hpT hpU hRok hsp hA6
  refine wp_region_from (by kernel_rfl) ?_
  refine from_part_rv 12 GQ (kindV []) (by kernel_rfl) (by omega) (by kernel_rfl) GQ.trans GQ.refl (kindV_mono _) ?_
  simp only [List.take_succ_cons, List.take_zero, List.drop_zero]
  iterate 12 (refine rv_det (by kernel_rfl) rfl (by intro w hG hH; obtain ⟨n, rfl⟩ := hG; go_simp; first | done | with_reducible rfl) ?_; simp only [Act.put, List.setIfInBounds_toArray, List.set_cons_zero, List.set_cons_succ])
  refine rv_nil (fun w hG hH => ?_)
  obtain ⟨m, rfl⟩ := hG
  clear hH
  refine from_call (some 55) (by kernel_rfl) (by kernel_rfl) (by kernel_rfl) rfl rfl (by kernel_rfl) (by go_simp; exact ⟨rfl, rfl⟩) ?_
  refine (HD.out m).mono ?_
  rintro e W13 ⟨rfl, k13⟩
  refine ⟨_, rfl, ?_⟩
  simp only [Act.put, List.setIfInBounds_toArray, List.set_cons_zero, List.set_cons_succ]
  have kS : KB (SE W5.heap.size W6.heap.size) W11 W13 := (((KB.refl _ _).drew.drewN m)).trans k13
  have K13 := Lib.hid (K11.out.above kS (fun k hk => by have := hk.1; omega))
  have C13 := Lib.hid ((C11.out.mono (fun _ _ x => x.elim)).trans kS)
  have hO13 := kS.heap (fun h => by have := h.1; omega) HP.out.1
  have hT13 := kS.heap (fun h => by have := h.1; omega) HP.out.2.1
  have hU13 := kS.heap (fun h => by have := h.1; omega) HP.out.2.2
  have ho13 : OwnTs W13 W3.heap.size (.slice a1 N c1) ts ls1 := h4.out.1.kb C13.out (fun g _ h2 h3 => by have := h3.1; omega)
  have hl1 : ts.length < 100000000 := by have := HB.out.1.1; have := HN.out.1; omega
  have hl2 : us.length < 100000000 := by have := HB.out.2.1; have := HN.out.2; omega
  have EQ := Lib.hid (fun (W : World) (h : KB F0 W13 W) => (eqT_refl true ts) ▸ cequal_any ts ts true hl1 HTS.out.2.2.2.1 HTS.out.2.2.2.1 a1 a c1 ca W (ho13.kbF h).at_.1 (HTS.out.1.kbF (K13.out.trans h)))
  have S1 := Lib.hid (fun (W : World) (h : KB F0 W13 W) => same_any ts us hl1 hl2 HTS.out.2.2.2.1 HTS.out.2.2.2.2 a b ca cb W (HTS.out.1.kbF (K13.out.trans h)) (HTS.out.2.1.kbF (K13.out.trans h)) (HTS.out.2.2.1.kb (K13.out.trans h)))
  have S2 := Lib.hid (fun (W : World) (h : KB F0 W13 W) => csame_any ts us hl1 hl2 HTS.out.2.2.2.1 HTS.out.2.2.2.2 a b ca cb W (HTS.out.1.kbF (K13.out.trans h)) (HTS.out.2.1.kbF (K13.out.trans h)) (HTS.out.2.2.1.kb (K13.out.trans h)))
  rw [← HN.out.1] at EQ S1 S2
  rw [← HN.out.2] at S1 S2
  have A2 := Lib.hid (fun (W : World) (h : KB F0 W13 W) => AW.out W (K13.out.trans h))
  generalize sameN ts us = s at S1 S2
  have hss : (s == s) = true := by cases s <;> rfl
  have R0 : ∀ w, GK W13 w → w.cell? ⟨Ov, 0, none⟩ = some (.slice a1 N c1) := fun w hG => blk_cell (hG.heap (fun x => x) hO13) 0
  have R1 : ∀ w, GK W13 w → w.cell? ⟨w0.heap.size, 0, none⟩ = some (.slice a N ca) := fun w hG => blk_cell (hG.heap (fun x => x) hT13) 0
  have R2 : ∀ w, GK W13 w → w.cell? ⟨w0.heap.size + 1, 0, none⟩ = some (.slice b M cb) := fun w hG => blk_cell (hG.heap (fun x => x) hU13) 0
  clear kS k13 hO13 hT13 hU13 ho13 pA pB pW
  refine from_part_rv 32 GK (kindW [(17, fun v => v = .bool true, fun _ _ => True), (22, fun v => v = .bool s, fun _ _ => True), (25, fun v => v = .bool s, fun _ _ => True), (29, fun v => v = .bool true, fun _ _ => True)]) (by kernel_rfl) (by omega) (by kernel_rfl) (kb_trans _) (kb_refl _) (kindW_mono _ (by
    intro p hp; simp only [List.mem_cons, List.not_mem_nil, or_false] at hp
    rcases hp with rfl | rfl | rfl | rfl <;> exact lasts_true)) ?_
  simp only [List.take_succ_cons, List.take_zero, List.drop_succ_cons, List.drop_zero]
  iterate 4 (refine rv_det (by kernel_rfl) rfl (by intro w hG hH; have hc0 := R0 w hG; have hc1 := R1 w hG; have hc2 := R2 w hG; go_simp; first | done | with_reducible rfl) ?_; simp only [Act.put, List.setIfInBounds_toArray, List.set_cons_zero, List.set_cons_succ])
  refine rv_rel (by kernel_rfl) rfl ⟨_, rfl⟩ (by
    intro w hG hH
    refine opVal_call (by go_simp; first | done | exact ⟨⟨rfl, rfl⟩, rfl⟩) ?_
    refine (EQ.out w hG).mono ?_
    rintro e w' ⟨rfl, hq⟩
    exact ⟨_, rfl, rfl, hq, trivial⟩) ?_
  rintro v rfl
  simp only [Act.put, List.setIfInBounds_toArray, List.set_cons_zero, List.set_cons_succ]
  iterate 4 (refine rv_det (by kernel_rfl) rfl (by intro w hG hH; have hc0 := R0 w hG; have hc1 := R1 w hG; have hc2 := R2 w hG; go_simp; first | done | with_reducible rfl) ?_; simp only [Act.put, List.setIfInBounds_toArray, List.set_cons_zero, List.set_cons_succ])
  refine rv_rel (by kernel_rfl) rfl ⟨_, rfl⟩ (by
    intro w hG hH
    refine opVal_call (by go_simp; first | done | exact ⟨⟨rfl, rfl⟩, rfl⟩) ?_
    refine (S1.out w hG).mono ?_
    rintro e w' ⟨rfl, hq⟩
    exact ⟨_, rfl, rfl, hq, trivial⟩) ?_
  rintro v rfl
  simp only [Act.put, List.setIfInBounds_toArray, List.set_cons_zero, List.set_cons_succ]
  iterate 2 (refine rv_det (by kernel_rfl) rfl (by intro w hG hH; have hc0 := R0 w hG; have hc1 := R1 w hG; have hc2 := R2 w hG; go_simp; first | done | with_reducible rfl) ?_; simp only [Act.put, List.setIfInBounds_toArray, List.set_cons_zero, List.set_cons_succ])
  refine rv_rel (by kernel_rfl) rfl ⟨_, rfl⟩ (by
    intro w hG hH
    refine opVal_call (by go_simp; first | done | exact ⟨⟨rfl, rfl⟩, rfl⟩) ?_
    refine (S2.out w hG).mono ?_
    rintro e w' ⟨rfl, hq⟩
    exact ⟨_, rfl, rfl, hq, trivial⟩) ?_
  rintro v rfl
  simp only [Act.put, List.setIfInBounds_toArray, List.set_cons_zero, List.set_cons_succ]
  iterate 3 (refine rv_det (by kernel_rfl) rfl (by intro w hG hH; have hc0 := R0 w hG; have hc1 := R1 w hG; have hc2 := R2 w hG; go_simp; first | done | with_reducible rfl) ?_; simp only [Act.put, List.setIfInBounds_toArray, List.set_cons_zero, List.set_cons_succ])
  refine rv_rel (by kernel_rfl) rfl ⟨_, rfl⟩ (by
    intro w hG hH
    refine opVal_call (by go_simp; first | done | exact ⟨⟨rfl, rfl⟩, rfl⟩) ?_
    refine (A2.out w hG).mono ?_
    rintro e w' ⟨rfl, hq⟩
    exact ⟨_, rfl, rfl, hq, trivial⟩) ?_
  rintro v rfl
  simp only [Act.put, List.setIfInBounds_toArray, List.set_cons_zero, List.set_cons_succ]
  iterate 2 (refine rv_det (by kernel_rfl) rfl (by intro w hG hH; have hc0 := R0 w hG; have hc1 := R1 w hG; have hc2 := R2 w hG; go_simp; first | done | with_reducible rfl) ?_; simp only [Act.put, List.setIfInBounds_toArray, List.set_cons_zero, List.set_cons_succ])
  refine rv_nil (fun w hG hH => ?_)
  have KF := Lib.hid (K13.out.trans hG)
  clear hG hH R0 R1 R2
  refine from_end' (by kernel_rfl) (by kernel_rfl) ?_
  go_wp2_with fail
  go_ret
  exact ⟨rfl, KF.out⟩
end Go.Proofs.YtjefoojkgocinaaDoor

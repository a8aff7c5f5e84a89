/- loanwordlaw05.PrintTells: the walk (draft). -/
import Derived.Test.YtoophdcagpfmpaaGreatDoorMg45
import Derived.Test.YtoophdcagpfmpaaGreatDoorMg46
import Derived.Test.YtoophdcagpfmpaaGreatDoorTrEqA
namespace Go.Proofs.YtoophdcagpfmpaaGreatDoor
open Go.RowKit

set_option maxRecDepth 100000 in
set_option maxHeartbeats 16000000 in
theorem tells_any (ts : List Nd) (hok : ∀ x ∈ ts, NdOk x) (a : Option Addr) (cap : Nat) (hcap : ts.length ≤ cap) (hcm : cap ≤ 9223372036854775807) (n : Int) (hn : -9223372036854775808 ≤ n ∧ n ≤ 9223372036854775807) (w : World) (hts : NodesAt w a ts) (hT : PT w) :
    Calls Tryz.prog 3 #[.agg #[.slice a ts.length cap], .int .i64 n] w fun e w' => e = .returned (.bool true) ∧ KB F0 w w' := by
  obtain ⟨w0, rfl⟩ : ∃ w0, w0 = w := ⟨_, rfl⟩
  obtain ⟨W1, hW1⟩ : ∃ W1, W1 = w0.alloc (.cells #[.slice a ts.length cap] 24) := ⟨_, rfl⟩
  have k1 : KB F0 w0 W1 := by rw [hW1]; exact tree_box _ _ _ _
  have hb1 : W1.heap[w0.heap.size]? = some (.cells #[.slice a ts.length cap] 24 (0, 0)) := by rw [hW1]; exact alloc_new _ _
  have FT := Lib.hid (fits5_any ts a cap hcap hcm W1 (hts.kbF k1))
  have AW := Lib.hid (fun (W : World) (hk : KB F0 w0 W) => awake5_any W (hT.kb hk))
  have HB := Lib.hid (And.intro k1 hb1)
  have HW := Lib.hid hW1
  have HH := Lib.hid (And.intro hts (And.intro hT hok))
  clear hcap hcm hts hT hok k1 hb1 hW1
  go_enter Tryz.func3, Tryz.ntmps3
  go_wp2_with fail
  rw [← HW.out]
  refine FT.out.mono ?_
  rintro e w2 ⟨f, rfl, hf, k2⟩
  cases f
  case false =>
    have K2 := Lib.hid (HB.out.1.trans k2)
    clear k2 hf
    go_wp2_with fail
    refine (AW.out w2 K2.out).mono ?_
    rintro e w3 ⟨rfl, k3⟩
    have K3 := Lib.hid (K2.out.trans k3)
    clear k3
    go_wp2_with fail
    go_ret
    exact ⟨rfl, K3.out⟩
  case true =>
    have hf2 := hf rfl
    have OW := Lib.hid (fun (W : World) (hk : KB F0 w0 W) => cown_any ts (by omega) (fun x hx => by have := hf2.2 x hx; omega) a cap W (HH.out.1.kbF hk))
    have c0 : w2.cell? ⟨w0.heap.size, 0, none⟩ = some (.slice a ts.length cap) := blk_cell (k2.heap (fun x => x) HB.out.2) 0
    have K2 := Lib.hid (And.intro (HB.out.1.trans k2) (k2.heap (fun x => x) HB.out.2))
    have HF := Lib.hid hf2
    clear k2 hf hf2 AW
    go_wp2_with fail
    refine (OW.out w2 K2.out.1).mono ?_
    rintro e w3 ⟨v, ls, rfl, hown, k3⟩
    obtain ⟨a2, c2, rfl, hn2, h21, h22, -⟩ := hown.nodes
    have hlt := show ts.length < 100000000 by have := HF.out.1; omega
    obtain ⟨W4, hW4⟩ : ∃ W4, W4 = w3.alloc (.cells #[.slice a2 ts.length c2] 24) := ⟨_, rfl⟩
    have k4 : KB F0 w0 W4 := by rw [hW4]; exact (K2.out.1.trans k3).alloc _
    have hb4 : W4.heap[w3.heap.size]? = some (.cells #[.slice a2 ts.length c2] 24 (0, 0)) := by rw [hW4]; exact alloc_new _ _
    have k34 : KB F0 w3 W4 := by rw [hW4]; exact (KB.refl _ _).alloc _
    have K4 := Lib.hid (And.intro k4 (And.intro hb4 (And.intro (hn2.kbF k34) ((k3.trans k34).heap (fun x => x) K2.out.2))))
    have PF := Lib.hid (fun (W : World) (hk : KB F0 W4 W) => pfile_any ts hlt HH.out.2.2 a2 c2 W (K4.out.2.2.1.kbF hk) (HH.out.2.1.kb (K4.out.1.trans hk)))
    have PE := Lib.hid (fun (W : World) (hk : KB F0 W4 W) => pexpr_any ts hlt HH.out.2.2 a2 c2 W (K4.out.2.2.1.kbF hk) (HH.out.2.1.kb (K4.out.1.trans hk)))
    have PY := Lib.hid (fun (W : World) (hk : KB F0 W4 W) => ptype_any ts hlt HH.out.2.2 a2 c2 W (K4.out.2.2.1.kbF hk) (HH.out.2.1.kb (K4.out.1.trans hk)))
    have RF := Lib.hid (fun (W : World) (hk : KB F0 W4 W) => rfile_any ts hlt HH.out.2.2 a cap W (HH.out.1.kbF (K4.out.1.trans hk)) (HH.out.2.1.kb (K4.out.1.trans hk)))
    have RE := Lib.hid (fun (W : World) (hk : KB F0 W4 W) => rexprP_any ts hlt HH.out.2.2 a cap W (HH.out.1.kbF (K4.out.1.trans hk)) (HH.out.2.1.kb (K4.out.1.trans hk)))
    have RY := Lib.hid (fun (W : World) (hk : KB F0 W4 W) => rtypeP_any ts hlt HH.out.2.2 a cap W (HH.out.1.kbF (K4.out.1.trans hk)) (HH.out.2.1.kb (K4.out.1.trans hk)))
    generalize fileP ts = RFi at PF RF
    generalize exprP ts = REx at PE RE
    generalize typeP ts = RTy at PY RY
    have HW4 := Lib.hid hW4
    have HO := Lib.hid hown
    clear hown hn2 h21 h22 k3 k4 hb4 k34 hW4 OW c0 FT
    obtain ⟨F1, F2⟩ := RFi
    obtain ⟨E1, E2⟩ := REx
    obtain ⟨Y1, Y2⟩ := RTy
    simp only at PF RF PE RE PY RY
    go_wp2_with fail
    rw [← HW4.out]
    refine (PF.out W4 (KB.refl _ _)).mono ?_
    rintro e w5 ⟨rfl, k5⟩
    have e5 : w5.cell? ⟨w3.heap.size, 0, none⟩ = some (.slice a2 ts.length c2) := blk_cell (k5.heap (fun x => x) K4.out.2.1) 0
    have K5 := Lib.hid k5
    clear k5
    go_wp2_with fail
    refine (PE.out w5 K5.out).mono ?_
    rintro e w6 ⟨rfl, k6⟩
    have e6 := k6.cell (p := ⟨w3.heap.size, 0, none⟩) (fun x => x) e5
    have K6 := Lib.hid (K5.out.trans k6)
    clear k6 e5
    go_wp2_with fail
    refine (PY.out w6 K6.out).mono ?_
    rintro e w7 ⟨rfl, k7⟩
    have e7 := k7.cell (p := ⟨w3.heap.size, 0, none⟩) (fun x => x) e6
    have K7 := Lib.hid (K6.out.trans k7)
    have c7 : w7.cell? ⟨w0.heap.size, 0, none⟩ = some (.slice a ts.length cap) := blk_cell ((K6.out.trans k7).heap (fun x => x) K4.out.2.2.2) 0
    clear k7 e6
    go_wp2_with fail
    refine (RF.out w7 K7.out).mono ?_
    rintro e w8 ⟨rfl, k8⟩
    have c8 := k8.cell (p := ⟨w0.heap.size, 0, none⟩) (fun x => x) c7
    have K8 := Lib.hid (K7.out.trans k8)
    clear k8 c7
    go_wp2_with fail
    refine (RE.out w8 K8.out).mono ?_
    rintro e w9 ⟨rfl, k9⟩
    have c9 := k9.cell (p := ⟨w0.heap.size, 0, none⟩) (fun x => x) c8
    have K9 := Lib.hid (K8.out.trans k9)
    clear k9 c8
    go_wp2_with fail
    refine (RY.out w9 K9.out).mono ?_
    rintro e w10 ⟨rfl, k10⟩
    have c10 := k10.cell (p := ⟨w0.heap.size, 0, none⟩) (fun x => x) c9
    have K10 := Lib.hid (K9.out.trans k10)
    have e10 : w10.cell? ⟨w3.heap.size, 0, none⟩ = some (.slice a2 ts.length c2) := blk_cell (K10.out.heap (fun x => x) K4.out.2.1) 0
    clear k10 c9 e7
    have PL := Lib.hid (fun (W : World) (hk : KB F0 W4 W) => plines_any ts hlt HH.out.2.2 a2 c2 W (K4.out.2.2.1.kbF hk) (HH.out.2.1.kb (K4.out.1.trans hk)))
    have RL := Lib.hid (fun (W : World) (hk : KB F0 W4 W) => rlines_any ts hlt HH.out.2.2 a cap W (HH.out.1.kbF (K4.out.1.trans hk)) (HH.out.2.1.kb (K4.out.1.trans hk)))
    go_wp2_with fail
    refine (PL.out w10 K10.out).mono ?_
    rintro e w11 ⟨v1, rfl, o1, k11⟩
    have c11 := k11.cell (p := ⟨w0.heap.size, 0, none⟩) (fun x => x) c10
    have K11 := Lib.hid (And.intro (K10.out.trans k11) o1)
    clear k11 o1 c10 e10
    go_wp2_with fail
    refine (RL.out w11 K11.out.1).mono ?_
    rintro e w12 ⟨v2, rfl, o2, k12⟩
    have K12 := Lib.hid (And.intro (K11.out.1.trans k12) (And.intro (own_kb K11.out.2 k12 (fun _ _ x => x)) o2))
    clear k12 o2 c11
    generalize linesP ts = LP at K12
    obtain ⟨LL, L2⟩ := LP
    simp only at K12
    obtain ⟨x1, y1, rfl, hy1, hy2, hc1, -⟩ := own_shape K12.out.2.1
    unfold maxLen at hy2
    have hLm : LL.length ≤ 9223372036854775807 := by omega
    clear hy1 hy2
    obtain ⟨x2, y2, rfl, -, -, hc2, -⟩ := own_shape K12.out.2.2
    have HC1 := Lib.hid hc1
    have HC2 := Lib.hid hc2
    clear hc1 hc2
    go_wp2_with fail
    obtain ⟨NL, hNL⟩ : ∃ NL, NL = LL.length := ⟨_, rfl⟩
    rw [← hNL] at HC1 HC2 hLm ⊢
    have HNL := Lib.hid hNL
    clear hNL
    go_loopw [17] (fun kv wr => ∃ k : Nat, k ≤ NL ∧ kv = .int .i64 (k : Nat) ∧ Hid (KB F0 w12 wr)) (fun kv _ => NL - (intOf kv).toNat)
    case atStart => exact ⟨0, by omega, rfl, Lib.hid (KB.refl _ _)⟩
    case round =>
      obtain ⟨k, hk, rfl, hst⟩ := hrel
      by_cases hltk : k < NL
      · have hkM : (k : Int) < (NL : Int) := by omega
        obtain ⟨g1, rfl, -, hz1⟩ := HC1.out k (by omega)
        obtain ⟨g2, rfl, -, hz2⟩ := HC2.out k (by omega)
        have hkL : k < LL.length := by rw [← HNL.out]; exact hltk
        rw [List.getElem?_map, List.getElem?_eq_getElem hkL] at hz1 hz2
        change _ = some (Value.string _) at hz1
        change _ = some (Value.string _) at hz2
        generalize LL[k]'hkL = x at hz1 hz2
        have d1 := hst.out.cell (p := ⟨g1, k, none⟩) (fun x => x) hz1
        have d2 := hst.out.cell (p := ⟨g2, k, none⟩) (fun x => x) hz2
        clear hz1 hz2 hkL
        go_wp2_with fail
        refine wp_region_rv 9 GK (kindW []) (by kernel_rfl) (by kernel_rfl) (kb_trans _) (kb_refl _) (kb_start _ _) (kindW_mono _ (by intro p hp; cases hp)) ?_
        simp only [List.take_succ_cons, List.take_zero, List.drop_succ_cons, List.drop_zero]
        iterate 9 (refine rv_det (by kernel_rfl) rfl (by intro w hG hH; have hc0 := KB.cell hG (fun x => x) (d1); have hc1 := KB.cell hG (fun x => x) (d2); go_simp; first | done | with_reducible rfl) ?_; simp only [Act.put, List.setIfInBounds_toArray, List.set_cons_zero, List.set_cons_succ])
        refine rv_nil (fun w hG hH => ?_)
        have H1 := Lib.hid (hst.out.trans hG)
        clear hG hH d1 d2
        go_wp2_with fail
        go_roundw
        case rel => exact ⟨k + 1, by omega, by go_num, H1⟩
        case measure => simp [intOf]; omega
      · obtain rfl : k = NL := by omega
        have e13 : wr.cell? ⟨w3.heap.size, 0, none⟩ = some (.slice a2 ts.length c2) := blk_cell ((K12.out.1.trans hst.out).heap (fun x => x) K4.out.2.1) 0
        have c13 : wr.cell? ⟨w0.heap.size, 0, none⟩ = some (.slice a ts.length cap) := blk_cell ((K12.out.1.trans hst.out).heap (fun x => x) K4.out.2.2.2) 0
        -- TAIL
        have KW := Lib.hid ((show KB F0 W4 w12 from K12.out.1).trans hst.out)
        have PV := Lib.hid (fun (W : World) (hk : KB F0 W4 W) => plevel_any ts hlt HH.out.2.2 a2 c2 n W (K4.out.2.2.1.kbF hk) (HH.out.2.1.kb (K4.out.1.trans hk)))
        have MY := Lib.hid (fun (W : World) (hk : KB F0 W4 W) => cmay_any ts hlt HH.out.2.2 a cap W (HH.out.1.kbF (K4.out.1.trans hk)) (HH.out.2.1.kb (K4.out.1.trans hk)).asc)
        have AW := Lib.hid (fun (W : World) (hk : KB F0 w0 W) => awake5_any W (HH.out.2.1.kb hk))
        have EQ := Lib.hid (fun (W : World) (hk : KB F0 W4 W) => (show eqT true ts ts = true from eqT_step rfl (fun _ _ => eqP_true_of rfl rfl rfl rfl (fun _ => rfl))) ▸ cequal_any ts ts true hlt HH.out.2.2 HH.out.2.2 a2 a c2 cap W (K4.out.2.2.1.kbF hk) (HH.out.1.kbF (K4.out.1.trans hk)))
        have HLV : Hid (levelP ts n = if (mayN ts && decide (0 ≤ n) && decide (n < (ts.length : Int)) && isExprB (ts.getD n.toNat nd0).k) = true then (lvP (ts.getD n.toNat nd0).k (ts.getD n.toNat nd0).s, 0) else (0, 2)) := Lib.hid rfl
        generalize levelP ts n = R at PV HLV
        generalize mayN ts = mm at MY HLV
        clear hst hlt hltk
        cases mm
        case false =>
          obtain rfl : R = (0, 2) := HLV.out
          go_wp2_with fail
          refine (PV.out wr KW.out).mono ?_
          rintro e w14 ⟨rfl, k14⟩
          have c14 := k14.cell (p := ⟨w0.heap.size, 0, none⟩) (fun x => x) c13
          have e14 := k14.cell (p := ⟨w3.heap.size, 0, none⟩) (fun x => x) e13
          have K14 := Lib.hid (KW.out.trans k14)
          clear k14 c13 e13
          go_wp2_with fail
          refine (MY.out w14 K14.out).mono ?_
          rintro e w15 ⟨rfl, k15⟩
          have c15 := k15.cell (p := ⟨w0.heap.size, 0, none⟩) (fun x => x) c14
          have e15 := k15.cell (p := ⟨w3.heap.size, 0, none⟩) (fun x => x) e14
          have K15 := Lib.hid (K14.out.trans k15)
          clear k15 c14 e14
          go_wp2_with fail
          refine (EQ.out w15 K15.out).mono ?_
          rintro e w18 ⟨rfl, k18⟩
          have K18 := Lib.hid (K15.out.trans k18)
          clear k18
          go_wp2_with fail
          refine (AW.out w18 (K4.out.1.trans K18.out)).mono ?_
          rintro e w19 ⟨rfl, k19⟩
          have K19 := Lib.hid (K18.out.trans k19)
          clear k19
          go_wp2_with fail
          go_ret
          exact ⟨rfl, K4.out.1.trans K19.out⟩
        case true =>
          by_cases h1 : n < 0
          · obtain rfl : R = (0, 2) := by rw [HLV.out, show decide (0 ≤ n) = false from decide_eq_false (by omega)]; rfl
            have t1 : decide (n < 0) = true := decide_eq_true h1
            go_wp2_with fail
            refine (PV.out wr KW.out).mono ?_
            rintro e w14 ⟨rfl, k14⟩
            have c14 := k14.cell (p := ⟨w0.heap.size, 0, none⟩) (fun x => x) c13
            have e14 := k14.cell (p := ⟨w3.heap.size, 0, none⟩) (fun x => x) e13
            have K14 := Lib.hid (KW.out.trans k14)
            clear k14 c13 e13
            go_wp2_with fail
            refine (MY.out w14 K14.out).mono ?_
            rintro e w15 ⟨rfl, k15⟩
            have c15 := k15.cell (p := ⟨w0.heap.size, 0, none⟩) (fun x => x) c14
            have e15 := k15.cell (p := ⟨w3.heap.size, 0, none⟩) (fun x => x) e14
            have K15 := Lib.hid (K14.out.trans k15)
            clear k15 c14 e14
            go_wp2_with fail
            refine (EQ.out w15 K15.out).mono ?_
            rintro e w18 ⟨rfl, k18⟩
            have K18 := Lib.hid (K15.out.trans k18)
            clear k18
            go_wp2_with fail
            refine (AW.out w18 (K4.out.1.trans K18.out)).mono ?_
            rintro e w19 ⟨rfl, k19⟩
            have K19 := Lib.hid (K18.out.trans k19)
            clear k19
            go_wp2_with fail
            go_ret
            exact ⟨rfl, K4.out.1.trans K19.out⟩
          have t1 : decide (n < 0) = false := decide_eq_false h1
          obtain ⟨m, rfl⟩ := Int.eq_ofNat_of_zero_le (show 0 ≤ n by omega)
          have t1 : decide ((m : Int) < 0) = false := t1
          by_cases h2 : ts.length ≤ m
          · obtain rfl : R = (0, 2) := by rw [HLV.out, show decide ((m : Int) < (ts.length : Int)) = false from decide_eq_false (by omega), Bool.and_false]; rfl
            have t2 : decide (ts.length ≤ m) = true := decide_eq_true h2
            go_wp2_with fail
            refine (PV.out wr KW.out).mono ?_
            rintro e w14 ⟨rfl, k14⟩
            have c14 := k14.cell (p := ⟨w0.heap.size, 0, none⟩) (fun x => x) c13
            have e14 := k14.cell (p := ⟨w3.heap.size, 0, none⟩) (fun x => x) e13
            have K14 := Lib.hid (KW.out.trans k14)
            clear k14 c13 e13
            go_wp2_with fail
            refine (MY.out w14 K14.out).mono ?_
            rintro e w15 ⟨rfl, k15⟩
            have c15 := k15.cell (p := ⟨w0.heap.size, 0, none⟩) (fun x => x) c14
            have e15 := k15.cell (p := ⟨w3.heap.size, 0, none⟩) (fun x => x) e14
            have K15 := Lib.hid (K14.out.trans k15)
            clear k15 c14 e14
            go_wp2_with fail
            refine (EQ.out w15 K15.out).mono ?_
            rintro e w18 ⟨rfl, k18⟩
            have K18 := Lib.hid (K15.out.trans k18)
            clear k18
            go_wp2_with fail
            refine (AW.out w18 (K4.out.1.trans K18.out)).mono ?_
            rintro e w19 ⟨rfl, k19⟩
            have K19 := Lib.hid (K18.out.trans k19)
            clear k19
            go_wp2_with fail
            go_ret
            exact ⟨rfl, K4.out.1.trans K19.out⟩
          have t2 : decide (ts.length ≤ m) = false := decide_eq_false h2
          have hmi : m < ts.length := by omega
          have hmN : (m : Int) < (ts.length : Int) := by omega
          have HR := HLV.out
          rw [show decide ((0 : Int) ≤ (m : Int)) = true from decide_eq_true (by omega), show decide ((m : Int) < (ts.length : Int)) = true from decide_eq_true (by omega), Int.toNat_natCast] at HR
          obtain ⟨b, off, rfl, hx⟩ := HH.out.1 m hmi
          have hxk := HH.out.2.2 _ (getD_memN hmi)
          generalize ts.getD m nd0 = x at hx HR hxk
          obtain ⟨la, lc, hl4, -, -, -⟩ := hx.l
          obtain ⟨kk, at_, z, s, l⟩ := x
          simp only at HR hl4
          have RV := Lib.hid (fun (W : World) => rlevel_any kk at_ z s la l.length lc W)
          have IE := Lib.hid (fun (W : World) => cisExpr_any kk W)
          have HX := Lib.hid hx
          have HL4 := Lib.hid hl4
          have HR2 := Lib.hid HR
          generalize isExprB kk = ie at IE HR2
          generalize lvP kk s = lv at RV HR2
          generalize l.length = M at HL4 RV
          clear HR hx hl4 hxk h1 h2 hmi HLV
          cases ie
          case false =>
            obtain rfl : R = (0, 2) := HR2.out
            go_wp2_with fail
            refine (PV.out wr KW.out).mono ?_
            rintro e w14 ⟨rfl, k14⟩
            have c14 := k14.cell (p := ⟨w0.heap.size, 0, none⟩) (fun x => x) c13
            have e14 := k14.cell (p := ⟨w3.heap.size, 0, none⟩) (fun x => x) e13
            have K14 := Lib.hid (KW.out.trans k14)
            clear k14 c13 e13
            go_wp2_with fail
            refine (MY.out w14 K14.out).mono ?_
            rintro e w15 ⟨rfl, k15⟩
            have c15 := k15.cell (p := ⟨w0.heap.size, 0, none⟩) (fun x => x) c14
            have e15 := k15.cell (p := ⟨w3.heap.size, 0, none⟩) (fun x => x) e14
            have K15 := Lib.hid (K14.out.trans k15)
            clear k15 c14 e14
            have ck : w15.cell? ⟨b, off + m * 5, none⟩ = some (.int .u8 kk) := (K4.out.1.trans K15.out).cell (p := ⟨b, off + m * 5, none⟩) (fun x => x) HX.out.k
            go_wp2_with fail
            refine (IE.out w15).mono ?_
            rintro e w16 ⟨rfl, rfl⟩
            go_wp2_with fail
            refine (EQ.out w15 K15.out).mono ?_
            rintro e w18 ⟨rfl, k18⟩
            have K18 := Lib.hid (K15.out.trans k18)
            clear k18
            go_wp2_with fail
            refine (AW.out w18 (K4.out.1.trans K18.out)).mono ?_
            rintro e w19 ⟨rfl, k19⟩
            have K19 := Lib.hid (K18.out.trans k19)
            clear k19
            go_wp2_with fail
            go_ret
            exact ⟨rfl, K4.out.1.trans K19.out⟩
          case true =>
            obtain rfl : R = (lv, 0) := HR2.out
            go_wp2_with fail
            refine (PV.out wr KW.out).mono ?_
            rintro e w14 ⟨rfl, k14⟩
            have c14 := k14.cell (p := ⟨w0.heap.size, 0, none⟩) (fun x => x) c13
            have e14 := k14.cell (p := ⟨w3.heap.size, 0, none⟩) (fun x => x) e13
            have K14 := Lib.hid (KW.out.trans k14)
            clear k14 c13 e13
            go_wp2_with fail
            refine (MY.out w14 K14.out).mono ?_
            rintro e w15 ⟨rfl, k15⟩
            have c15 := k15.cell (p := ⟨w0.heap.size, 0, none⟩) (fun x => x) c14
            have e15 := k15.cell (p := ⟨w3.heap.size, 0, none⟩) (fun x => x) e14
            have K15 := Lib.hid (K14.out.trans k15)
            clear k15 c14 e14
            have ck : w15.cell? ⟨b, off + m * 5, none⟩ = some (.int .u8 kk) := (K4.out.1.trans K15.out).cell (p := ⟨b, off + m * 5, none⟩) (fun x => x) HX.out.k
            go_wp2_with fail
            refine (IE.out w15).mono ?_
            rintro e w16 ⟨rfl, rfl⟩
            have ca : w15.cell? ⟨b, off + m * 5 + 1, none⟩ = some (.int .i64 at_) := (K4.out.1.trans K15.out).cell (p := ⟨b, off + m * 5 + 1, none⟩) (fun x => x) HX.out.at_
            have cn : w15.cell? ⟨b, off + m * 5 + 2, none⟩ = some (.int .i64 z) := (K4.out.1.trans K15.out).cell (p := ⟨b, off + m * 5 + 2, none⟩) (fun x => x) HX.out.n
            have cs : w15.cell? ⟨b, off + m * 5 + 3, none⟩ = some (.string s) := (K4.out.1.trans K15.out).cell (p := ⟨b, off + m * 5 + 3, none⟩) (fun x => x) HX.out.s
            have cl : w15.cell? ⟨b, off + m * 5 + 4, none⟩ = some (.slice la M lc) := (K4.out.1.trans K15.out).cell (p := ⟨b, off + m * 5 + 4, none⟩) (fun x => x) HL4.out
            go_wp2_with fail
            refine (RV.out w15).mono ?_
            rintro e w17 ⟨rfl, k17⟩
            have c17 := k17.cell (p := ⟨w0.heap.size, 0, none⟩) (fun x => x) c15
            have e17 := k17.cell (p := ⟨w3.heap.size, 0, none⟩) (fun x => x) e15
            have K17 := Lib.hid (K15.out.trans k17)
            clear k17 c15 e15 ck ca cn cs cl
            go_wp2_with fail
            refine (EQ.out w17 K17.out).mono ?_
            rintro e w18 ⟨rfl, k18⟩
            have K18 := Lib.hid (K17.out.trans k18)
            clear k18
            go_wp2_with fail
            refine (AW.out w18 (K4.out.1.trans K18.out)).mono ?_
            rintro e w19 ⟨rfl, k19⟩
            have K19 := Lib.hid (K18.out.trans k19)
            clear k19
            go_wp2_with fail
            go_ret
            exact ⟨rfl, K4.out.1.trans K19.out⟩
end Go.Proofs.YtoophdcagpfmpaaGreatDoor

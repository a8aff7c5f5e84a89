/- loanwordlaw05.PrintParts: the walk. -/
import Derived.Test.YtoophdcagpfmpaaGreatDoorPtPartA
import Derived.Test.YtoophdcagpfmpaaGreatDoorMg47
namespace Go.Proofs.YtoophdcagpfmpaaGreatDoor
open Go.RowKit

theorem exprP_cases {ts : List Nd} (hm : mayN ts = true) : exprP ts = (⟨#[]⟩, 2) ∨ exprP ts = (⟨#[]⟩, 3) ∨ (isExprB (ts.getD 0 nd0).k = true ∧ (Ex ts 0 1).size ≤ 65536 ∧ exprP ts = (Ex ts 0 1, 0)) := by
  unfold exprP
  rw [hm]
  cases hr : isExprB (ts.getD 0 nd0).k
  · exact Or.inl rfl
  · by_cases hs : 65536 < (Ex ts 0 1).size
    · exact Or.inr (Or.inl (if_pos hs))
    · exact Or.inr (Or.inr ⟨rfl, by omega, if_neg hs⟩)
theorem sub_ok {ts : List Nd} (hok : ∀ x ∈ ts, NdOk x) (hm : mayN ts = true) {k : Nat} (hk : k < ts.length) : (∀ x ∈ subN ts k, NdOk x) ∧ subT ts (k : Nat) = subN ts k ∧ subE ts (k : Nat) = 0 ∧ (subN ts k).length ≤ 16384 := by
  have h1 := subT_of hm (n := (k : Nat)) (by omega) (by omega)
  have h2 := subT_ok' (n := ((k : Nat) : Int)) hok
  rw [h1.1] at h2
  exact ⟨h2, h1.1, h1.2, (may_parts (may_sub hm hk)).2.1⟩

set_option maxRecDepth 100000 in
set_option maxHeartbeats 16000000 in
theorem printParts_any (ts : List Nd) (hok : ∀ x ∈ ts, NdOk x) (a : Option Addr) (cap : Nat) (hcap : ts.length ≤ cap) (hcm : cap ≤ 9223372036854775807) (w : World) (hts : NodesAt w a ts) (hT : PT w) :
    Calls Tryz.prog 5 #[.agg #[.slice a ts.length cap]] w fun e w' => e = .returned (.bool true) ∧ KB F0 w w' := by
  obtain ⟨w0, rfl⟩ : ∃ w0, w0 = w := ⟨_, rfl⟩
  obtain ⟨W1, hW1⟩ : ∃ W1, W1 = w0.alloc (.cells #[.slice a ts.length cap] 24) := ⟨_, rfl⟩
  have k1 : KB F0 w0 W1 := by rw [hW1]; exact tree_box _ _ _ _
  have hb1 : W1.heap[w0.heap.size]? = some (.cells #[.slice a ts.length cap] 24 (0, 0)) := by rw [hW1]; exact alloc_new _ _
  have FT := Lib.hid (fits5_any ts a cap hcap hcm W1 (hts.kbF k1))
  have AW := Lib.hid (fun (W : World) (hk : KB F0 w0 W) => awake5_any W (hT.kb hk))
  have HB := Lib.hid (And.intro k1 hb1)
  have HW := Lib.hid hW1
  have HH := Lib.hid (And.intro hts (And.intro hT (And.intro hok hcap)))
  clear hcap hcm hts hT hok k1 hb1 hW1
  go_enter Tryz.func5, Tryz.ntmps5
  go_wp2_with fail
  rw [← HW.out]
  refine FT.out.mono ?_
  rintro e w2 ⟨f, rfl, hf, k2⟩
  cases f
  case false =>
    have K2 := Lib.hid (HB.out.1.trans k2)
    clear k2 hf
    go_wp2_with fail
    refine (AW.out w2 K2.out).mono ?_
    rintro e w3 ⟨rfl, k3⟩
    have K3 := Lib.hid (K2.out.trans k3)
    clear k3
    go_wp2_with fail
    go_ret
    exact ⟨rfl, K3.out⟩
  case true =>
    have hf2 := hf rfl
    have hlt : ts.length < 100000000 := by have := hf2.1; omega
    have hN4 : ts.length ≤ 4000 := hf2.1
    have c0 : w2.cell? ⟨w0.heap.size, 0, none⟩ = some (.slice a ts.length cap) := blk_cell (k2.heap (fun x => x) HB.out.2) 0
    have K2 := Lib.hid (HB.out.1.trans k2)
    have TM := Lib.hid (tmay_any ts hlt HH.out.2.2.1 a cap w2 (HH.out.1.kbF K2.out) (HH.out.2.1.kb K2.out).asc)
    have HLT := Lib.hid hlt
    clear k2 hf hf2 hlt
    obtain ⟨m, hm⟩ : ∃ m, m = mayN ts := ⟨_, rfl⟩
    rw [← hm] at TM
    have HM := Lib.hid hm
    clear hm
    go_wp2_with fail
    refine TM.out.mono ?_
    rintro e w3 ⟨rfl, k3⟩
    have c3 := k3.cell (p := ⟨w0.heap.size, 0, none⟩) (fun x => x) c0
    have K3 := Lib.hid (K2.out.trans k3)
    clear k3 c0 TM
    cases m
    case false =>
      go_wp2_with fail
      refine (AW.out w3 K3.out).mono ?_
      rintro e w4 ⟨rfl, k4⟩
      have K4 := Lib.hid (K3.out.trans k4)
      clear k4
      go_wp2_with fail
      go_ret
      exact ⟨rfl, K4.out⟩
    case true =>
      have PE := Lib.hid (pexpr_any ts HLT.out HH.out.2.2.1 a cap w3 (HH.out.1.kbF K3.out) (HH.out.2.1.kb K3.out))
      rcases exprP_cases HM.out.symm with hx | hx | ⟨hr, hs, hx⟩
      · rw [hx] at PE
        clear hx
        go_wp2_with fail
        refine PE.out.mono ?_
        rintro e w4 ⟨rfl, k4⟩
        have K4 := Lib.hid (K3.out.trans k4)
        clear k4
        go_wp2_with fail
        refine (AW.out w4 K4.out).mono ?_
        rintro e w5 ⟨rfl, k5⟩
        have K5 := Lib.hid (K4.out.trans k5)
        clear k5
        go_wp2_with fail
        go_ret
        exact ⟨rfl, K5.out⟩
      · rw [hx] at PE
        clear hx
        go_wp2_with fail
        refine PE.out.mono ?_
        rintro e w4 ⟨rfl, k4⟩
        have K4 := Lib.hid (K3.out.trans k4)
        clear k4
        go_wp2_with fail
        refine (AW.out w4 K4.out).mono ?_
        rintro e w5 ⟨rfl, k5⟩
        have K5 := Lib.hid (K4.out.trans k5)
        clear k5
        go_wp2_with fail
        go_ret
        exact ⟨rfl, K5.out⟩
      · rw [hx] at PE
        have PL := Lib.hid (fun (i : Nat) (hi : i < ts.length) => part_law HM.out.symm hr hs hi)
        clear hx hr
        generalize Ex ts 0 1 = S at PE PL hs
        go_wp2_with fail
        refine PE.out.mono ?_
        rintro e w4 ⟨rfl, k4⟩
        have K4 := Lib.hid (And.intro (K3.out.trans k4) (k4.cell (p := ⟨w0.heap.size, 0, none⟩) (fun x => x) c3))
        clear k4 c3 PE
        have HS := Lib.hid hs
        clear hs
        obtain ⟨N, hN⟩ : ∃ N, N = ts.length := ⟨_, rfl⟩
        rw [← hN] at hN4 K4 ⊢
        have HN := Lib.hid hN
        clear hN
        go_wp2_with fail
        go_loopw [5] (fun kv wr => ∃ k : Nat, k ≤ N ∧ kv = .int .i64 (k : Nat) ∧ Hid (KB F0 w4 wr)) (fun kv _ => N - (intOf kv).toNat)
        case atStart => exact ⟨0, by omega, rfl, Lib.hid (KB.refl _ _)⟩
        case round =>
          obtain ⟨k, hk, rfl, hst⟩ := hrel
          have cr : wr.cell? ⟨w0.heap.size, 0, none⟩ = some (.slice a N cap) := hst.out.cell (p := ⟨w0.heap.size, 0, none⟩) (fun x => x) K4.out.2
          by_cases hlt : k < N
          · by_cases h60 : k < 60
            · have hkL : k < ts.length := by rw [← HN.out]; exact hlt
              have KR := Lib.hid (K4.out.1.trans hst.out)
              obtain ⟨so1, so2, so3, so4⟩ := sub_ok HH.out.2.2.1 HM.out.symm hkL
              have SB := sub_any ts HLT.out HH.out.2.2.1 a cap HH.out.2.2.2 (k : Nat) (by omega) (by omega) wr (HH.out.1.kbF KR.out) (HH.out.2.1.kb KR.out).asc
              rw [so2, so3, ← HN.out] at SB
              have hpl := PL.out k hkL
              obtain ⟨b, off, rfl, hx⟩ := HH.out.1 k hkL
              have hxk := hx.k
              have SB := Lib.hid SB
              have SO := Lib.hid (And.intro so1 so4)
              have HXK := Lib.hid hxk
              clear so1 so2 so3 so4 hkL hx hxk
              generalize subN ts k = us at SB SO hpl
              generalize (ts.getD k nd0).k = kk at hpl HXK
              have KN : (k : Int) < (N : Int) := by omega
              go_wp2_with fail
              refine SB.out.mono ?_
              rintro e w6 ⟨v, ls, rfl, hown, k6⟩
              obtain ⟨a2, c2, rfl, hn2, h21, h22, -⟩ := hown.nodes
              have cr6 := k6.cell (p := ⟨w0.heap.size, 0, none⟩) (fun x => x) cr
              obtain ⟨W7, hW7⟩ : ∃ W7, W7 = w6.alloc (.cells #[.slice a2 us.length c2] 24) := ⟨_, rfl⟩
              have k67 : KB F0 w6 W7 := by rw [hW7]; exact (KB.refl _ _).alloc _
              have K7 := Lib.hid (And.intro (hst.out.trans (k6.trans k67)) (k67.cell (p := ⟨w0.heap.size, 0, none⟩) (fun x => x) cr6))
              have PE2 := Lib.hid (pexpr_any us (by have := SO.out.2; omega) SO.out.1 a2 c2 W7 (hn2.kbF k67) (HH.out.2.1.kb (K4.out.1.trans K7.out.1)))
              have HW7 := Lib.hid hW7
              clear hown hn2 h21 h22 k6 k67 hW7 cr cr6 SB
              rcases hpl with ⟨hkk, hex, hsd⟩ | ⟨hkk, hex⟩
              · rw [hex] at PE2
                generalize Ex ts k 1 = u at PE2 hsd
                have WT := Lib.hid (fun (W : World) => within_any u S hsd (by have := HS.out; omega) W)
                clear hex hkk hsd
                go_wp2_with fail
                rw [← HW7.out]
                refine PE2.out.mono ?_
                rintro e w8 ⟨rfl, k8⟩
                have K8 := Lib.hid (K7.out.1.trans k8)
                clear k8
                go_wp2_with fail
                refine (WT.out w8).mono ?_
                rintro e w9 ⟨rfl, k9⟩
                have K9 := Lib.hid (K8.out.trans k9)
                clear k9
                go_wp2_with fail
                go_roundw
                case rel => exact ⟨k + 1, by omega, by go_num, K9⟩
                case measure => simp [intOf]; omega
              · rw [show (ByteArray.empty, 2) = ((⟨#[]⟩ : ByteArray), 2) from rfl] at hex
                rw [hex] at PE2
                subst hkk
                clear hex
                go_wp2_with fail
                rw [← HW7.out]
                refine PE2.out.mono ?_
                rintro e w8 ⟨rfl, k8⟩
                have K8 := Lib.hid (K7.out.1.trans k8)
                have c8 := k8.cell (p := ⟨w0.heap.size, 0, none⟩) (fun x => x) K7.out.2
                have d8 : w8.cell? ⟨b, off + k * 5, none⟩ = some (.int .u8 (35 : Nat)) := (K4.out.1.trans K8.out).cell (p := ⟨b, off + k * 5, none⟩) (fun x => x) HXK.out
                clear k8
                go_wp2_with fail
                go_roundw
                case rel => exact ⟨k + 1, by omega, by go_num, K8⟩
                case measure => simp [intOf]; omega
            · have KR := Lib.hid (K4.out.1.trans hst.out)
              go_wp2_with fail
              refine (AW.out wr KR.out).mono ?_
              rintro e w5 ⟨rfl, k5⟩
              have K5 := Lib.hid (KR.out.trans k5)
              clear k5
              go_wp2_with fail
              go_ret
              exact ⟨rfl, K5.out⟩
          · have KR := Lib.hid (K4.out.1.trans hst.out)
            go_wp2_with fail
            refine (AW.out wr KR.out).mono ?_
            rintro e w5 ⟨rfl, k5⟩
            have K5 := Lib.hid (KR.out.trans k5)
            clear k5
            go_wp2_with fail
            go_ret
            exact ⟨rfl, K5.out⟩
end Go.Proofs.YtoophdcagpfmpaaGreatDoor

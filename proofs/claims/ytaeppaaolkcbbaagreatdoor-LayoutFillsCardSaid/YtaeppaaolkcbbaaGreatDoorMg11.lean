/- LayoutFills: the walk. -/
import Derived.Test.YtaeppaaolkcbbaaGreatDoorMg10
namespace Go.Proofs.YtaeppaaolkcbbaaGreatDoor
open Go.RowKit

set_option maxRecDepth 100000 in
set_option maxHeartbeats 64000000 in
theorem layoutFills_any (S : List (List Ty)) (a : Option Addr) (c : Nat) (hc : S.length ≤ c) (t : Ty) (ta : Option Addr) (tc : Nat) (w : World) (h : StsAt 61 w a S) (ht : TyAt 61 w t ta tc)
    (AWK : ∀ W, KB F0 w W → Calls Tryz.prog 8 #[] W fun e w' => e = .returned (.bool true) ∧ KB F0 W w') :
    Calls Tryz.prog 5 #[.slice a S.length c, tyV t ta tc] w fun e w' => e = .returned (.bool true) ∧ KB F0 w w' := by
  obtain ⟨w0, rfl⟩ : ∃ w0, w0 = w := ⟨_, rfl⟩
  obtain ⟨W, hW⟩ : ∃ W, W = w0.alloc (.cells #[.int .u8 t.k, .bool t.m, .int .i64 t.r, .int .i64 t.s, .slice ta t.of.length tc] 26) := ⟨_, rfl⟩
  obtain ⟨kb, hb⟩ := boxTy w0 t ta tc
  rw [← hW] at kb hb
  have FT := Lib.hid (lyFit_any S a c t ta tc W (h.kbF kb) (ht.kbF kb))
  have AW := Lib.hid AWK
  have HW := Lib.hid hW
  have HB := Lib.hid (And.intro kb (And.intro hb (And.intro h (And.intro ht hc))))
  have c0 := blk_cell hb 0
  have c1 := blk_cell hb 1
  have c2 := blk_cell hb 2
  have c3 := blk_cell hb 3
  have c4 := blk_cell hb 4
  simp at c0 c1 c2 c3 c4
  clear kb hb hW h ht AWK hc
  unfold tyV at FT ⊢
  go_enter Tryz.func5, Tryz.ntmps5
  go_upto_region 1 with fail
  rw [← HW.out]
  go_wp2_with fail
  refine FT.out.mono ?_
  rintro e w2 ⟨f, rfl, hf, k2⟩
  have hb2 := k2.heap (fun x => x) HB.out.2.1
  have K2 := Lib.hid (And.intro (HB.out.1.trans k2) (And.intro hb2 hf))
  clear k2 hf c0 c1 c2 c3 c4
  cases f
  case false =>
    clear hb2
    go_wp2_with fail
    refine (AW.out w2 K2.out.1).mono ?_
    rintro e w9 ⟨rfl, k9⟩
    have K9 := Lib.hid (KB.trans (K2.out.1) k9)
    clear k9
    go_wp2_with fail
    go_ret
    exact ⟨rfl, K9.out⟩
  case true =>
    have d0 := blk_cell hb2 0
    have d1 := blk_cell hb2 1
    have d2 := blk_cell hb2 2
    have d3 := blk_cell hb2 3
    have d4 := blk_cell hb2 4
    simp at d0 d1 d2 d3 d4
    clear hb2
    obtain ⟨hS60, hF60⟩ := K2.out.2.2 rfl
    have MY := Lib.hid (tyMay_any S (by omega) (fun i => by have := hF60 i; omega) a c HB.out.2.2.2.2 t ta tc w2 (((stsLe HB.out.2.2.1 (show 49 ≤ 61 by omega))).kbF K2.out.1) ((HB.out.2.2.2.1.le (by omega)).kbF K2.out.1))
    unfold tyV at MY
    go_wp2_with fail
    refine MY.out.mono ?_
    rintro e w3 ⟨ok, rfl, hok, k3⟩
    have hb3 := k3.heap (fun x => x) K2.out.2.1
    have K3 := Lib.hid (And.intro (K2.out.1.trans k3) (And.intro hb3 hok))
    clear k3 hok MY d0 d1 d2 d3 d4
    cases ok
    case false =>
      clear hb3
      go_wp2_with fail
      refine (AW.out w3 K3.out.1).mono ?_
      rintro e w9 ⟨rfl, k9⟩
      have K9 := Lib.hid (KB.trans (K3.out.1) k9)
      clear k9
      go_wp2_with fail
      go_ret
      exact ⟨rfl, K9.out⟩
    case true =>
      have e0 := blk_cell hb3 0
      have e1 := blk_cell hb3 1
      have e2 := blk_cell hb3 2
      have e3 := blk_cell hb3 3
      have e4 := blk_cell hb3 4
      simp at e0 e1 e2 e3 e4
      clear hb3
      have hm := K3.out.2.2.1 rfl
      have HM := Lib.hid hm
      have h49 := (stsLe HB.out.2.2.1 (show 49 ≤ 61 by omega))
      have t49 := HB.out.2.2.2.1.le (show 49 ≤ 61 by omega)
      have hSn : S.length ≤ 1000000 := by omega
      have hFn : ∀ i, (fds S i).length ≤ 1000000 := fun i => by have := hF60 i; omega
      have BX := Lib.hid (lyBoxes_any S hSn hFn a c HB.out.2.2.2.2 t ta tc w3 (h49.kbF K3.out.1) (t49.kbF K3.out.1))
      have DR := Lib.hid (fun (V : World) (hk : KB F0 w0 V) => tyD_any S hSn hFn a c HB.out.2.2.2.2 t ta tc V (h49.kbF hk) (t49.kbF hk))
      have WD := Lib.hid (fun (V : World) (hk : KB F0 w0 V) => tyW_any S hSn hFn a c HB.out.2.2.2.2 t ta tc V (h49.kbF hk) (t49.kbF hk))
      have HN := Lib.hid (And.intro hSn (And.intro hFn (And.intro h49 t49)))
      unfold tyV at BX DR WD
      clear hm h49 t49 hSn hFn hS60 hF60
      go_wp2_with fail
      refine BX.out.mono ?_
      rintro e w4 (⟨-, v, rfl, hown, k4⟩ | ⟨hno, -, -⟩)
      case inr => exact absurd HM.out hno
      have hb4 := k4.heap (fun x => x) K3.out.2.1
      have K4 := Lib.hid (And.intro (K3.out.1.trans k4) (And.intro hb4 hown))
      obtain ⟨NB, hNB⟩ : ∃ NB, NB = (bxN S t).length := ⟨_, rfl⟩
      rw [← hNB] at hown
      obtain ⟨x1, y1, rfl, -, -, -, -⟩ := own_shape hown
      have HNB := Lib.hid hNB
      clear k4 hown BX hNB e0 e1 e2 e3 e4
      have f0 := blk_cell hb4 0
      have f1 := blk_cell hb4 1
      have f2 := blk_cell hb4 2
      have f3 := blk_cell hb4 3
      have f4 := blk_cell hb4 4
      simp at f0 f1 f2 f3 f4
      clear hb4
      go_wp2_with fail
      refine (DR.out w4 K4.out.1).mono ?_
      rintro e w5 (⟨-, rfl, k5⟩ | ⟨hno, -, -⟩)
      case inr => exact absurd HM.out hno
      have hb5 := k5.heap (fun x => x) K4.out.2.1
      have K5 := Lib.hid (And.intro (K4.out.1.trans k5) (And.intro hb5 (own_kb K4.out.2.2 k5 (fun _ _ x => x))))
      clear k5 DR f0 f1 f2 f3 f4
      have g0 := blk_cell hb5 0
      have g1 := blk_cell hb5 1
      have g2 := blk_cell hb5 2
      have g3 := blk_cell hb5 3
      have g4 := blk_cell hb5 4
      simp at g0 g1 g2 g3 g4
      clear hb5
      go_wp2_with fail
      refine (WD.out w5 K5.out.1).mono ?_
      rintro e w6 (⟨-, rfl, k6⟩ | ⟨hno, -, -⟩)
      case inr => exact absurd HM.out hno
      have hb6 := k6.heap (fun x => x) K5.out.2.1
      have K6 := Lib.hid (And.intro (K5.out.1.trans k6) (And.intro hb6 (own_kb K5.out.2.2 k6 (fun _ _ x => x))))
      clear k6 WD g0 g1 g2 g3 g4
      have hw1 := wF_pos HM.out.1 34 t (HM.out.1.fin t) (look_inT HM.out.2)
      have hw16 := HM.out.1.w16 34 t (HM.out.1.fin t) (look_inT HM.out.2)
      obtain ⟨x, hx⟩ : ∃ x, x = wF S 34 t := ⟨_, rfl⟩
      rw [← hx] at hw1 hw16 ⊢
      have hNB16 : NB ≤ 16 := by rw [HNB.out]; exact bxN_len S HM.out.1 t HM.out.2
      have hdr := bxN_drops S t
      rw [← HNB.out] at hdr
      have CF := cls_fit hw1 hw16
      have CL := Lib.hid (lyClass_any (x : Int) w6)
      have hC : -9223372036854775808 ≤ (clsW (x : Int)).1 ∧ (clsW (x : Int)).1 ≤ 9223372036854775807 := by
        unfold clsW; repeat' split
        all_goals simp
      have SZ := Lib.hid (fun (V : World) => lySize_any (clsW (x : Int)).1 hC V)
      obtain ⟨C, hCe⟩ : ∃ C, C = (clsW (x : Int)).1 := ⟨_, rfl⟩
      rw [← hCe] at CF CL SZ
      rw [CF.1] at CL
      rw [CF.2.1] at SZ
      obtain ⟨Z, hZe⟩ : ∃ Z, Z = (sizW C).1 := ⟨_, rfl⟩
      rw [← hZe] at CF SZ
      obtain ⟨-, -, z1, z2, z3, z4⟩ := CF
      have tz : decide (Z < (x : Int)) = false := decide_eq_false (by omega)
      have HX := Lib.hid (And.intro hx HNB.out)
      clear hx hC hCe hZe
      generalize drF S 34 t = dr at hdr ⊢
      have tC : decide (0 < C) = false ∨ (decide (0 < C) = true ∧ decide ((x : Int) ≤ Z.tdiv 2) = false) := by
        rcases z2 with z2 | z2
        · exact Or.inl (decide_eq_false (by omega))
        · by_cases h0 : 0 < C
          · exact Or.inr ⟨decide_eq_true h0, decide_eq_false (by omega)⟩
          · exact Or.inl (decide_eq_false h0)
      have tCH := Lib.hid tC
      have ezz : Z.tdiv 2 = Z / 2 := Int.tdiv_eq_ediv_of_nonneg z3
      have hwz : IntKind.i64.wrap (Z.tdiv 2) = Z.tdiv 2 := by rw [ezz]; exact w64 (by omega) (by omega)
      have hNBd : (decide ((0 : Int) < (NB : Int)) == dr) = true := by rw [← hdr]; simp
      have hNBn : (decide (0 < NB) == dr) = true := by rw [← hdr]; simp
      have hwx : Hid (1 ≤ x ∧ x ≤ 16 ∧ (x : Int) ≤ Z) := Lib.hid ⟨hw1, hw16, z1⟩
      clear z1 z2 hdr tC hw1 hw16 ezz
      have g0 := blk_cell hb6 0
      have g1 := blk_cell hb6 1
      have g2 := blk_cell hb6 2
      have g3 := blk_cell hb6 3
      have g4 := blk_cell hb6 4
      simp at g0 g1 g2 g3 g4
      clear hb6
      go_wp2_with fail
      refine CL.out.mono ?_
      rintro e w7 ⟨rfl, k7⟩
      have hb7 := k7.heap (fun x => x) K6.out.2.1
      have K7 := Lib.hid (And.intro (K6.out.1.trans k7) (And.intro hb7 (own_kb K6.out.2.2 k7 (fun _ _ x => x))))
      clear k7 CL g0 g1 g2 g3 g4
      have i0 := blk_cell hb7 0
      have i1 := blk_cell hb7 1
      have i2 := blk_cell hb7 2
      have i3 := blk_cell hb7 3
      have i4 := blk_cell hb7 4
      simp at i0 i1 i2 i3 i4
      clear hb7
      go_wp2_with fail
      refine (SZ.out w7).mono ?_
      rintro e w8 ⟨rfl, rfl⟩
      clear SZ
      by_cases h5 : t.k = 5
      case neg =>
        have hk5 : (t.k != 5) = true := by simpa using h5
        have hNB1 : NB ≤ 1 := by rw [HNB.out]; exact bxN_one h5
        have hNB1I : (NB : Int) ≤ 1 := by omega
        rcases tCH.out with tC | ⟨tC, tC2⟩
        all_goals
          go_wp2_with fail
          refine (AW.out w7 K7.out.1).mono ?_
          rintro e w9 ⟨rfl, k9⟩
          have K9 := Lib.hid (KB.trans (K7.out.1) k9)
          clear k9
          go_wp2_with fail
          go_ret
          exact ⟨rfl, K9.out⟩
      case pos =>
        have hk5 : (t.k != 5) = false := by rw [h5]; rfl
        have hin := look_inT HM.out.2
        obtain ⟨u, hu⟩ : ∃ u : Nat, t.s = (u : Int) := ⟨t.s.toNat, by have := hin h5; omega⟩
        have hun : t.s.toNat = u := by omega
        have huL : u < S.length := by have := hin h5; omega
        have huI : (u : Int) < (S.length : Int) := by omega
        obtain ⟨sb, so, snm, sfa, sfc, rfl, -, hsl0, hsc, hfd⟩ := HN.out.2.2.1 u huL
        have hFu : S.getD u [] = fds S u := rfl
        rw [hFu] at hsl0 hsc hfd
        obtain ⟨Lf, hLf⟩ : ∃ L, L = (fds S u).length := ⟨_, rfl⟩
        rw [← hLf] at hsl0 hsc
        have hg := HM.out.1
        have hLf8 : Lf ≤ 8 := by rw [hLf]; exact hg.len8 u
        have hfull : bxT S u Lf = bxN S t := by have := bxT_full hg h5; rw [hun, ← hLf] at this; exact this
        have hat := fun (i : Nat) (hi : i < Lf) => bxT_at hg h5 (i := i) (by rw [hun]; omega)
        rw [hun] at hat
        have hxs : x = wsum S 34 u Lf := by
          rw [HX.out.1, hLf, ← hun, ← wF_struct h5]
          exact (wF_fin (hg.fin t) (by omega)).symm
        have FD := Lib.hid (fun (i : Nat) (V : World) (hk : KB F0 w0 V) => lyField_any S HN.out.1 HN.out.2.1 (some ⟨sb, so, none⟩) c HB.out.2.2.2.2 (u : Nat) (i : Nat) V (HN.out.2.2.1.kbF hk))
        have HF := Lib.hid (And.intro hLf (And.intro hfd (And.intro hsl0 (And.intro hfull (And.intro hat hxs)))))
        have HMf := Lib.hid (fun (i : Nat) (hi : i < Lf) => (show MayT S ((fds S u).getD i ty0) from ⟨hg, hg.look (fds_mem (by omega))⟩))
        have HOk := Lib.hid (fun (i : Nat) (hi : i < Lf) => (show FieldOk S (u : Nat) (i : Nat) from ⟨hg, by omega, by omega, by omega, by rw [Int.toNat_natCast]; omega⟩))
        rw [hu] at i3
        have HK7 := Lib.hid (K7.out.1)
        clear hfd hsl0 hfull hat hxs hin hun huL hFu hLf hg
        rcases tCH.out with tC | ⟨tC, tC2⟩
        all_goals
          go_wp2_with fail
          go_loopg [13, 14, 15] Lf (fun g av nv iv wr => ∃ i, i ≤ Lf ∧ g = Lf - i ∧ iv = .int .i64 (i : Nat) ∧ av = .int .i64 (wsum S 34 u i : Nat) ∧ nv = .int .i64 ((bxT S u i).length : Nat) ∧ Hid (KB F0 w7 wr))
          case atStart => exact ⟨0, by omega, by omega, rfl, by rw [wsum_zero]; rfl, by rw [bxT_zero]; rfl, Lib.hid (KB.refl _ _)⟩
          case round =>
            obtain ⟨i, hi, rfl, rfl, rfl, rfl, hst⟩ := hrel
            obtain ⟨wi, rfl⟩ : ∃ w, w = wr := ⟨_, rfl⟩
            have hkw := KB.trans K7.out.1 hst.out
            have j3 : wi.cell? ⟨w0.heap.size, 3, none⟩ = some (.int .i64 (u : Nat)) := hst.out.cell (p := ⟨w0.heap.size, 3, none⟩) (fun x => x) i3
            have hsl := hkw.cell (p := ⟨sb, so + u * 2 + 1, none⟩) (fun x => x) HF.out.2.2.1
            have HKW := Lib.hid hkw
            clear hkw
            by_cases hlt : i < Lf
            · have hiI : (i : Int) < (Lf : Int) := by omega
              have dI : decide ((i : Int) < (Lf : Int)) = true := decide_eq_true hiI
              have hat := HF.out.2.2.2.2.1 i hlt
              have hsu : wsum S 34 u (i + 1) = wsum S 34 u i + wF S 34 ((fds S u).getD i ty0) := wsum_succ (by rw [← HF.out.1]; exact hlt)
              have hle : wsum S 34 u (i + 1) ≤ wsum S 34 u Lf := by rw [HF.out.1]; exact wsum_le
              have hx16 := hwx.out.2.1
              rw [HF.out.2.2.2.2.2] at hx16
              obtain ⟨A, hA⟩ : ∃ A, A = wsum S 34 u i := ⟨_, rfl⟩
              obtain ⟨n, hn⟩ : ∃ n, n = (bxT S u i).length := ⟨_, rfl⟩
              rw [← hA, ← hn]
              rw [← hA, ← hn] at hat
              rw [← hA] at hsu
              have hMf := HMf.out i hlt
              obtain ⟨fb, fo, fnm, fa', fc', rfl, hnm, hty0, hta⟩ := HF.out.2.1 i (by rw [← HF.out.1]; exact hlt)
              have hbd := fun (q : Nat) (hq : q < (bxN S ((fds S u).getD i ty0)).length) => bxN_bound hMf.1 (look_inT hMf.2) hq
              have hBl := bxN_len S hMf.1 _ hMf.2
              obtain ⟨f, hf⟩ : ∃ f, f = (fds S u).getD i ty0 := ⟨_, rfl⟩
              rw [← hf] at hat hsu hMf hty0 hta hbd hBl
              obtain ⟨xw, hxw⟩ : ∃ xw, xw = wF S 34 f := ⟨_, rfl⟩
              obtain ⟨Bf, hBf⟩ : ∃ Bf, Bf = bxN S f := ⟨_, rfl⟩
              rw [← hxw] at hsu
              rw [← hBf] at hat hbd hBl
              have hAx : A + xw ≤ 16 := by omega
              have HA := Lib.hid (And.intro hA (And.intro hn (And.intro hsu (And.intro hat hbd))))
              have hnB : n + Bf.length ≤ NB := by rw [HNB.out]; exact hat.1
              have WDf := Lib.hid (fun (V : World) (hk : KB F0 w0 V) => tyW_any S HN.out.1 HN.out.2.1 (some ⟨sb, so, none⟩) c HB.out.2.2.2.2 f fa' fc' V (HN.out.2.2.1.kbF hk) (hta.kbF hk))
              have BXf := Lib.hid (fun (V : World) (hk : KB F0 w0 V) => lyBoxes_any S HN.out.1 HN.out.2.1 (some ⟨sb, so, none⟩) c HB.out.2.2.2.2 f fa' fc' V (HN.out.2.2.1.kbF hk) (hta.kbF hk))
              unfold tyV at WDf BXf
              have HTY := Lib.hid (And.intro hty0 (And.intro hMf (And.intro hxw hBf)))
              clear hat hsu hle hx16 hA hn hMf hnm hty0 hta hbd hf hxw hBf
              go_wp2_with fail
              refine (FD.out i wi HKW.out).mono ?_
              rintro e w9 (⟨-, rfl, k9⟩ | ⟨hno, -, -⟩)
              case inr => exact absurd (HOk.out i hlt) hno
              have j3 := k9.cell (p := ⟨w0.heap.size, 3, none⟩) (fun x => x) j3
              have hsl := k9.cell (p := ⟨sb, so + u * 2 + 1, none⟩) (fun x => x) hsl
              obtain ⟨t0, t1, t2, t3, t4⟩ := HTY.out.1.kbF (HKW.out.trans k9)
              rw [Int.toNat_natCast, Int.toNat_natCast, ← HA.out.1]
              have K9 := Lib.hid (And.intro (HKW.out.trans k9) (hst.out.trans k9))
              clear k9
              go_wp2_with fail
              obtain ⟨W10, hW10⟩ : ∃ W10, W10 = w9.alloc (.cells #[.int .u8 f.k, .bool f.m, .int .i64 f.r, .int .i64 f.s, .slice fa' f.of.length fc'] 26) := ⟨_, rfl⟩
              have k10 : KB F0 w9 W10 := by rw [hW10]; exact (KB.refl _ _).alloc _
              have hb10 : W10.heap[w9.heap.size]? = some (.cells #[.int .u8 f.k, .bool f.m, .int .i64 f.r, .int .i64 f.s, .slice fa' f.of.length fc'] 26 (0, 0)) := by rw [hW10]; exact alloc_new _ _
              rw [← hW10]
              have K10 := Lib.hid (And.intro (K9.out.1.trans k10) (And.intro (K9.out.2.trans k10) hb10))
              clear k10 hb10 hW10 t0 t1 t2 t3 t4 j3 hsl
              refine (WDf.out W10 K10.out.1).mono ?_
              rintro e w11 (⟨-, rfl, k11⟩ | ⟨hno, -, -⟩)
              case inr => exact absurd HTY.out.2.1 hno
              rw [← HTY.out.2.2.1]
              have hb11 := k11.heap (fun x => x) K10.out.2.2
              have K11 := Lib.hid (And.intro (K10.out.1.trans k11) (K10.out.2.1.trans k11))
              clear k11
              have m0 := blk_cell hb11 0
              have m1 := blk_cell hb11 1
              have m2 := blk_cell hb11 2
              have m3 := blk_cell hb11 3
              have m4 := blk_cell hb11 4
              simp at m0 m1 m2 m3 m4
              clear hb11
              go_wp2_with fail
              refine (BXf.out w11 K11.out.1).mono ?_
              rintro e w12 (⟨-, v2, rfl, ho2, k12⟩ | ⟨hno, -, -⟩)
              case inr => exact absurd HTY.out.2.1 hno
              rw [← HTY.out.2.2.2] at ho2
              have ho1 := own_kb K7.out.2.2 (K11.out.2.trans k12) (fun _ _ x => x)
              obtain ⟨x2, y2, rfl, -, -, hc2, -⟩ := own_shape ho2
              obtain ⟨xa, xc, e1, -, -, hc1, -⟩ := own_shape ho1
              simp only [Value.slice.injEq] at e1
              obtain ⟨rfl, -, rfl⟩ := e1
              obtain ⟨Lb, hLb⟩ : ∃ Lb, Lb = Bf.length := ⟨_, rfl⟩
              rw [← hLb] at hc2 hnB hBl ⊢
              rw [← HNB.out] at hc1
              have K12 := Lib.hid (And.intro (K11.out.1.trans k12) (K11.out.2.trans k12))
              have HC := Lib.hid (And.intro hc1 (And.intro hc2 hLb))
              have hnBI : (n : Int) + (Lb : Int) ≤ (NB : Int) := by omega
              have tnB : decide (NB < n + Lb) = false := decide_eq_false (by omega)
              have tnBI : decide ((NB : Int) < (n : Int) + (Lb : Int)) = false := decide_eq_false (by omega)
              have hnL : IntKind.i64.wrap ((n : Int) + (Lb : Int)) = ((n + Lb : Nat) : Int) := by rw [w64 (by omega) (by omega)]; omega
              have hAX : IntKind.i64.wrap ((A : Int) + (xw : Int)) = ((A + xw : Nat) : Int) := by rw [w64 (by omega) (by omega)]; omega
              clear ho1 ho2 hc1 hc2 k12 m0 m1 m2 m3 m4 hLb
              go_wp2_with fail
              go_loopg [23] Lb (fun g2 jv wq => ∃ j, j ≤ Lb ∧ g2 = Lb - j ∧ jv = .int .i64 (j : Nat) ∧ Hid (KB F0 w12 wq))
              case atStart => exact ⟨0, by omega, by omega, rfl, Lib.hid (KB.refl _ _)⟩
              case round =>
                obtain ⟨j, hj, rfl, rfl, hsj⟩ := hrel
                obtain ⟨wj, rfl⟩ : ∃ w, w = wr := ⟨_, rfl⟩
                by_cases hjl : j < Lb
                · have hjI : (j : Int) < (Lb : Int) := by omega
                  have dJ : decide ((j : Int) < (Lb : Int)) = true := decide_eq_true hjI
                  obtain ⟨g1, rfl, -, hz1⟩ := HC.out.1 (n + j) (by omega)
                  obtain ⟨g2, rfl, -, hz2⟩ := HC.out.2.1 j (by omega)
                  have hjB : j < Bf.length := by rw [← HC.out.2.2]; exact hjl
                  have hval := HA.out.2.2.2.1.2.2 j hjB
                  have hbj := HA.out.2.2.2.2 j hjB
                  have hv1 : (intsV (bxN S t))[n + j]? = some (.int .i64 ((bxN S t).getD (n + j) 0)) := by
                    unfold intsV
                    rw [List.getElem?_map, List.getD_eq_getElem?_getD, List.getElem?_eq_getElem (by rw [← HNB.out]; omega)]; rfl
                  have hv2 : (intsV Bf)[j]? = some (.int .i64 (Bf.getD j 0)) := by
                    unfold intsV
                    rw [List.getElem?_map, List.getD_eq_getElem?_getD, List.getElem?_eq_getElem hjB]; rfl
                  rw [hv1, hval] at hz1
                  rw [hv2] at hz2
                  generalize Bf.getD j 0 = bj at hz1 hz2 hbj
                  have d1 := hsj.out.cell (p := ⟨g1, n + j, none⟩) (fun x => x) hz1
                  have d2 := hsj.out.cell (p := ⟨g2, j, none⟩) (fun x => x) hz2
                  have hnjI : (n : Int) + (j : Int) < (NB : Int) := by omega
                  have hwb : IntKind.i64.wrap ((A : Int) + bj) = (A : Int) + bj := w64 (by omega) (by omega)
                  have hwn : IntKind.i64.wrap ((n : Int) + (j : Int)) = ((n + j : Nat) : Int) := by rw [w64 (by omega) (by omega)]; omega
                  have hnjN : n + j < NB := by omega
                  have hnj0 : (0 : Int) ≤ (n : Int) + (j : Int) := by omega
                  have hnjT : ((n : Int) + (j : Int)).toNat = n + j := by omega
                  clear hz1 hz2 hv1 hv2 hval hjB
                  go_wp2_with fail
                  refine wp_region_rv 13 GK (kindW []) (by kernel_rfl) (by kernel_rfl) (kb_trans _) (kb_refl _) (kb_start _ _) (kindW_mono _ (by intro p hp; cases hp)) ?_
                  simp only [pT, pU, pV, pW]
                  iterate 13 (refine rv_det (by kernel_rfl) rfl (by intro w hG hH; have hc0 := kc hG (d1); have hc1 := kc hG (d2); go_simp; first | done | with_reducible rfl) ?_; simp only [Act.put, pA, pZ, pS])
                  refine rv_nil (fun w hG hH => ?_)
                  have H1 := Lib.hid (hsj.out.trans hG)
                  clear hG hH d1 d2
                  go_wp2_with fail
                  go_roundg (Lb - (j + 1))
                  case measure => omega
                  case rel => exact ⟨j + 1, by omega, rfl, by go_num, H1⟩
                · obtain rfl : j = Lb := by omega
                  have dJ : decide ((j : Int) < (j : Int)) = false := decide_eq_false (by omega)
                  have HN2 : Hid (((A + xw : Nat) : Int) = ((wsum S 34 u (i + 1) : Nat) : Int) ∧ ((n + j : Nat) : Int) = (((bxT S u (i + 1)).length : Nat) : Int) ∧ KB F0 w7 wj) := Lib.hid (by
                    have h1 := HA.out.2.2.1
                    have h2 := HA.out.2.2.2.1.2.1
                    have h3 := HC.out.2.2
                    exact ⟨by omega, by omega, K12.out.2.trans hsj.out⟩)
                  go_wp2_with fail
                  go_roundg (Lf - (i + 1))
                  case measure => omega
                  case rel => exact ⟨i + 1, by omega, rfl, by go_num, by rw [← HN2.out.1]; first | rfl | go_num, by rw [← HN2.out.2.1]; first | rfl | go_num, Lib.hid HN2.out.2.2⟩
            · obtain rfl : i = Lf := by omega
              have dI : decide ((i : Int) < (i : Int)) = false := decide_eq_false (by omega)
              have e1 : wsum S 34 u i = x := HF.out.2.2.2.2.2.symm
              have e2 : (bxT S u i).length = NB := by rw [HF.out.2.2.2.1, HNB.out]
              rw [e1, e2]
              clear e1 e2
              go_wp2_with fail
              refine (AW.out wi HKW.out).mono ?_
              rintro e w9 ⟨rfl, k9⟩
              have K9 := Lib.hid (HKW.out.trans k9)
              clear k9
              go_wp2_with fail
              go_ret
              exact ⟨rfl, K9.out⟩
end Go.Proofs.YtaeppaaolkcbbaaGreatDoor

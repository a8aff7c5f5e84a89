/- loanwordref09.Walk where structs and locals lie in an older world. -/
import Derived.Test.YtpigppghcghpbaaGreatDoorPwE
namespace Go.Proofs.YtpigppghcghpbaaGreatDoor
open Go.RowKit

/-- What walking a place answers: the type's own types lie in the older world B0. -/
def WkEndB (S : List (List Ty)) (B0 w : World) (o : Option (Ty × List Int)) (e : Ending) (w' : World) : Prop := KB F0 w w' ∧
  match o with
  | none => e = .returned (.tuple #[.agg #[.int .u8 0, .bool false, .int .i64 0, .int .i64 0, .slice none 0 0], .slice none 0 0, .bool false])
  | some x => ∃ ta tc gv, e = .returned (.tuple #[tyV x.1 ta tc, gv, .bool true]) ∧ OnWay S B0 x.1 ta tc ∧ w'.ownsRow w.heap.size 3 1 gv x.2.length (intsV x.2)
theorem wkEndB_none {S : List (List Ty)} {B0 w w' : World} {o : Option (Ty × List Int)} (h : o = none) (hk : KB F0 w w') : WkEndB S B0 w o (.returned (.tuple #[.agg #[.int .u8 0, .bool false, .int .i64 0, .int .i64 0, .slice none 0 0], .slice none 0 0, .bool false])) w' := by
  subst h; exact ⟨hk, rfl⟩
set_option maxRecDepth 100000 in
set_option maxHeartbeats 64000000 in
theorem rwWalkB_any (S : List (List Ty)) (hn : S.length ≤ 1000000) (hl : ∀ i, (fds S i).length ≤ 1000000) (sa : Option Addr) (sc : Nat) (hsc : S.length ≤ sc) (L : List Ty) (hll : L.length ≤ 1000000) (la : Option Addr) (lc : Nat) (p : Pl) (pa : Option Addr) (pc : Nat) (B0 w : World) (hB0 : KB F0 B0 w)
    (hS : StsAt 49 B0 sa S) (hL : TysAt 49 B0 la L) (hp : PlAt w p pa pc) :
    Calls Tryz.prog 13 #[.slice sa S.length sc, .slice la L.length lc, plV p pa pc] w (WkEndB S B0 w (wkP S L p)) := by
  obtain ⟨w0, rfl⟩ : ∃ w0, w0 = w := ⟨_, rfl⟩
  obtain ⟨nS, hnS⟩ : ∃ n, n = S.length := ⟨_, rfl⟩
  obtain ⟨nL, hnL⟩ : ∃ n, n = L.length := ⟨_, rfl⟩
  obtain ⟨N, hN⟩ : ∃ n, n = p.path.length := ⟨_, rfl⟩
  obtain ⟨x, hx⟩ : ∃ x, x = p.loc := ⟨_, rfl⟩
  obtain ⟨O, hO⟩ : ∃ O, O = wkP S L p := ⟨_, rfl⟩
  rw [← hO]
  obtain ⟨hk, hb1, hb2⟩ := new2 w0 #[.int .i64 x, .slice pa N pc] ty0c 26 36
  unfold ty0c at hk hb1 hb2
  obtain ⟨W, hW⟩ : ∃ W, W = ((w0.alloc (.cells #[.int .i64 x, .slice pa N pc] 26)).alloc (.cells #[.int .u8 0, .bool false, .int .i64 0, .int .i64 0, .slice none 0 0] 36)) := ⟨_, rfl⟩
  rw [← hW] at hk hb1 hb2
  have y0 : W.cell? ⟨w0.heap.size, 0, none⟩ = some (.int .i64 x) := blk_cell hb1 0
  have y1 : W.cell? ⟨w0.heap.size, 1, none⟩ = some (.slice pa N pc) := blk_cell hb1 1
  have d0 : W.cell? ⟨w0.heap.size + 1, 0, none⟩ = some (.int .u8 0) := blk_cell hb2 0
  have d1 : W.cell? ⟨w0.heap.size + 1, 1, none⟩ = some (.bool false) := blk_cell hb2 1
  have d2 : W.cell? ⟨w0.heap.size + 1, 2, none⟩ = some (.int .i64 0) := blk_cell hb2 2
  have d3 : W.cell? ⟨w0.heap.size + 1, 3, none⟩ = some (.int .i64 0) := blk_cell hb2 3
  have d4 : W.cell? ⟨w0.heap.size + 1, 4, none⟩ = some (.slice none 0 0) := blk_cell hb2 4
  have df0 := blk_frozen hb2 0
  have df1 := blk_frozen hb2 1
  have df2 := blk_frozen hb2 2
  have df3 := blk_frozen hb2 3
  have df4 := blk_frozen hb2 4
  have HB := Lib.hid (And.intro hk (And.intro hb1 hb2))
  have HH := Lib.hid (And.intro hS (And.intro hL (And.intro hp (And.intro hsc (And.intro hnS (And.intro hnL (And.intro hN hx)))))))
  have HW := Lib.hid hW
  have HOO := Lib.hid hO
  have hNs : N ≤ 100000 := by rw [hN]; exact hp.small
  have TS := Lib.hid (fun (V : World) (hV : KB F0 w0 V) => rtTypes_any S hn hl sa sc L hll la lc V (hS.kbF (hB0.trans hV)) (hL.kbF (hB0.trans hV)))
  rw [← hnS, ← hnL] at TS
  have HKB := Lib.hid hB0
  unfold plV
  rw [← hnS, ← hnL, ← hN, ← hx]
  clear hB0 hk hb1 hb2 hS hL hp hsc hnS hnL hN hx hW hO hn hl hll
  go_enter Tryz.func13, Tryz.ntmps13
  go_upto_region 1 with fail
  rw [← HW.out]
  by_cases h1 : x < 0
  case pos =>
    have HO : Hid (O = none) := Lib.hid (by rw [HOO.out]; exact wkP_neg (fun h => by have := h.1.1; rw [← HH.out.2.2.2.2.2.2.2] at this; omega))
    have dx : decide (x < 0) = true := decide_eq_true h1
    go_wp2_with fail
    refine ret_tyI3 (X := w0.heap.size + 1) rfl rfl rfl rfl (set5_blk HB.out.2.2 (.int .u8 0) (.bool false) (.int .i64 0) (.int .i64 0) (.slice none 0 0)) rfl ?_
    exact wkEndB_none HO.out (set5_new HB.out.1 (show w0.heap.size ≤ w0.heap.size + 1 by omega) _ _ _ _ _)
  have dx : decide (x < 0) = false := decide_eq_false h1
  have h1' : 0 ≤ x := by omega
  by_cases h2 : (nL : Int) ≤ x
  case pos =>
    have HO : Hid (O = none) := Lib.hid (by rw [HOO.out]; exact wkP_neg (fun h => by have := h.1.2; rw [← HH.out.2.2.2.2.2.2.2, ← HH.out.2.2.2.2.2.1] at this; omega))
    have dy : decide ((nL : Int) ≤ x) = true := decide_eq_true h2
    go_wp2_with fail
    refine ret_tyI3 (X := w0.heap.size + 1) rfl rfl rfl rfl (set5_blk HB.out.2.2 (.int .u8 0) (.bool false) (.int .i64 0) (.int .i64 0) (.slice none 0 0)) rfl ?_
    exact wkEndB_none HO.out (set5_new HB.out.1 (show w0.heap.size ≤ w0.heap.size + 1 by omega) _ _ _ _ _)
  have dy : decide ((nL : Int) ≤ x) = false := decide_eq_false h2
  by_cases h3 : 8 < N
  case pos =>
    have HO : Hid (O = none) := Lib.hid (by rw [HOO.out]; exact wkP_neg (fun h => by have := h.2.1; rw [← HH.out.2.2.2.2.2.2.1] at this; omega))
    have dz : decide ((8 : Int) < (N : Int)) = true := decide_eq_true (by omega)
    have dz2 : decide (8 < N) = true := decide_eq_true h3
    have dz3 : (8 : Int) < (N : Int) := by omega
    go_wp2_with fail
    refine ret_tyI3 (X := w0.heap.size + 1) rfl rfl rfl rfl (set5_blk HB.out.2.2 (.int .u8 0) (.bool false) (.int .i64 0) (.int .i64 0) (.slice none 0 0)) rfl ?_
    exact wkEndB_none HO.out (set5_new HB.out.1 (show w0.heap.size ≤ w0.heap.size + 1 by omega) _ _ _ _ _)
  have dz : decide ((8 : Int) < (N : Int)) = false := decide_eq_false (by omega)
  have dz2 : decide (8 < N) = false := decide_eq_false h3
  have dz3 : ¬ ((8 : Int) < (N : Int)) := by omega
  have HN8 : Hid (p.path.length ≤ 8) := Lib.hid (by rw [← HH.out.2.2.2.2.2.2.1]; omega)
  go_wp2_with fail
  refine (TS.out _ HB.out.1).mono ?_
  rintro e w2 ⟨ok, rfl, hA, k2⟩
  have HA := Lib.hid hA
  have b1 := k2.heap (fun x => x) HB.out.2.1
  have b2 := k2.heap (fun x => x) HB.out.2.2
  have H2 := Lib.hid (And.intro (HB.out.1.trans k2) (And.intro b1 b2))
  have hz2 := k2.size
  clear d0 d1 d2 d3 d4 df0 df1 df2 df3 df4 y0 y1 k2 hA dz dz2 dz3 h3
  have d0 : w2.cell? ⟨w0.heap.size + 1, 0, none⟩ = some (.int .u8 0) := blk_cell b2 0
  have d1 : w2.cell? ⟨w0.heap.size + 1, 1, none⟩ = some (.bool false) := blk_cell b2 1
  have d2 : w2.cell? ⟨w0.heap.size + 1, 2, none⟩ = some (.int .i64 0) := blk_cell b2 2
  have d3 : w2.cell? ⟨w0.heap.size + 1, 3, none⟩ = some (.int .i64 0) := blk_cell b2 3
  have d4 : w2.cell? ⟨w0.heap.size + 1, 4, none⟩ = some (.slice none 0 0) := blk_cell b2 4
  have df0 := blk_frozen b2 0
  have df1 := blk_frozen b2 1
  have df2 := blk_frozen b2 2
  have df3 := blk_frozen b2 3
  have df4 := blk_frozen b2 4
  have y0 : w2.cell? ⟨w0.heap.size, 0, none⟩ = some (.int .i64 x) := blk_cell b1 0
  clear b1 b2
  cases ok
  case false =>
    have HO : Hid (O = none) := Lib.hid (by rw [HOO.out]; exact wkP_neg (fun h => by have := HA.out.2 h.2.2; cases this))
    go_wp2_with fail
    refine ret_tyI3 (X := w0.heap.size + 1) rfl rfl rfl rfl (set5_blk H2.out.2.2 (.int .u8 0) (.bool false) (.int .i64 0) (.int .i64 0) (.slice none 0 0)) rfl ?_
    exact wkEndB_none HO.out (set5_new H2.out.1 (show w0.heap.size ≤ w0.heap.size + 1 by omega) _ _ _ _ _)
  have HM : Hid (AllT S L) := Lib.hid (HA.out.1 rfl)
  obtain ⟨j, hj⟩ : ∃ j : Nat, x = j := ⟨x.toNat, by omega⟩
  have hjL : j < nL := by omega
  have hjI : (j : Int) < (nL : Int) := by omega
  have HP : Hid (O = walkN S (L.getD j ty0) p.path N) := Lib.hid (by
    rw [HOO.out, wkP_pos ⟨⟨by rw [← HH.out.2.2.2.2.2.2.2]; exact h1', by rw [← HH.out.2.2.2.2.2.2.2, ← HH.out.2.2.2.2.2.1]; omega⟩, HN8.out, HM.out⟩, ← HH.out.2.2.2.2.2.2.1, ← HH.out.2.2.2.2.2.2.2, hj]
    rfl)
  obtain ⟨lb, lo, ta, tc, rfl, hty, hta⟩ := HH.out.2.1 j (by rw [← HH.out.2.2.2.2.2.1]; exact hjL)
  obtain ⟨l0, l1, l2, l3, l4⟩ := hty.kbF (HKB.out.trans H2.out.1)
  obtain ⟨t, ht⟩ : ∃ t, t = L.getD j ty0 := ⟨_, rfl⟩
  rw [← ht] at l0 l1 l2 l3 l4
  have hon : OnWay S B0 t ta tc := ⟨48, Nat.le_refl _, by
    refine HM.out.2 t ?_
    have hjl : j < L.length := by rw [← HH.out.2.2.2.2.2.1]; exact hjL
    rw [ht, List.getD_eq_getElem?_getD, List.getElem?_eq_getElem hjl]
    exact List.getElem_mem hjl, by rw [ht]; exact hta⟩
  have HT := Lib.hid (And.intro hon ht)
  subst hj
  clear hon ht hty hta dx dy h1 h2
  obtain ⟨W3, hW3⟩ : ∃ W3, W3 = w2.alloc (.cells #[.int .u8 t.k, .bool t.m, .int .i64 t.r, .int .i64 t.s, .slice ta t.of.length tc] 36) := ⟨_, rfl⟩
  have k3 := (KB.refl F0 w2).alloc (.cells #[.int .u8 t.k, .bool t.m, .int .i64 t.r, .int .i64 t.s, .slice ta t.of.length tc] 36)
  have b3 := alloc_new w2 (.cells #[.int .u8 t.k, .bool t.m, .int .i64 t.r, .int .i64 t.s, .slice ta t.of.length tc] 36)
  rw [← hW3] at k3 b3
  obtain ⟨X, hX⟩ : ∃ X, X = w2.heap.size := ⟨_, rfl⟩
  rw [← hX] at b3
  have H3 := Lib.hid (And.intro (H2.out.1.trans k3) (And.intro (k3.heap (fun x => x) H2.out.2.1) (And.intro (k3.heap (fun x => x) H2.out.2.2) b3)))
  have hz3 : X < W3.heap.size := heap_lt b3
  have hX0 : w0.heap.size + 1 < X := by have := heap_lt H2.out.2.2; omega
  have HW3 := Lib.hid hW3
  have HX := Lib.hid hX
  clear hW3 hX k3 b3
  go_upto_region 4 with fail
  rw [← HW3.out, ← HX.out]
  clear l0 l1 l2 l3 l4 y0 d0 d1 d2 d3 d4 df0 df1 df2 df3 df4
  go_wp2_with fail
  go_loopg [11, 10] N (fun g iv gv wr => ∃ i u ua uc hs ga gc, i ≤ N ∧ g = N - i ∧ iv = .int .i64 (i : Nat) ∧ gv = .slice ga i gc ∧ Hid (walkN S (L.getD j ty0) p.path i = some (u, hs) ∧ WkSt S B0 W3 X wr u ua uc (.slice ga i gc) hs))
  case atStart => exact ⟨0, t, ta, tc, [], none, 0, by omega, by omega, rfl, rfl, Lib.hid ⟨by rw [← HT.out.2]; rfl, KB.refl _ _, H3.out.2.2.2, HT.out.1, World.ownsRow_nil _ _ _ _⟩⟩
  case round =>
    obtain ⟨i, u, ua, uc, hs, ga, gc, hi, rfl, rfl, rfl, hst⟩ := hrel
    obtain ⟨wi, rfl⟩ : ∃ w, w = wr := ⟨_, rfl⟩
    have K0 := Lib.hid (H3.out.1.oldS hst.out.2.kb (fun k hk e => by omega))
    have hlen : hs.length = i := walkN_len hst.out.1
    have sy := hst.out.2.kb.heap (b := w0.heap.size) (by omega) H3.out.2.1
    have y1 : wi.cell? ⟨w0.heap.size, 1, none⟩ = some (.slice pa N pc) := blk_cell sy 1
    have s6 := hst.out.2.kb.heap (b := w0.heap.size + 1) (by omega) H3.out.2.2.1
    have HS6 := Lib.hid s6
    have hX3 := hst.out.2.cell
    clear sy s6
    by_cases hit : i < N
    · have hiI : (i : Int) < (N : Int) := by omega
      have dI : decide ((i : Int) < (N : Int)) = true := decide_eq_true hiI
      obtain ⟨pb, po, rfl, hpk⟩ := HH.out.2.2.1.ints i (by rw [← HH.out.2.2.2.2.2.2.1]; exact hit)
      have hpk := K0.out.cell (p := ⟨pb, po + i, none⟩) (fun x => x) hpk
      obtain ⟨k, hk⟩ : ∃ k, k = p.path.getD i 0 := ⟨_, rfl⟩
      rw [← hk] at hpk
      have HKK := Lib.hid hk
      have d0 : wi.cell? ⟨X, 0, none⟩ = some (.int .u8 u.k) := blk_cell hX3 0
      have d1 : wi.cell? ⟨X, 1, none⟩ = some (.bool u.m) := blk_cell hX3 1
      have d2 : wi.cell? ⟨X, 2, none⟩ = some (.int .i64 u.r) := blk_cell hX3 2
      have d3 : wi.cell? ⟨X, 3, none⟩ = some (.int .i64 u.s) := blk_cell hX3 3
      have d4 : wi.cell? ⟨X, 4, none⟩ = some (.slice ua u.of.length uc) := blk_cell hX3 4
      have df0 := blk_frozen hX3 0
      have df1 := blk_frozen hX3 1
      have df2 := blk_frozen hX3 2
      have df3 := blk_frozen hX3 3
      have df4 := blk_frozen hX3 4
      have hos := hst.out.2.own
      rw [hlen] at hos
      have hzi := hst.out.2.kb.size
      have HST := Lib.hid hst.out
      have SP := Lib.hid (fun (V : World) (hV : KB F0 wi V) => rwStep_any S HM.out.1 sa sc HH.out.2.2.2.1 u ua uc k B0 V (HKB.out.trans (K0.out.trans hV)) HH.out.1 hst.out.2.on)
      rw [← HH.out.2.2.2.2.1] at SP
      clear hk hX3 hst
      cases hsp : stepP S u k with
      | none =>
        rw [hsp] at SP
        have HSP := Lib.hid hsp
        clear hsp
        have HO : Hid (O = none) := Lib.hid (by rw [HP.out]; exact walkN_none (walkN_stop HST.out.1 (by rw [← HKK.out]; exact HSP.out)) (by omega))
        go_upto_region 8 with fail
        refine St.wp_region_rn 15 (St.GY 36 5 (fun _ => True) wi.heap.size) (St.kindXn [(7, (fun _ y => y = .tuple #[.agg #[.int .u8 u.k, .bool u.m, .int .i64 u.r, .int .i64 u.s, .slice ua u.of.length uc], .int .i64 0, .bool false]), fun _ _ _ _ => True), (12, fun _ y => St.IsPtr y, St.NewT 36 5 wi.heap.size), (13, fun _ y => y = undef, St.HasT 36 5 wi.heap.size (fun _ => True))]) (by kernel_rfl) (by kernel_rfl) St.gy_trans St.gy_refl (St.gy_start _) (fun _ _ h => h.size) (St.kindXn_mono _ (by intro q hq; simp only [List.mem_cons, List.not_mem_nil, or_false] at hq; rcases hq with rfl | rfl | rfl; exact fun _ _ _ _ _ _ h => h; exact St.newT_gy; exact St.hasT_gy)) ?_
        simp only [List.take_succ_cons, List.take_zero, List.drop_succ_cons, List.drop_zero]
        refine St.rn_det (by kernel_rfl) rfl (by intro w hG hH; go_simp; first | done | with_reducible rfl) ?_
        simp only [Act.put, List.setIfInBounds_toArray, List.set_cons_zero, List.set_cons_succ]
        refine St.rn_det (by kernel_rfl) rfl (by intro w hG hH; have hc0 := KB.cell (St.GY.kb hG (Nat.le_refl _)) (fun x => x) (d0); have hc1 := KB.cell (St.GY.kb hG (Nat.le_refl _)) (fun x => x) (d1); have hc2 := KB.cell (St.GY.kb hG (Nat.le_refl _)) (fun x => x) (d2); have hc3 := KB.cell (St.GY.kb hG (Nat.le_refl _)) (fun x => x) (d3); have hc4 := KB.cell (St.GY.kb hG (Nat.le_refl _)) (fun x => x) (d4); go_simp; first | done | with_reducible rfl) ?_
        simp only [Act.put, List.setIfInBounds_toArray, List.set_cons_zero, List.set_cons_succ]
        refine St.rn_det (by kernel_rfl) rfl (by intro w hG hH; go_simp; first | done | with_reducible rfl) ?_
        simp only [Act.put, List.setIfInBounds_toArray, List.set_cons_zero, List.set_cons_succ]
        refine St.rn_det (by kernel_rfl) rfl (by intro w hG hH; have hc0 := KB.cell (St.GY.kb hG (Nat.le_refl _)) (fun x => x) (y1); go_simp; first | done | with_reducible rfl) ?_
        simp only [Act.put, List.setIfInBounds_toArray, List.set_cons_zero, List.set_cons_succ]
        refine St.rn_det (by kernel_rfl) rfl (by intro w hG hH; go_simp; first | done | with_reducible rfl) ?_
        simp only [Act.put, List.setIfInBounds_toArray, List.set_cons_zero, List.set_cons_succ]
        refine St.rn_det (by kernel_rfl) rfl (by intro w hG hH; go_simp; first | done | with_reducible rfl) ?_
        simp only [Act.put, List.setIfInBounds_toArray, List.set_cons_zero, List.set_cons_succ]
        refine St.rn_det (by kernel_rfl) rfl (by intro w hG hH; have hc0 := KB.cell (St.GY.kb hG (Nat.le_refl _)) (fun x => x) (hpk); go_simp; first | done | with_reducible rfl) ?_
        simp only [Act.put, List.setIfInBounds_toArray, List.set_cons_zero, List.set_cons_succ]
        refine St.rn_plain (by kernel_rfl) rfl ⟨_, rfl⟩ (fun _ _ h => h.size) (by
          intro w hG hH
          refine St.opVal_call (by go_simp; first | done | exact ⟨⟨rfl, rfl⟩, rfl⟩) ?_
          refine (SP.out w (hG.kb (Nat.le_refl _))).mono ?_
          rintro e w' ⟨hk, rfl⟩
          exact ⟨_, rfl, rfl, St.gy_kbF hk, fun _ => trivial⟩) ?_
        rintro y g7 rfl
        simp only [Act.put, List.setIfInBounds_toArray, List.set_cons_zero, List.set_cons_succ]
        refine St.rn_det (by kernel_rfl) rfl (by intro w hG hH; go_simp; first | done | with_reducible rfl) ?_
        simp only [Act.put, List.setIfInBounds_toArray, List.set_cons_zero, List.set_cons_succ]
        refine St.rn_det (by kernel_rfl) rfl (by intro w hG hH; go_simp; first | done | with_reducible rfl) ?_
        simp only [Act.put, List.setIfInBounds_toArray, List.set_cons_zero, List.set_cons_succ]
        refine St.rn_det (by kernel_rfl) rfl (by intro w hG hH; go_simp; first | done | with_reducible rfl) ?_
        simp only [Act.put, List.setIfInBounds_toArray, List.set_cons_zero, List.set_cons_succ]
        refine St.rn_det (by kernel_rfl) rfl (by intro w hG hH; go_simp; first | done | with_reducible rfl) ?_
        simp only [Act.put, List.setIfInBounds_toArray, List.set_cons_zero, List.set_cons_succ]
        refine St.rn_plain (by kernel_rfl) rfl St.isPtr_ex (fun _ _ h => h.size) (fun w hG hH => St.opVal_newT rfl hG (by go_simp; first | done | rfl)) ?_
        rintro y g12 ⟨nb, rfl⟩
        simp only [Act.put, List.setIfInBounds_toArray, List.set_cons_zero, List.set_cons_succ]
        refine St.rn_plain (by kernel_rfl) rfl ⟨_, rfl⟩ (fun _ _ h => h.size) (by
          intro w hG hH
          obtain ⟨hB, cs, hz, hc⟩ := hH _ List.mem_cons_self (by kernel_rfl) nb rfl
          obtain ⟨q0, q1, q2, q3, q4, rfl⟩ := arr5 hz
          have m0 := blk_cell hc 0
          have m1 := blk_cell hc 1
          have m2 := blk_cell hc 2
          have m3 := blk_cell hc 3
          have m4 := blk_cell hc 4
          have n0 := blk_frozen hc 0
          have n1 := blk_frozen hc 1
          have n2 := blk_frozen hc 2
          have n3 := blk_frozen hc 3
          have n4 := blk_frozen hc 4
          simp only [List.getElem?_toArray, List.getElem?_cons_zero, List.getElem?_cons_succ] at m0 m1 m2 m3 m4
          refine St.opVal_storeT (w' := set5 w nb (.int .u8 u.k) (.bool u.m) (.int .i64 u.r) (.int .i64 u.s) (.slice ua u.of.length uc)) hB hc rfl trivial (set5_kb w nb _ _ _ _ _) (set5_blk hc _ _ _ _ _) rfl ?_
          unfold set5
          go_simp
          first | done | rfl) ?_
        rintro y g13 rfl
        simp only [Act.put, List.setIfInBounds_toArray, List.set_cons_zero, List.set_cons_succ]
        refine St.rn_det (by kernel_rfl) rfl (by intro w hG hH; go_simp; first | done | with_reducible rfl) ?_
        simp only [Act.put, List.setIfInBounds_toArray, List.set_cons_zero, List.set_cons_succ]
        refine St.rn_nil (fun w hG hH => ?_)
        have f13 := hH _ List.mem_cons_self nb rfl
        have K8 := Lib.hid (hG.kb (Nat.le_refl _))
        obtain ⟨hnb, cs, hcz, hcb, hcw⟩ := f13
        clear hG hH hcb hcw d0 d1 d2 d3 d4 df0 df1 df2 df3 df4
        obtain ⟨w8, rfl⟩ : ∃ q, q = w := ⟨_, rfl⟩
        have s8 := K8.out.heap (fun x => x) HS6.out
        have e0 : w8.cell? ⟨w0.heap.size + 1, 0, none⟩ = some (.int .u8 0) := blk_cell s8 0
        have e1 : w8.cell? ⟨w0.heap.size + 1, 1, none⟩ = some (.bool false) := blk_cell s8 1
        have e2 : w8.cell? ⟨w0.heap.size + 1, 2, none⟩ = some (.int .i64 0) := blk_cell s8 2
        have e3 : w8.cell? ⟨w0.heap.size + 1, 3, none⟩ = some (.int .i64 0) := blk_cell s8 3
        have e4 : w8.cell? ⟨w0.heap.size + 1, 4, none⟩ = some (.slice none 0 0) := blk_cell s8 4
        have ef0 := blk_frozen s8 0
        have ef1 := blk_frozen s8 1
        have ef2 := blk_frozen s8 2
        have ef3 := blk_frozen s8 3
        have ef4 := blk_frozen s8 4
        have HS8 := Lib.hid s8
        clear s8
        go_wp2_with fail
        refine ret_tyI3 (X := w0.heap.size + 1) rfl rfl rfl rfl (set5_blk HS8.out (.int .u8 0) (.bool false) (.int .i64 0) (.int .i64 0) (.slice none 0 0)) rfl ?_
        exact wkEndB_none HO.out (set5_new (K0.out.trans K8.out) (show w0.heap.size ≤ w0.heap.size + 1 by omega) _ _ _ _ _)
      | some ux =>
        obtain ⟨v, z⟩ := ux
        rw [hsp] at SP
        have hwn : Hid (walkN S (L.getD j ty0) p.path (i + 1) = some (v, hs ++ [z])) := Lib.hid (walkN_step HST.out.1 (by rw [← HKK.out]; exact hsp))
        have HSPE := Lib.hid hsp
        clear hsp
        go_upto_region 8 with fail
        have HEX : Hid (∃ y, StpV S B0 v z y) := Lib.hid (stepP_ex HM.out.1 HH.out.1 HST.out.2.on HSPE.out)
        refine St.wp_region_rn 15 (St.GY 36 5 (WtT S B0 v) wi.heap.size) (St.kindXn [(7, (fun _ y => StpV S B0 v z y), fun _ _ _ _ => True), (12, fun _ y => St.IsPtr y, St.NewT 36 5 wi.heap.size), (13, fun _ y => y = undef, St.HasT 36 5 wi.heap.size (WtT S B0 v))]) (by kernel_rfl) (by kernel_rfl) St.gy_trans St.gy_refl (St.gy_start _) (fun _ _ h => h.size) (St.kindXn_mono _ (by intro q hq; simp only [List.mem_cons, List.not_mem_nil, or_false] at hq; rcases hq with rfl | rfl | rfl; exact fun _ _ _ _ _ _ h => h; exact St.newT_gy; exact St.hasT_gy)) ?_
        simp only [List.take_succ_cons, List.take_zero, List.drop_succ_cons, List.drop_zero]
        refine St.rn_det (by kernel_rfl) rfl (by intro w hG hH; go_simp; first | done | with_reducible rfl) ?_
        simp only [Act.put, List.setIfInBounds_toArray, List.set_cons_zero, List.set_cons_succ]
        refine St.rn_det (by kernel_rfl) rfl (by intro w hG hH; have hc0 := KB.cell (St.GY.kb hG (Nat.le_refl _)) (fun x => x) (d0); have hc1 := KB.cell (St.GY.kb hG (Nat.le_refl _)) (fun x => x) (d1); have hc2 := KB.cell (St.GY.kb hG (Nat.le_refl _)) (fun x => x) (d2); have hc3 := KB.cell (St.GY.kb hG (Nat.le_refl _)) (fun x => x) (d3); have hc4 := KB.cell (St.GY.kb hG (Nat.le_refl _)) (fun x => x) (d4); go_simp; first | done | with_reducible rfl) ?_
        simp only [Act.put, List.setIfInBounds_toArray, List.set_cons_zero, List.set_cons_succ]
        refine St.rn_det (by kernel_rfl) rfl (by intro w hG hH; go_simp; first | done | with_reducible rfl) ?_
        simp only [Act.put, List.setIfInBounds_toArray, List.set_cons_zero, List.set_cons_succ]
        refine St.rn_det (by kernel_rfl) rfl (by intro w hG hH; have hc0 := KB.cell (St.GY.kb hG (Nat.le_refl _)) (fun x => x) (y1); go_simp; first | done | with_reducible rfl) ?_
        simp only [Act.put, List.setIfInBounds_toArray, List.set_cons_zero, List.set_cons_succ]
        refine St.rn_det (by kernel_rfl) rfl (by intro w hG hH; go_simp; first | done | with_reducible rfl) ?_
        simp only [Act.put, List.setIfInBounds_toArray, List.set_cons_zero, List.set_cons_succ]
        refine St.rn_det (by kernel_rfl) rfl (by intro w hG hH; go_simp; first | done | with_reducible rfl) ?_
        simp only [Act.put, List.setIfInBounds_toArray, List.set_cons_zero, List.set_cons_succ]
        refine St.rn_det (by kernel_rfl) rfl (by intro w hG hH; have hc0 := KB.cell (St.GY.kb hG (Nat.le_refl _)) (fun x => x) (hpk); go_simp; first | done | with_reducible rfl) ?_
        simp only [Act.put, List.setIfInBounds_toArray, List.set_cons_zero, List.set_cons_succ]
        refine St.rn_plain (by kernel_rfl) rfl HEX.out (fun _ _ h => h.size) (by
          intro w hG hH
          refine St.opVal_call (by go_simp; first | done | exact ⟨⟨rfl, rfl⟩, rfl⟩) ?_
          refine (SP.out w (hG.kb (Nat.le_refl _))).mono ?_
          rintro e w' ⟨hk, va, vc, rfl, hon⟩
          exact ⟨_, rfl, ⟨va, vc, rfl, hon⟩, St.gy_kbF hk, fun _ => trivial⟩) ?_
        rintro y g7 ⟨va, vc, rfl, hvon⟩
        simp only [Act.put, List.setIfInBounds_toArray, List.set_cons_zero, List.set_cons_succ]
        refine St.rn_det (by kernel_rfl) rfl (by intro w hG hH; go_simp; first | done | with_reducible rfl) ?_
        simp only [Act.put, List.setIfInBounds_toArray, List.set_cons_zero, List.set_cons_succ]
        refine St.rn_det (by kernel_rfl) rfl (by intro w hG hH; go_simp; first | done | with_reducible rfl) ?_
        simp only [Act.put, List.setIfInBounds_toArray, List.set_cons_zero, List.set_cons_succ]
        refine St.rn_det (by kernel_rfl) rfl (by intro w hG hH; go_simp; first | done | with_reducible rfl) ?_
        simp only [Act.put, List.setIfInBounds_toArray, List.set_cons_zero, List.set_cons_succ]
        refine St.rn_det (by kernel_rfl) rfl (by intro w hG hH; go_simp; first | done | with_reducible rfl) ?_
        simp only [Act.put, List.setIfInBounds_toArray, List.set_cons_zero, List.set_cons_succ]
        refine St.rn_plain (by kernel_rfl) rfl St.isPtr_ex (fun _ _ h => h.size) (fun w hG hH => St.opVal_newT rfl hG (by go_simp; first | done | rfl)) ?_
        rintro y g12 ⟨nb, rfl⟩
        simp only [Act.put, List.setIfInBounds_toArray, List.set_cons_zero, List.set_cons_succ]
        refine St.rn_plain (by kernel_rfl) rfl ⟨_, rfl⟩ (fun _ _ h => h.size) (by
          intro w hG hH
          obtain ⟨hB, cs, hz, hc⟩ := hH _ List.mem_cons_self (by kernel_rfl) nb rfl
          obtain ⟨q0, q1, q2, q3, q4, rfl⟩ := arr5 hz
          have m0 := blk_cell hc 0
          have m1 := blk_cell hc 1
          have m2 := blk_cell hc 2
          have m3 := blk_cell hc 3
          have m4 := blk_cell hc 4
          have n0 := blk_frozen hc 0
          have n1 := blk_frozen hc 1
          have n2 := blk_frozen hc 2
          have n3 := blk_frozen hc 3
          have n4 := blk_frozen hc 4
          simp only [List.getElem?_toArray, List.getElem?_cons_zero, List.getElem?_cons_succ] at m0 m1 m2 m3 m4
          refine St.opVal_storeT (w' := set5 w nb (.int .u8 v.k) (.bool v.m) (.int .i64 v.r) (.int .i64 v.s) (.slice va v.of.length vc)) hB hc rfl ⟨va, vc, rfl, hvon⟩ (set5_kb w nb _ _ _ _ _) (set5_blk hc _ _ _ _ _) rfl ?_
          unfold set5
          go_simp
          first | done | rfl) ?_
        rintro y g13 rfl
        simp only [Act.put, List.setIfInBounds_toArray, List.set_cons_zero, List.set_cons_succ]
        refine St.rn_det (by kernel_rfl) rfl (by intro w hG hH; go_simp; first | done | with_reducible rfl) ?_
        simp only [Act.put, List.setIfInBounds_toArray, List.set_cons_zero, List.set_cons_succ]
        refine St.rn_nil (fun w hG hH => ?_)
        have f13 := hH _ List.mem_cons_self nb rfl
        have K8 := Lib.hid (hG.kb (Nat.le_refl _))
        obtain ⟨hnb, cs, hcz, hcb, hcw⟩ := f13
        obtain ⟨wa, wc', rfl, hwon⟩ := hcw
        have HWO := Lib.hid hwon
        clear hG hH hwon hvon hcz d0 d1 d2 d3 d4 df0 df1 df2 df3 df4
        obtain ⟨w8, rfl⟩ : ∃ q, q = w := ⟨_, rfl⟩
        have q0 : w8.cell? ⟨nb, 0, none⟩ = some (.int .u8 v.k) := blk_cell hcb 0
        have q1 : w8.cell? ⟨nb, 1, none⟩ = some (.bool v.m) := blk_cell hcb 1
        have q2 : w8.cell? ⟨nb, 2, none⟩ = some (.int .i64 v.r) := blk_cell hcb 2
        have q3 : w8.cell? ⟨nb, 3, none⟩ = some (.int .i64 v.s) := blk_cell hcb 3
        have q4 : w8.cell? ⟨nb, 4, none⟩ = some (.slice wa v.of.length wc') := blk_cell hcb 4
        have hx8 := K8.out.heap (fun x => x) HST.out.2.cell
        have df0 := blk_frozen hx8 0
        have df1 := blk_frozen hx8 1
        have df2 := blk_frozen hx8 2
        have df3 := blk_frozen hx8 3
        have df4 := blk_frozen hx8 4
        have d0 : w8.cell? ⟨X, 0, none⟩ = some (.int .u8 u.k) := blk_cell hx8 0
        have d1 : w8.cell? ⟨X, 1, none⟩ = some (.bool u.m) := blk_cell hx8 1
        have d2 : w8.cell? ⟨X, 2, none⟩ = some (.int .i64 u.r) := blk_cell hx8 2
        have d3 : w8.cell? ⟨X, 3, none⟩ = some (.int .i64 u.s) := blk_cell hx8 3
        have d4 : w8.cell? ⟨X, 4, none⟩ = some (.slice ua u.of.length uc) := blk_cell hx8 4
        have hnX : nb ≠ X := by omega
        have hos8 := own_kb hos K8.out (fun _ _ x => x)
        have hx9 := set5_blk hx8 (.int .u8 v.k) (.bool v.m) (.int .i64 v.r) (.int .i64 v.s) (.slice wa v.of.length wc')
        obtain ⟨w9, hw9⟩ : ∃ q, q = set5 w8 X (.int .u8 v.k) (.bool v.m) (.int .i64 v.r) (.int .i64 v.s) (.slice wa v.of.length wc') := ⟨_, rfl⟩
        have k9 : KB (fun k => k = X) wi w9 := by rw [hw9]; exact (K8.out.mono (fun _ _ x => x.elim)).trans (set5_kb w8 X _ _ _ _ _)
        have hos9 := own_kb hos k9 (fun k e1 e2 => by
          obtain ⟨c1, h1, h2⟩ := own_block hos e1
          omega)
        rw [← hw9] at hx9
        have H9 := Lib.hid (And.intro k9 (And.intro hx9 hos9))
        have hz9 := k9.size
        have HW9 := Lib.hid hw9
        clear hw9 k9 hx9 hos9 hos8 hx8 hcb
        go_upto_region 12 with fail
        unfold set5 at HW9
        rw [← HW9.out]
        clear q0 q1 q2 q3 q4 d0 d1 d2 d3 d4 df0 df1 df2 df3 df4 hnX hnb
        go_wp2_with (at_builtin; refine Stopped.out ?_)
        refine ⟨?_⟩
        have ho2 := own_kb H9.out.2.2 ((KB.refl F0 w9).alloc (.cells #[.int .i64 z] 3)) (fun _ _ x => x)
        refine app1 37 3 W3.heap.size (.int .i64 z) Tryz.infoIntV Tryz.underlying37 rfl ho2 rfl rfl rfl rfl (blk_cell (alloc_new _ _) 0) rfl (by unfold maxLen; omega) (by omega) (by have := ((KB.refl F0 w9).alloc (.cells #[.int .i64 z] 3)).size; omega) ?_
        intro v' w' hown' hgr
        obtain ⟨va', vc', e2⟩ : ∃ a c, v' = .slice a (i + 1) c := by
          obtain ⟨a, c, e, -⟩ := own_shape hown'
          exact ⟨a, c, e⟩
        subst e2
        have HN := Lib.hid (And.intro hwn.out (HST.out.2.next2 hz3 HWO.out H9.out.1 H9.out.2.1 (by rw [hlen]; exact hown') hgr))
        clear ho2 hown' hgr
        go_wp2_with fail
        go_roundg (N - (i + 1))
        case measure => omega
        case rel => exact ⟨i + 1, v, wa, wc', hs ++ [z], va', vc', by omega, rfl, by go_num, rfl, HN⟩
    · obtain rfl : i = N := by omega
      have dI : decide ((i : Int) < (i : Int)) = false := decide_eq_false (by omega)
      have d0 : wi.cell? ⟨X, 0, none⟩ = some (.int .u8 u.k) := blk_cell hX3 0
      have d1 : wi.cell? ⟨X, 1, none⟩ = some (.bool u.m) := blk_cell hX3 1
      have d2 : wi.cell? ⟨X, 2, none⟩ = some (.int .i64 u.r) := blk_cell hX3 2
      have d3 : wi.cell? ⟨X, 3, none⟩ = some (.int .i64 u.s) := blk_cell hX3 3
      have d4 : wi.cell? ⟨X, 4, none⟩ = some (.slice ua u.of.length uc) := blk_cell hX3 4
      have e0 : wi.cell? ⟨w0.heap.size + 1, 0, none⟩ = some (.int .u8 0) := blk_cell HS6.out 0
      have e1 : wi.cell? ⟨w0.heap.size + 1, 1, none⟩ = some (.bool false) := blk_cell HS6.out 1
      have e2 : wi.cell? ⟨w0.heap.size + 1, 2, none⟩ = some (.int .i64 0) := blk_cell HS6.out 2
      have e3 : wi.cell? ⟨w0.heap.size + 1, 3, none⟩ = some (.int .i64 0) := blk_cell HS6.out 3
      have e4 : wi.cell? ⟨w0.heap.size + 1, 4, none⟩ = some (.slice none 0 0) := blk_cell HS6.out 4
      have ef0 := blk_frozen HS6.out 0
      have ef1 := blk_frozen HS6.out 1
      have ef2 := blk_frozen HS6.out 2
      have ef3 := blk_frozen HS6.out 3
      have ef4 := blk_frozen HS6.out 4
      have HE2 : Hid (WkEndB S B0 w0 O (.returned (.tuple #[.agg #[.int .u8 u.k, .bool u.m, .int .i64 u.r, .int .i64 u.s, .slice ua u.of.length uc], .slice ga i gc, .bool true])) (set5 wi (w0.heap.size + 1) (.int .u8 u.k) (.bool u.m) (.int .i64 u.r) (.int .i64 u.s) (.slice ua u.of.length uc))) := Lib.hid (by
        rw [HP.out, hst.out.1]
        refine ⟨set5_new K0.out (show w0.heap.size ≤ w0.heap.size + 1 by omega) _ _ _ _ _, ua, uc, .slice ga i gc, rfl, hst.out.2.on, ?_⟩
        refine own_base (own_kb hst.out.2.own (set5_kb wi (w0.heap.size + 1) _ _ _ _ _) (fun k e1 e2 => ?_)) H3.out.1.size
        obtain ⟨c1, h1, h2⟩ := own_block hst.out.2.own e1
        omega)
      clear hst hX3
      go_wp2_with fail
      exact ret_tyI3 (X := w0.heap.size + 1) rfl rfl rfl rfl (set5_blk HS6.out (.int .u8 u.k) (.bool u.m) (.int .i64 u.r) (.int .i64 u.s) (.slice ua u.of.length uc)) rfl HE2.out
end Go.Proofs.YtpigppghcghpbaaGreatDoor

/- loanwordlaw09.PlaceDepths. -/
import Derived.Test.YtpigppghcghpbaaGreatDoorMg38
import Derived.Test.YtpigppghcghpbaaGreatDoorPwI
import Derived.Test.YtpigppghcghpbaaGreatDoorPwW
namespace Go.Proofs.YtpigppghcghpbaaGreatDoor
open Go.RowKit

theorem new4b (w0 : World) (cs ds es fs : Array Value) (s t u v : TypeId) : KB F0 w0 ((((w0.alloc (.cells cs s)).alloc (.cells ds t)).alloc (.cells es u)).alloc (.cells fs v)) ∧
    ((((w0.alloc (.cells cs s)).alloc (.cells ds t)).alloc (.cells es u)).alloc (.cells fs v)).heap[w0.heap.size]? = some (.cells cs s (0, 0)) ∧ ((((w0.alloc (.cells cs s)).alloc (.cells ds t)).alloc (.cells es u)).alloc (.cells fs v)).heap[w0.heap.size + 1]? = some (.cells ds t (0, 0)) ∧
    ((((w0.alloc (.cells cs s)).alloc (.cells ds t)).alloc (.cells es u)).alloc (.cells fs v)).heap[w0.heap.size + 1 + 1]? = some (.cells es u (0, 0)) ∧ ((((w0.alloc (.cells cs s)).alloc (.cells ds t)).alloc (.cells es u)).alloc (.cells fs v)).heap[w0.heap.size + 1 + 1 + 1]? = some (.cells fs v (0, 0)) := by
  obtain ⟨k, h1, h2, h3, h4⟩ := new3 w0 cs ds es s t u
  have kx := (KB.refl F0 (((w0.alloc (.cells cs s)).alloc (.cells ds t)).alloc (.cells es u))).alloc (.cells fs v)
  exact ⟨k.trans kx, kx.heap (fun x => x) h1, kx.heap (fun x => x) h2, kx.heap (fun x => x) h3, by rw [show w0.heap.size + 1 + 1 + 1 = w0.heap.size + 3 from rfl, ← h4]; exact alloc_new _ _⟩
theorem u8_wrap {x : Int} (h0 : 0 ≤ x) (h1 : x ≤ 200) : IntKind.u8.wrap x = x := by simp [IntKind.wrap, IntKind.bits, IntKind.signed]; omega
theorem bare_at (w : World) (x : Int) (c : Nat) : PlAt w ⟨x, []⟩ none c := ⟨fun k hk => by simp at hk, Nat.zero_le _, by show (0:Nat) ≤ 100000; omega⟩
theorem cut_same (p : Pl) {n : Nat} (hn : n ≤ p.path.length) : decide (ordP (cutP p n) p = 0) = decide (n = p.path.length) := by
  rw [Bool.eq_iff_iff]
  simp only [decide_eq_true_eq]
  rw [ordP_zero]
  constructor
  · rintro ⟨-, h⟩
    have := congrArg List.length h
    have h2 : (cutP p n).path.length = n := by show (p.path.take n).length = n; rw [List.length_take]; omega
    omega
  · rintro rfl
    exact ⟨rfl, List.take_length⟩
theorem bare_win {S : List (List Ty)} {L : List Ty} {p : Pl} (h : (wkP S L p).isSome = true) {n : Nat} (hn : n = heldN (hows (wkP S L p))) (hnl : n ≤ p.path.length) :
    winV (bareP p) (cutP p n) (wkP S L (bareP p)) (wkP S L (cutP p n)) 2 = (true, 0) := by
  have h0 : (wkP S L (bareP p)).isSome = true := (wkP_cut h (Nat.zero_le _)).1
  have h1 := wkP_cut h hnl
  rw [winV_yes ⟨h0, h1.1, by omega, by omega⟩]
  unfold winB
  rw [bare_preB p (cutP p n) rfl, h1.2, Bool.true_and]
  show (((hows (wkP S L p)).take n).all (fun x => decide (x ≤ 2 - 1)), (0 : Int)) = _
  rw [hn, held_all]
theorem whole_win {S : List (List Ty)} {L : List Ty} {p : Pl} (h : (wkP S L p).isSome = true) {n : Nat} (hn : n = heldN (hows (wkP S L p))) :
    winV (bareP p) p (wkP S L (bareP p)) (wkP S L p) 2 = (decide (n = p.path.length), 0) := by
  have h0 : (wkP S L (bareP p)).isSome = true := (wkP_cut h (Nat.zero_le _)).1
  rw [winV_yes ⟨h0, h, by omega, by omega⟩]
  unfold winB
  rw [bare_preB p p rfl, Bool.true_and]
  show ((hows (wkP S L p)).all (fun x => decide (x ≤ 2 - 1)), (0 : Int)) = _
  rw [held_full, hn, hows_len h]
set_option maxRecDepth 100000 in
set_option maxHeartbeats 64000000 in
theorem depthsLaw_any (S : List (List Ty)) (sa : Option Addr) (sc : Nat) (hsc : S.length ≤ sc) (L : List Ty) (la : Option Addr) (lc : Nat) (p q r : Pl) (ap aq ar : Option Addr) (cp cq cr : Nat) (w : World) (hT : TabP w) (hS : StsAt 61 w sa S) (hL : TysAt 61 w la L) (hp : IntsAt w ap p.path) (hq : IntsAt w aq q.path) (hr : IntsAt w ar r.path)
    (hcp : p.path.length ≤ cp) (hcq : q.path.length ≤ cq) (hcr : r.path.length ≤ cr) :
    Calls Tryz.prog 6 #[.slice sa S.length sc, .slice la L.length lc, plV p ap cp, plV q aq cq, plV r ar cr] w fun e w' => e = .returned (.bool true) ∧ KB F0 w w' := by
  obtain ⟨w0, rfl⟩ : ∃ w0, w0 = w := ⟨_, rfl⟩
  obtain ⟨Np, hNp⟩ : ∃ N, N = p.path.length := ⟨_, rfl⟩
  obtain ⟨Nq, hNq⟩ : ∃ N, N = q.path.length := ⟨_, rfl⟩
  obtain ⟨Nr, hNr⟩ : ∃ N, N = r.path.length := ⟨_, rfl⟩
  obtain ⟨lp, hlp⟩ : ∃ x, x = p.loc := ⟨_, rfl⟩
  obtain ⟨lq, hlq⟩ : ∃ x, x = q.loc := ⟨_, rfl⟩
  obtain ⟨lr, hlr⟩ : ∃ x, x = r.loc := ⟨_, rfl⟩
  obtain ⟨nS, hnS⟩ : ∃ n, n = S.length := ⟨_, rfl⟩
  obtain ⟨nL, hnL⟩ : ∃ n, n = L.length := ⟨_, rfl⟩
  obtain ⟨hk4, hb1, hb2, hb3, hb4⟩ := new4b w0 #[.int .i64 lp, .slice ap Np cp] #[.int .i64 lq, .slice aq Nq cq] #[.int .i64 lr, .slice ar Nr cr] #[.int .i64 lp, .slice ap Np cp, .int .i64 lq, .slice aq Nq cq, .int .i64 lr, .slice ar Nr cr] 26 26 26 26
  obtain ⟨W, hW⟩ : ∃ W, W = ((((w0.alloc (.cells #[.int .i64 lp, .slice ap Np cp] 26)).alloc (.cells #[.int .i64 lq, .slice aq Nq cq] 26)).alloc (.cells #[.int .i64 lr, .slice ar Nr cr] 26)).alloc (.cells #[.int .i64 lp, .slice ap Np cp, .int .i64 lq, .slice aq Nq cq, .int .i64 lr, .slice ar Nr cr] 26)) := ⟨_, rfl⟩
  rw [← hW] at hk4 hb1 hb2 hb3 hb4
  have FT := Lib.hid (fits_any S sa sc L la lc 3 (by omega) (fun k => if k = 0 then Np else if k = 1 then Nq else Nr) (w0.heap.size + 1 + 1 + 1) W (hS.kbF hk4) (hL.kbF hk4) (fun k hk => by
    obtain rfl | rfl | rfl : k = 0 ∨ k = 1 ∨ k = 2 := by omega
    · exact ⟨ap, cp, blk_cell hb4 1⟩
    · exact ⟨aq, cq, blk_cell hb4 3⟩
    · exact ⟨ar, cr, blk_cell hb4 5⟩))
  have HB := Lib.hid (And.intro hk4 (And.intro hb1 (And.intro hb2 hb3)))
  have AW := Lib.hid (fun (V : World) (hk : KB F0 W V) => awake_any V (hT.kb (hk4.trans hk)))
  have HPQ := Lib.hid (fun (hlp : Np ≤ 60) (hlq : Nq ≤ 60) (hlr : Nr ≤ 60) (V : World) (hk : KB F0 W V) => And.intro (show PlAt V p ap cp from ⟨hp.kbF (hk4.trans hk), hcp, by omega⟩) (And.intro (show PlAt V q aq cq from ⟨hq.kbF (hk4.trans hk), hcq, by omega⟩) (show PlAt V r ar cr from ⟨hr.kbF (hk4.trans hk), hcr, by omega⟩)))
  have HSL := Lib.hid (fun (V : World) (hk : KB F0 W V) => And.intro ((hS.le (show 49 ≤ 61 by omega)).kbF (hk4.trans hk)) ((hL.le (show 49 ≤ 61 by omega)).kbF (hk4.trans hk)))
  have HW := Lib.hid hW
  have HN := Lib.hid (And.intro (And.intro hNp (And.intro hNq hNr)) (And.intro (And.intro hlp (And.intro hlq hlr)) (And.intro hnS (And.intro hnL hsc))))
  have ep : ∀ a c, plV p a c = .agg #[.int .i64 lp, .slice a Np c] := fun a c => by rw [hlp, hNp]; rfl
  have eq : ∀ a c, plV q a c = .agg #[.int .i64 lq, .slice a Nq c] := fun a c => by rw [hlq, hNq]; rfl
  have er : ∀ a c, plV r a c = .agg #[.int .i64 lr, .slice a Nr c] := fun a c => by rw [hlr, hNr]; rfl
  rw [ep, eq, er, ← hnS, ← hnL]
  rw [← hnS, ← hnL] at FT
  have HE := Lib.hid (And.intro ep (And.intro eq er))
  have HP0 := Lib.hid (And.intro hb1 (And.intro hb2 hb3))
  have p0 : W.cell? ⟨w0.heap.size, 0, none⟩ = some (.int .i64 lp) := blk_cell hb1 0
  have p1 : W.cell? ⟨w0.heap.size, 1, none⟩ = some (.slice ap Np cp) := blk_cell hb1 1
  have q0 : W.cell? ⟨w0.heap.size + 1, 0, none⟩ = some (.int .i64 lq) := blk_cell hb2 0
  have q1 : W.cell? ⟨w0.heap.size + 1, 1, none⟩ = some (.slice aq Nq cq) := blk_cell hb2 1
  have r0 : W.cell? ⟨w0.heap.size + 1 + 1, 0, none⟩ = some (.int .i64 lr) := blk_cell hb3 0
  have r1 : W.cell? ⟨w0.heap.size + 1 + 1, 1, none⟩ = some (.slice ar Nr cr) := blk_cell hb3 1
  have HC := Lib.hid (And.intro (And.intro p0 p1) (And.intro (And.intro q0 q1) (And.intro r0 r1)))
  clear p0 p1 q0 q1 r0 r1
  clear hk4 hb1 hb2 hb3 hb4 hW hT hp hq hr hcp hcq hcr hNp hNq hNr hlp hlq hlr ep eq er hnS hnL hS hL hsc
  go_enter Tryz.func6, Tryz.ntmps6
  go_wp2_with fail
  rw [← HW.out]
  refine FT.out.mono ?_
  rintro e w1 ⟨ok, rfl, hF, k1⟩
  have HF := Lib.hid hF
  have K1 := Lib.hid k1
  clear hF k1 FT
  cases ok
  case false =>
    go_wp2_with fail
    refine (AW.out _ K1.out).mono ?_
    rintro e w2 ⟨rfl, k2⟩
    have K2 := Lib.hid (HB.out.1.trans (K1.out.trans k2))
    clear k2
    go_wp2_with fail
    go_ret
    exact ⟨rfl, K2.out⟩
  have HFS : Hid (FitsS S L 3 (fun k => if k = 0 then Np else if k = 1 then Nq else Nr)) := Lib.hid (HF.out rfl)
  have hNp60 : Np ≤ 60 := HFS.out.p 0 (by omega)
  have hNq60 : Nq ≤ 60 := HFS.out.p 1 (by omega)
  have hNr60 : Nr ≤ 60 := HFS.out.p 2 (by omega)
  have hS1 : S.length ≤ 1000000 := by have := HFS.out.s; omega
  have hL1 : L.length ≤ 1000000 := by have := HFS.out.l; omega
  have hF1 : ∀ i, (fds S i).length ≤ 1000000 := fun i => by have := HFS.out.f i; omega
  have hsc := HN.out.2.2.2.2
  have PP := Lib.hid (fun (V : World) (hk : KB F0 W V) => HPQ.out hNp60 hNq60 hNr60 V hk)
  have M1 := fun (V : World) (hk : KB F0 W V) => And.intro (plMay_any S hS1 hF1 sa sc hsc L hL1 la lc p ap cp V (HSL.out V hk).1 (HSL.out V hk).2 (PP.out V hk).1) (And.intro (plMay_any S hS1 hF1 sa sc hsc L hL1 la lc q aq cq V (HSL.out V hk).1 (HSL.out V hk).2 (PP.out V hk).2.1) (plMay_any S hS1 hF1 sa sc hsc L hL1 la lc r ar cr V (HSL.out V hk).1 (HSL.out V hk).2 (PP.out V hk).2.2))
  have C1 := fun (d : Int) (V : World) (hk : KB F0 W V) => And.intro (plWithin_any S hS1 hF1 sa sc hsc L hL1 la lc p q ap aq cp cq d V (HSL.out V hk).1 (HSL.out V hk).2 (PP.out V hk).1 (PP.out V hk).2.1) (And.intro (plWithin_any S hS1 hF1 sa sc hsc L hL1 la lc q r aq ar cq cr d V (HSL.out V hk).1 (HSL.out V hk).2 (PP.out V hk).2.1 (PP.out V hk).2.2) (plWithin_any S hS1 hF1 sa sc hsc L hL1 la lc p r ap ar cp cr d V (HSL.out V hk).1 (HSL.out V hk).2 (PP.out V hk).1 (PP.out V hk).2.2))
  have X1 := fun (V : World) (hk : KB F0 W V) => And.intro (prefix_any p q ap aq cp cq V (PP.out V hk).1 (PP.out V hk).2.1) (prefix_any q r aq ar cq cr V (PP.out V hk).2.1 (PP.out V hk).2.2)
  have H1 := fun (V : World) (hk : KB F0 W V) => plHeld_any S hS1 hF1 sa sc hsc L hL1 la lc p ap cp V (HSL.out V hk).1 (HSL.out V hk).2 (PP.out V hk).1
  have H2 := Lib.hid (fun (u : Pl) (a : Option Addr) (c : Nat) (V : World) (hk : KB F0 W V) (hu : PlAt V u a c) => plHeld_any S hS1 hF1 sa sc hsc L hL1 la lc u a c V (HSL.out V hk).1 (HSL.out V hk).2 hu)
  have H3 := Lib.hid (fun (u v : Pl) (a b : Option Addr) (c d : Nat) (V : World) (hk : KB F0 W V) (hu : PlAt V u a c) (hv : PlAt V v b d) => plWithin_any S hS1 hF1 sa sc hsc L hL1 la lc u v a b c d 2 V (HSL.out V hk).1 (HSL.out V hk).2 hu hv)
  simp only [HE.out.1, HE.out.2.1, HE.out.2.2, ← HN.out.2.2.1, ← HN.out.2.2.2.1] at M1 C1 X1 H1
  have M2 := Lib.hid M1
  have C2 := Lib.hid C1
  have X2 := Lib.hid X1
  have HH1 := Lib.hid H1
  clear M1 C1 X1 H1 hS1 hL1 hF1 hsc
  have p0 := K1.out.cell (p := ⟨w0.heap.size, 0, none⟩) (fun x => x) HC.out.1.1
  have p1 := K1.out.cell (p := ⟨w0.heap.size, 1, none⟩) (fun x => x) HC.out.1.2
  go_wp2_with fail
  refine ((M2.out _ K1.out).1).mono ?_
  rintro e w2 ⟨rfl, k2⟩
  have K2 := Lib.hid (K1.out.trans k2)
  clear k2 p0 p1
  cases hvp : (wkP S L p).isSome
  case false =>
    go_wp2_with fail
    refine (AW.out _ K2.out).mono ?_
    rintro e w3 ⟨rfl, k3⟩
    have K3 := Lib.hid (HB.out.1.trans (K2.out.trans k3))
    clear k3
    go_wp2_with fail
    go_ret
    exact ⟨rfl, K3.out⟩
  have HVp := Lib.hid hvp
  clear hvp
  have q0 := K2.out.cell (p := ⟨w0.heap.size + 1, 0, none⟩) (fun x => x) HC.out.2.1.1
  have q1 := K2.out.cell (p := ⟨w0.heap.size + 1, 1, none⟩) (fun x => x) HC.out.2.1.2
  go_wp2_with fail
  refine ((M2.out _ K2.out).2.1).mono ?_
  rintro e w3 ⟨rfl, k3⟩
  have K3 := Lib.hid (K2.out.trans k3)
  clear k3 q0 q1
  cases hvq : (wkP S L q).isSome
  case false =>
    go_wp2_with fail
    refine (AW.out _ K3.out).mono ?_
    rintro e w4 ⟨rfl, k4⟩
    have K4 := Lib.hid (HB.out.1.trans (K3.out.trans k4))
    clear k4
    go_wp2_with fail
    go_ret
    exact ⟨rfl, K4.out⟩
  have HVq := Lib.hid hvq
  clear hvq
  have r0 := K3.out.cell (p := ⟨w0.heap.size + 1 + 1, 0, none⟩) (fun x => x) HC.out.2.2.1
  have r1 := K3.out.cell (p := ⟨w0.heap.size + 1 + 1, 1, none⟩) (fun x => x) HC.out.2.2.2
  go_wp2_with fail
  refine ((M2.out _ K3.out).2.2).mono ?_
  rintro e w4 ⟨rfl, k4⟩
  have K4 := Lib.hid (K3.out.trans k4)
  clear k4 r0 r1
  cases hvr : (wkP S L r).isSome
  case false =>
    go_wp2_with fail
    refine (AW.out _ K4.out).mono ?_
    rintro e w5 ⟨rfl, k5⟩
    have K5 := Lib.hid (HB.out.1.trans (K4.out.trans k5))
    clear k5
    go_wp2_with fail
    go_ret
    exact ⟨rfl, K5.out⟩
  have HVr := Lib.hid hvr
  clear hvr
  have CC := Lib.hid (fun (d : Int) (hd : 1 ≤ d ∧ d ≤ 3) (V : World) (hk : KB F0 W V) => C2.out d V hk)
  go_wp2_with fail
  go_loopg [12, 11] 3 (fun g dv bv wr => ∃ (d : Int) (was : Bool), 1 ≤ d ∧ d ≤ 4 ∧ g = (4 - d).toNat ∧ dv = .int .u8 d ∧ bv = .bool was ∧ Hid (KB F0 W wr ∧ (was = true → winB p q (hows (wkP S L q)) (d - 1) = true)))
  case atStart => exact ⟨1, false, by omega, by omega, by omega, rfl, rfl, Lib.hid ⟨K4.out, fun h => by cases h⟩⟩
  case round =>
    obtain ⟨d, was, hd1, hd4, rfl, rfl, rfl, hst⟩ := hrel
    have K5 := Lib.hid hst.out.1
    by_cases hd3 : d ≤ 3
    · have dd : decide (d ≤ 3) = true := decide_eq_true hd3
      have hwr : IntKind.u8.wrap (d + 1) = d + 1 := u8_wrap (by omega) (by omega)
      obtain ⟨pq, hpq⟩ : ∃ b, b = winB p q (hows (wkP S L q)) d := ⟨_, rfl⟩
      obtain ⟨qr, hqr⟩ : ∃ b, b = winB q r (hows (wkP S L r)) d := ⟨_, rfl⟩
      obtain ⟨pr, hpr⟩ : ∃ b, b = winB p r (hows (wkP S L r)) d := ⟨_, rfl⟩
      obtain ⟨b1, hb1⟩ : ∃ b, b = preB p q := ⟨_, rfl⟩
      obtain ⟨b2, hb2⟩ : ∃ b, b = preB q r := ⟨_, rfl⟩
      have E1 : winV p q (wkP S L p) (wkP S L q) d = (pq, 0) := by rw [hpq]; exact winV_yes ⟨HVp.out, HVq.out, hd1, hd3⟩
      have E2 : winV q r (wkP S L q) (wkP S L r) d = (qr, 0) := by rw [hqr]; exact winV_yes ⟨HVq.out, HVr.out, hd1, hd3⟩
      have E3 : winV p r (wkP S L p) (wkP S L r) d = (pr, 0) := by rw [hpr]; exact winV_yes ⟨HVp.out, HVr.out, hd1, hd3⟩
      have T := C2.out d
      rw [E1, E2, E3] at T
      have TT := Lib.hid T
      have XX := X2.out
      rw [← hb1, ← hb2] at XX
      have X3 := Lib.hid XX
      have hw1 : was = true → pq = true := fun h => by rw [hpq]; exact win_mono (by omega) (hst.out.2 h)
      have hw2 : pq = true → b1 = true := fun h => by rw [hb1]; exact win_pre (hpq ▸ h)
      have hw3 : b1 = true → b2 = true → pr = (pq && qr) := fun h1 h2 => by rw [hpr, hpq, hqr]; exact win_goes (hb1 ▸ h1) (hb2 ▸ h2) HVr.out
      have HNX : Hid (∀ wr', KB F0 W wr' → KB F0 W wr' ∧ (pq = true → winB p q (hows (wkP S L q)) (d + 1 - 1) = true)) := Lib.hid (fun wr' hk => ⟨hk, fun h => by rw [show d + 1 - 1 = d by omega, ← hpq]; exact h⟩)
      clear T XX E1 E2 E3 hpq hqr hpr hb1 hb2 hst
      have p0 := K5.out.cell (p := ⟨w0.heap.size, 0, none⟩) (fun x => x) HC.out.1.1
      have p1 := K5.out.cell (p := ⟨w0.heap.size, 1, none⟩) (fun x => x) HC.out.1.2
      have q0 := K5.out.cell (p := ⟨w0.heap.size + 1, 0, none⟩) (fun x => x) HC.out.2.1.1
      have q1 := K5.out.cell (p := ⟨w0.heap.size + 1, 1, none⟩) (fun x => x) HC.out.2.1.2
      go_wp2_with fail
      refine ((TT.out _ K5.out).1).mono ?_
      rintro e w6 ⟨rfl, k6⟩
      have K6 := Lib.hid (K5.out.trans k6)
      clear k6 p0 p1 q0 q1
      have q0 := K6.out.cell (p := ⟨w0.heap.size + 1, 0, none⟩) (fun x => x) HC.out.2.1.1
      have q1 := K6.out.cell (p := ⟨w0.heap.size + 1, 1, none⟩) (fun x => x) HC.out.2.1.2
      have r0 := K6.out.cell (p := ⟨w0.heap.size + 1 + 1, 0, none⟩) (fun x => x) HC.out.2.2.1
      have r1 := K6.out.cell (p := ⟨w0.heap.size + 1 + 1, 1, none⟩) (fun x => x) HC.out.2.2.2
      go_wp2_with fail
      refine ((TT.out _ K6.out).2.1).mono ?_
      rintro e w7 ⟨rfl, k7⟩
      have K7 := Lib.hid (K6.out.trans k7)
      clear k7 q0 q1 r0 r1
      have p0 := K7.out.cell (p := ⟨w0.heap.size, 0, none⟩) (fun x => x) HC.out.1.1
      have p1 := K7.out.cell (p := ⟨w0.heap.size, 1, none⟩) (fun x => x) HC.out.1.2
      have r0 := K7.out.cell (p := ⟨w0.heap.size + 1 + 1, 0, none⟩) (fun x => x) HC.out.2.2.1
      have r1 := K7.out.cell (p := ⟨w0.heap.size + 1 + 1, 1, none⟩) (fun x => x) HC.out.2.2.2
      go_wp2_with fail
      refine ((TT.out _ K7.out).2.2).mono ?_
      rintro e w8 ⟨rfl, k8⟩
      have K8 := Lib.hid (K7.out.trans k8)
      clear k8 p0 p1 r0 r1
      simp only
      cases pq
      · cases was
        case true => exact absurd (hw1 rfl) (by simp)
        cases b1
        · clear hw1 hw2 hw3
          have p0 := K8.out.cell (p := ⟨w0.heap.size, 0, none⟩) (fun x => x) HC.out.1.1
          have p1 := K8.out.cell (p := ⟨w0.heap.size, 1, none⟩) (fun x => x) HC.out.1.2
          have q0 := K8.out.cell (p := ⟨w0.heap.size + 1, 0, none⟩) (fun x => x) HC.out.2.1.1
          have q1 := K8.out.cell (p := ⟨w0.heap.size + 1, 1, none⟩) (fun x => x) HC.out.2.1.2
          go_wp2_with fail
          refine ((X3.out _ K8.out).1).mono ?_
          rintro e w9 ⟨rfl, k9⟩
          have K9 := Lib.hid (K8.out.trans k9)
          clear k9 p0 p1 q0 q1
          have HQ := Lib.hid (HNX.out _ K9.out)
          go_wp2_with fail
          go_roundg (4 - (d + 1)).toNat
          case measure => omega
          case rel => exact ⟨d + 1, _, by omega, by omega, rfl, rfl, rfl, HQ⟩
        · cases b2
          · clear hw1 hw2 hw3
            have p0 := K8.out.cell (p := ⟨w0.heap.size, 0, none⟩) (fun x => x) HC.out.1.1
            have p1 := K8.out.cell (p := ⟨w0.heap.size, 1, none⟩) (fun x => x) HC.out.1.2
            have q0 := K8.out.cell (p := ⟨w0.heap.size + 1, 0, none⟩) (fun x => x) HC.out.2.1.1
            have q1 := K8.out.cell (p := ⟨w0.heap.size + 1, 1, none⟩) (fun x => x) HC.out.2.1.2
            go_wp2_with fail
            refine ((X3.out _ K8.out).1).mono ?_
            rintro e w9 ⟨rfl, k9⟩
            have K9 := Lib.hid (K8.out.trans k9)
            clear k9 p0 p1 q0 q1
            have q0 := K9.out.cell (p := ⟨w0.heap.size + 1, 0, none⟩) (fun x => x) HC.out.2.1.1
            have q1 := K9.out.cell (p := ⟨w0.heap.size + 1, 1, none⟩) (fun x => x) HC.out.2.1.2
            have r0 := K9.out.cell (p := ⟨w0.heap.size + 1 + 1, 0, none⟩) (fun x => x) HC.out.2.2.1
            have r1 := K9.out.cell (p := ⟨w0.heap.size + 1 + 1, 1, none⟩) (fun x => x) HC.out.2.2.2
            go_wp2_with fail
            refine ((X3.out _ K9.out).2).mono ?_
            rintro e w10 ⟨rfl, k10⟩
            have K10 := Lib.hid (K9.out.trans k10)
            clear k10 q0 q1 r0 r1
            have HQ := Lib.hid (HNX.out _ K10.out)
            go_wp2_with fail
            go_roundg (4 - (d + 1)).toNat
            case measure => omega
            case rel => exact ⟨d + 1, _, by omega, by omega, rfl, rfl, rfl, HQ⟩
          · have hpr := hw3 rfl rfl
            simp only [Bool.false_and] at hpr
            subst hpr
            clear hw1 hw2 hw3
            have p0 := K8.out.cell (p := ⟨w0.heap.size, 0, none⟩) (fun x => x) HC.out.1.1
            have p1 := K8.out.cell (p := ⟨w0.heap.size, 1, none⟩) (fun x => x) HC.out.1.2
            have q0 := K8.out.cell (p := ⟨w0.heap.size + 1, 0, none⟩) (fun x => x) HC.out.2.1.1
            have q1 := K8.out.cell (p := ⟨w0.heap.size + 1, 1, none⟩) (fun x => x) HC.out.2.1.2
            go_wp2_with fail
            refine ((X3.out _ K8.out).1).mono ?_
            rintro e w9 ⟨rfl, k9⟩
            have K9 := Lib.hid (K8.out.trans k9)
            clear k9 p0 p1 q0 q1
            have q0 := K9.out.cell (p := ⟨w0.heap.size + 1, 0, none⟩) (fun x => x) HC.out.2.1.1
            have q1 := K9.out.cell (p := ⟨w0.heap.size + 1, 1, none⟩) (fun x => x) HC.out.2.1.2
            have r0 := K9.out.cell (p := ⟨w0.heap.size + 1 + 1, 0, none⟩) (fun x => x) HC.out.2.2.1
            have r1 := K9.out.cell (p := ⟨w0.heap.size + 1 + 1, 1, none⟩) (fun x => x) HC.out.2.2.2
            go_wp2_with fail
            refine ((X3.out _ K9.out).2).mono ?_
            rintro e w10 ⟨rfl, k10⟩
            have K10 := Lib.hid (K9.out.trans k10)
            clear k10 q0 q1 r0 r1
            have HQ := Lib.hid (HNX.out _ K10.out)
            go_wp2_with fail
            go_roundg (4 - (d + 1)).toNat
            case measure => omega
            case rel => exact ⟨d + 1, _, by omega, by omega, rfl, rfl, rfl, HQ⟩
      · have hb1 := hw2 rfl
        subst hb1
        cases was
        · skip
          cases b2
          · clear hw1 hw2 hw3
            have p0 := K8.out.cell (p := ⟨w0.heap.size, 0, none⟩) (fun x => x) HC.out.1.1
            have p1 := K8.out.cell (p := ⟨w0.heap.size, 1, none⟩) (fun x => x) HC.out.1.2
            have q0 := K8.out.cell (p := ⟨w0.heap.size + 1, 0, none⟩) (fun x => x) HC.out.2.1.1
            have q1 := K8.out.cell (p := ⟨w0.heap.size + 1, 1, none⟩) (fun x => x) HC.out.2.1.2
            go_wp2_with fail
            refine ((X3.out _ K8.out).1).mono ?_
            rintro e w9 ⟨rfl, k9⟩
            have K9 := Lib.hid (K8.out.trans k9)
            clear k9 p0 p1 q0 q1
            have p0 := K9.out.cell (p := ⟨w0.heap.size, 0, none⟩) (fun x => x) HC.out.1.1
            have p1 := K9.out.cell (p := ⟨w0.heap.size, 1, none⟩) (fun x => x) HC.out.1.2
            have q0 := K9.out.cell (p := ⟨w0.heap.size + 1, 0, none⟩) (fun x => x) HC.out.2.1.1
            have q1 := K9.out.cell (p := ⟨w0.heap.size + 1, 1, none⟩) (fun x => x) HC.out.2.1.2
            go_wp2_with fail
            refine ((X3.out _ K9.out).1).mono ?_
            rintro e w10 ⟨rfl, k10⟩
            have K10 := Lib.hid (K9.out.trans k10)
            clear k10 p0 p1 q0 q1
            have q0 := K10.out.cell (p := ⟨w0.heap.size + 1, 0, none⟩) (fun x => x) HC.out.2.1.1
            have q1 := K10.out.cell (p := ⟨w0.heap.size + 1, 1, none⟩) (fun x => x) HC.out.2.1.2
            have r0 := K10.out.cell (p := ⟨w0.heap.size + 1 + 1, 0, none⟩) (fun x => x) HC.out.2.2.1
            have r1 := K10.out.cell (p := ⟨w0.heap.size + 1 + 1, 1, none⟩) (fun x => x) HC.out.2.2.2
            go_wp2_with fail
            refine ((X3.out _ K10.out).2).mono ?_
            rintro e w11 ⟨rfl, k11⟩
            have K11 := Lib.hid (K10.out.trans k11)
            clear k11 q0 q1 r0 r1
            have HQ := Lib.hid (HNX.out _ K11.out)
            go_wp2_with fail
            go_roundg (4 - (d + 1)).toNat
            case measure => omega
            case rel => exact ⟨d + 1, _, by omega, by omega, rfl, rfl, rfl, Lib.hid ⟨HQ.out.1, fun _ => HQ.out.2 trivial⟩⟩
          · have hpr := hw3 rfl rfl
            simp only [Bool.true_and] at hpr
            subst hpr
            clear hw1 hw2 hw3
            cases pr
            · skip
              have p0 := K8.out.cell (p := ⟨w0.heap.size, 0, none⟩) (fun x => x) HC.out.1.1
              have p1 := K8.out.cell (p := ⟨w0.heap.size, 1, none⟩) (fun x => x) HC.out.1.2
              have q0 := K8.out.cell (p := ⟨w0.heap.size + 1, 0, none⟩) (fun x => x) HC.out.2.1.1
              have q1 := K8.out.cell (p := ⟨w0.heap.size + 1, 1, none⟩) (fun x => x) HC.out.2.1.2
              go_wp2_with fail
              refine ((X3.out _ K8.out).1).mono ?_
              rintro e w9 ⟨rfl, k9⟩
              have K9 := Lib.hid (K8.out.trans k9)
              clear k9 p0 p1 q0 q1
              have p0 := K9.out.cell (p := ⟨w0.heap.size, 0, none⟩) (fun x => x) HC.out.1.1
              have p1 := K9.out.cell (p := ⟨w0.heap.size, 1, none⟩) (fun x => x) HC.out.1.2
              have q0 := K9.out.cell (p := ⟨w0.heap.size + 1, 0, none⟩) (fun x => x) HC.out.2.1.1
              have q1 := K9.out.cell (p := ⟨w0.heap.size + 1, 1, none⟩) (fun x => x) HC.out.2.1.2
              go_wp2_with fail
              refine ((X3.out _ K9.out).1).mono ?_
              rintro e w10 ⟨rfl, k10⟩
              have K10 := Lib.hid (K9.out.trans k10)
              clear k10 p0 p1 q0 q1
              have q0 := K10.out.cell (p := ⟨w0.heap.size + 1, 0, none⟩) (fun x => x) HC.out.2.1.1
              have q1 := K10.out.cell (p := ⟨w0.heap.size + 1, 1, none⟩) (fun x => x) HC.out.2.1.2
              have r0 := K10.out.cell (p := ⟨w0.heap.size + 1 + 1, 0, none⟩) (fun x => x) HC.out.2.2.1
              have r1 := K10.out.cell (p := ⟨w0.heap.size + 1 + 1, 1, none⟩) (fun x => x) HC.out.2.2.2
              go_wp2_with fail
              refine ((X3.out _ K10.out).2).mono ?_
              rintro e w11 ⟨rfl, k11⟩
              have K11 := Lib.hid (K10.out.trans k11)
              clear k11 q0 q1 r0 r1
              have HQ := Lib.hid (HNX.out _ K11.out)
              go_wp2_with fail
              go_roundg (4 - (d + 1)).toNat
              case measure => omega
              case rel => exact ⟨d + 1, _, by omega, by omega, rfl, rfl, rfl, Lib.hid ⟨HQ.out.1, fun _ => HQ.out.2 trivial⟩⟩
            · skip
              have p0 := K8.out.cell (p := ⟨w0.heap.size, 0, none⟩) (fun x => x) HC.out.1.1
              have p1 := K8.out.cell (p := ⟨w0.heap.size, 1, none⟩) (fun x => x) HC.out.1.2
              have q0 := K8.out.cell (p := ⟨w0.heap.size + 1, 0, none⟩) (fun x => x) HC.out.2.1.1
              have q1 := K8.out.cell (p := ⟨w0.heap.size + 1, 1, none⟩) (fun x => x) HC.out.2.1.2
              go_wp2_with fail
              refine ((X3.out _ K8.out).1).mono ?_
              rintro e w9 ⟨rfl, k9⟩
              have K9 := Lib.hid (K8.out.trans k9)
              clear k9 p0 p1 q0 q1
              have p0 := K9.out.cell (p := ⟨w0.heap.size, 0, none⟩) (fun x => x) HC.out.1.1
              have p1 := K9.out.cell (p := ⟨w0.heap.size, 1, none⟩) (fun x => x) HC.out.1.2
              have q0 := K9.out.cell (p := ⟨w0.heap.size + 1, 0, none⟩) (fun x => x) HC.out.2.1.1
              have q1 := K9.out.cell (p := ⟨w0.heap.size + 1, 1, none⟩) (fun x => x) HC.out.2.1.2
              go_wp2_with fail
              refine ((X3.out _ K9.out).1).mono ?_
              rintro e w10 ⟨rfl, k10⟩
              have K10 := Lib.hid (K9.out.trans k10)
              clear k10 p0 p1 q0 q1
              have q0 := K10.out.cell (p := ⟨w0.heap.size + 1, 0, none⟩) (fun x => x) HC.out.2.1.1
              have q1 := K10.out.cell (p := ⟨w0.heap.size + 1, 1, none⟩) (fun x => x) HC.out.2.1.2
              have r0 := K10.out.cell (p := ⟨w0.heap.size + 1 + 1, 0, none⟩) (fun x => x) HC.out.2.2.1
              have r1 := K10.out.cell (p := ⟨w0.heap.size + 1 + 1, 1, none⟩) (fun x => x) HC.out.2.2.2
              go_wp2_with fail
              refine ((X3.out _ K10.out).2).mono ?_
              rintro e w11 ⟨rfl, k11⟩
              have K11 := Lib.hid (K10.out.trans k11)
              clear k11 q0 q1 r0 r1
              have HQ := Lib.hid (HNX.out _ K11.out)
              go_wp2_with fail
              go_roundg (4 - (d + 1)).toNat
              case measure => omega
              case rel => exact ⟨d + 1, _, by omega, by omega, rfl, rfl, rfl, Lib.hid ⟨HQ.out.1, fun _ => HQ.out.2 trivial⟩⟩
        · skip
          cases b2
          · clear hw1 hw2 hw3
            have p0 := K8.out.cell (p := ⟨w0.heap.size, 0, none⟩) (fun x => x) HC.out.1.1
            have p1 := K8.out.cell (p := ⟨w0.heap.size, 1, none⟩) (fun x => x) HC.out.1.2
            have q0 := K8.out.cell (p := ⟨w0.heap.size + 1, 0, none⟩) (fun x => x) HC.out.2.1.1
            have q1 := K8.out.cell (p := ⟨w0.heap.size + 1, 1, none⟩) (fun x => x) HC.out.2.1.2
            go_wp2_with fail
            refine ((X3.out _ K8.out).1).mono ?_
            rintro e w9 ⟨rfl, k9⟩
            have K9 := Lib.hid (K8.out.trans k9)
            clear k9 p0 p1 q0 q1
            have p0 := K9.out.cell (p := ⟨w0.heap.size, 0, none⟩) (fun x => x) HC.out.1.1
            have p1 := K9.out.cell (p := ⟨w0.heap.size, 1, none⟩) (fun x => x) HC.out.1.2
            have q0 := K9.out.cell (p := ⟨w0.heap.size + 1, 0, none⟩) (fun x => x) HC.out.2.1.1
            have q1 := K9.out.cell (p := ⟨w0.heap.size + 1, 1, none⟩) (fun x => x) HC.out.2.1.2
            go_wp2_with fail
            refine ((X3.out _ K9.out).1).mono ?_
            rintro e w10 ⟨rfl, k10⟩
            have K10 := Lib.hid (K9.out.trans k10)
            clear k10 p0 p1 q0 q1
            have q0 := K10.out.cell (p := ⟨w0.heap.size + 1, 0, none⟩) (fun x => x) HC.out.2.1.1
            have q1 := K10.out.cell (p := ⟨w0.heap.size + 1, 1, none⟩) (fun x => x) HC.out.2.1.2
            have r0 := K10.out.cell (p := ⟨w0.heap.size + 1 + 1, 0, none⟩) (fun x => x) HC.out.2.2.1
            have r1 := K10.out.cell (p := ⟨w0.heap.size + 1 + 1, 1, none⟩) (fun x => x) HC.out.2.2.2
            go_wp2_with fail
            refine ((X3.out _ K10.out).2).mono ?_
            rintro e w11 ⟨rfl, k11⟩
            have K11 := Lib.hid (K10.out.trans k11)
            clear k11 q0 q1 r0 r1
            have HQ := Lib.hid (HNX.out _ K11.out)
            go_wp2_with fail
            go_roundg (4 - (d + 1)).toNat
            case measure => omega
            case rel => exact ⟨d + 1, _, by omega, by omega, rfl, rfl, rfl, Lib.hid ⟨HQ.out.1, fun _ => HQ.out.2 trivial⟩⟩
          · have hpr := hw3 rfl rfl
            simp only [Bool.true_and] at hpr
            subst hpr
            clear hw1 hw2 hw3
            cases pr
            · skip
              have p0 := K8.out.cell (p := ⟨w0.heap.size, 0, none⟩) (fun x => x) HC.out.1.1
              have p1 := K8.out.cell (p := ⟨w0.heap.size, 1, none⟩) (fun x => x) HC.out.1.2
              have q0 := K8.out.cell (p := ⟨w0.heap.size + 1, 0, none⟩) (fun x => x) HC.out.2.1.1
              have q1 := K8.out.cell (p := ⟨w0.heap.size + 1, 1, none⟩) (fun x => x) HC.out.2.1.2
              go_wp2_with fail
              refine ((X3.out _ K8.out).1).mono ?_
              rintro e w9 ⟨rfl, k9⟩
              have K9 := Lib.hid (K8.out.trans k9)
              clear k9 p0 p1 q0 q1
              have p0 := K9.out.cell (p := ⟨w0.heap.size, 0, none⟩) (fun x => x) HC.out.1.1
              have p1 := K9.out.cell (p := ⟨w0.heap.size, 1, none⟩) (fun x => x) HC.out.1.2
              have q0 := K9.out.cell (p := ⟨w0.heap.size + 1, 0, none⟩) (fun x => x) HC.out.2.1.1
              have q1 := K9.out.cell (p := ⟨w0.heap.size + 1, 1, none⟩) (fun x => x) HC.out.2.1.2
              go_wp2_with fail
              refine ((X3.out _ K9.out).1).mono ?_
              rintro e w10 ⟨rfl, k10⟩
              have K10 := Lib.hid (K9.out.trans k10)
              clear k10 p0 p1 q0 q1
              have q0 := K10.out.cell (p := ⟨w0.heap.size + 1, 0, none⟩) (fun x => x) HC.out.2.1.1
              have q1 := K10.out.cell (p := ⟨w0.heap.size + 1, 1, none⟩) (fun x => x) HC.out.2.1.2
              have r0 := K10.out.cell (p := ⟨w0.heap.size + 1 + 1, 0, none⟩) (fun x => x) HC.out.2.2.1
              have r1 := K10.out.cell (p := ⟨w0.heap.size + 1 + 1, 1, none⟩) (fun x => x) HC.out.2.2.2
              go_wp2_with fail
              refine ((X3.out _ K10.out).2).mono ?_
              rintro e w11 ⟨rfl, k11⟩
              have K11 := Lib.hid (K10.out.trans k11)
              clear k11 q0 q1 r0 r1
              have HQ := Lib.hid (HNX.out _ K11.out)
              go_wp2_with fail
              go_roundg (4 - (d + 1)).toNat
              case measure => omega
              case rel => exact ⟨d + 1, _, by omega, by omega, rfl, rfl, rfl, Lib.hid ⟨HQ.out.1, fun _ => HQ.out.2 trivial⟩⟩
            · skip
              have p0 := K8.out.cell (p := ⟨w0.heap.size, 0, none⟩) (fun x => x) HC.out.1.1
              have p1 := K8.out.cell (p := ⟨w0.heap.size, 1, none⟩) (fun x => x) HC.out.1.2
              have q0 := K8.out.cell (p := ⟨w0.heap.size + 1, 0, none⟩) (fun x => x) HC.out.2.1.1
              have q1 := K8.out.cell (p := ⟨w0.heap.size + 1, 1, none⟩) (fun x => x) HC.out.2.1.2
              go_wp2_with fail
              refine ((X3.out _ K8.out).1).mono ?_
              rintro e w9 ⟨rfl, k9⟩
              have K9 := Lib.hid (K8.out.trans k9)
              clear k9 p0 p1 q0 q1
              have p0 := K9.out.cell (p := ⟨w0.heap.size, 0, none⟩) (fun x => x) HC.out.1.1
              have p1 := K9.out.cell (p := ⟨w0.heap.size, 1, none⟩) (fun x => x) HC.out.1.2
              have q0 := K9.out.cell (p := ⟨w0.heap.size + 1, 0, none⟩) (fun x => x) HC.out.2.1.1
              have q1 := K9.out.cell (p := ⟨w0.heap.size + 1, 1, none⟩) (fun x => x) HC.out.2.1.2
              go_wp2_with fail
              refine ((X3.out _ K9.out).1).mono ?_
              rintro e w10 ⟨rfl, k10⟩
              have K10 := Lib.hid (K9.out.trans k10)
              clear k10 p0 p1 q0 q1
              have q0 := K10.out.cell (p := ⟨w0.heap.size + 1, 0, none⟩) (fun x => x) HC.out.2.1.1
              have q1 := K10.out.cell (p := ⟨w0.heap.size + 1, 1, none⟩) (fun x => x) HC.out.2.1.2
              have r0 := K10.out.cell (p := ⟨w0.heap.size + 1 + 1, 0, none⟩) (fun x => x) HC.out.2.2.1
              have r1 := K10.out.cell (p := ⟨w0.heap.size + 1 + 1, 1, none⟩) (fun x => x) HC.out.2.2.2
              go_wp2_with fail
              refine ((X3.out _ K10.out).2).mono ?_
              rintro e w11 ⟨rfl, k11⟩
              have K11 := Lib.hid (K10.out.trans k11)
              clear k11 q0 q1 r0 r1
              have HQ := Lib.hid (HNX.out _ K11.out)
              go_wp2_with fail
              go_roundg (4 - (d + 1)).toNat
              case measure => omega
              case rel => exact ⟨d + 1, _, by omega, by omega, rfl, rfl, rfl, Lib.hid ⟨HQ.out.1, fun _ => HQ.out.2 trivial⟩⟩
    · have hd5 : d = 4 := by omega
      have dd : decide (d ≤ 3) = false := decide_eq_false hd3
      have hwlast : Hid True := Lib.hid trivial
      clear hst
      have p0 := K5.out.cell (p := ⟨w0.heap.size, 0, none⟩) (fun x => x) HC.out.1.1
      have p1 := K5.out.cell (p := ⟨w0.heap.size, 1, none⟩) (fun x => x) HC.out.1.2
      obtain ⟨hs, hhs⟩ : ∃ hs, hs = hows (wkP S L p) := ⟨_, rfl⟩
      have hlen : hs.length = p.path.length := by rw [hhs]; exact hows_len HVp.out
      obtain ⟨n, hn⟩ : ∃ n, n = heldN hs := ⟨_, rfl⟩
      have hnl : n ≤ p.path.length := by rw [hn, ← hlen]; exact heldN_le _
      have HX := Lib.hid (And.intro hhs (And.intro hlen (And.intro hn hnl)))
      clear hhs hlen hn hnl
      go_wp2_with fail
      refine (HH1.out _ K5.out).mono ?_
      rintro e w6 hE
      obtain ⟨k6, hE⟩ := hE
      obtain ⟨x, hx⟩ := Option.isSome_iff_exists.1 HVp.out
      rw [hx] at hE
      obtain ⟨v, rfl, ho⟩ := hE
      have hxn : heldN x.2 = n := by rw [HX.out.2.2.1, HX.out.1, hx]; rfl
      rw [hxn] at ho
      have hcl : (p.path.take n).length = n := by rw [List.length_take]; have := HX.out.2.2.2; omega
      obtain ⟨ha, hc, e9, hle9, -, hi9⟩ := ho.at
      rw [hcl] at e9 hle9
      subst e9
      obtain ⟨w7, hw7⟩ : ∃ q, q = w6.alloc (.cells #[.int .i64 p.loc, .slice ha n hc] 26) := ⟨_, rfl⟩
      have ka := (KB.refl F0 w6).alloc (.cells #[.int .i64 p.loc, .slice ha n hc] 26)
      have hb7 := alloc_new w6 (.cells #[.int .i64 p.loc, .slice ha n hc] 26)
      rw [← hw7] at ka hb7
      have K7 := Lib.hid (K5.out.trans (k6.trans ka))
      have hpl : PlAt w7 (cutP p n) ha hc := ⟨hi9.kbF ka, by show (p.path.take n).length ≤ hc; omega, by show (p.path.take n).length ≤ 100000; have := HN.out.1.1; have := HX.out.2.2.2; omega⟩
      have hvc : ∀ a c, plV (cutP p n) a c = .agg #[.int .i64 p.loc, .slice a n c] := fun a c => by unfold plV; rw [show (cutP p n).path.length = n from hcl]; rfl
      obtain ⟨X, hX⟩ : ∃ X, X = w6.heap.size := ⟨_, rfl⟩
      rw [← hX] at hb7
      have HPL := Lib.hid (And.intro hpl (And.intro hb7 hvc))
      have HW7 := Lib.hid (And.intro hw7 hX)
      have H2b := fun (V : World) (hk : KB F0 w7 V) => H2.out (cutP p n) ha hc V (K7.out.trans hk) (hpl.kbF hk)
      have hcut := wkP_cut HVp.out HX.out.2.2.2
      simp only [hvc, ← HN.out.2.2.1, ← HN.out.2.2.2.1] at H2b
      have H2c := Lib.hid H2b
      have HCUT := Lib.hid hcut
      have HLP := Lib.hid (show lp = p.loc from HN.out.2.1.1)
      clear k6 ho hi9 hle9 ka hb7 hpl hvc hw7 hX hx hxn H2b hcut p0 p1 hcl
      rw [← HLP.out] at HW7 HPL ⊢
      rw [← HLP.out] at H2c
      go_wp2_with fail
      rw [← HW7.out.1, ← HW7.out.2]
      refine (H2c.out _ (KB.refl _ _)).mono ?_
      rintro e w8 hE2
      obtain ⟨k8, hE2⟩ := hE2
      obtain ⟨y, hy⟩ := Option.isSome_iff_exists.1 HCUT.out.1
      rw [hy] at hE2
      obtain ⟨v2, rfl, ho2⟩ := hE2
      have hyh : y.2 = hs.take n := by have := HCUT.out.2; rw [hy] at this; rw [HX.out.1]; exact this
      have hyn : heldN y.2 = n := by rw [hyh, HX.out.2.2.1]; exact heldN_take hs
      have hkp : (cutP p n).path.take (heldN y.2) = p.path.take n := by rw [hyn]; show (p.path.take n).take n = _; rw [List.take_take, Nat.min_self]
      rw [hkp] at ho2
      have hcl : (p.path.take n).length = n := by rw [List.length_take]; have := HX.out.2.2.2; omega
      obtain ⟨ka, kc, e9, hle9, -, hi9⟩ := ho2.at
      rw [hcl] at e9 hle9
      subst e9
      have hll : (cutP p n).loc = lp := HLP.out.symm
      rw [hll]
      obtain ⟨w9, hw9⟩ : ∃ q, q = w8.alloc (.cells #[.int .i64 lp, .slice ka n kc] 26) := ⟨_, rfl⟩
      have kx := (KB.refl F0 w8).alloc (.cells #[.int .i64 lp, .slice ka n kc] 26)
      have hb9 := alloc_new w8 (.cells #[.int .i64 lp, .slice ka n kc] 26)
      rw [← hw9] at kx hb9
      have K79 := Lib.hid (k8.trans kx)
      have hplk : PlAt w9 (cutP p n) ka kc := ⟨hi9.kbF kx, by show (p.path.take n).length ≤ kc; omega, by show (p.path.take n).length ≤ 100000; have := HN.out.1.1; have := HX.out.2.2.2; omega⟩
      obtain ⟨Y, hY⟩ : ∃ Y, Y = w8.heap.size := ⟨_, rfl⟩
      rw [← hY] at hb9
      have HPK := Lib.hid (And.intro hplk hb9)
      have HW9 := Lib.hid (And.intro hw9 hY)
      clear k8 ho2 hi9 hle9 kx hb9 hplk hw9 hY hy hyh hyn hkp hcl hll
      have K9 := Lib.hid (K7.out.trans K79.out)
      have p0 : (w8.alloc (.cells #[.int .i64 lp, .slice ka n kc] 26)).cell? ⟨w0.heap.size, 0, none⟩ = some (.int .i64 lp) := by rw [← HW9.out.1]; exact K9.out.cell (p := ⟨w0.heap.size, 0, none⟩) (fun x => x) HC.out.1.1
      have x0 : (w8.alloc (.cells #[.int .i64 lp, .slice ka n kc] 26)).cell? ⟨X, 0, none⟩ = some (.int .i64 lp) := by rw [← HW9.out.1]; exact K79.out.cell (p := ⟨X, 0, none⟩) (fun x => x) (blk_cell HPL.out.2.1 0)
      have x1 : (w8.alloc (.cells #[.int .i64 lp, .slice ka n kc] 26)).cell? ⟨X, 1, none⟩ = some (.slice ha n hc) := by rw [← HW9.out.1]; exact K79.out.cell (p := ⟨X, 1, none⟩) (fun x => x) (blk_cell HPL.out.2.1 1)
      go_wp2_with fail
      rw [← HW9.out.1, ← HW9.out.2]
      clear p0 x0 x1
      have hbare : ∀ a c, plV (bareP p) a c = .agg #[.int .i64 p.loc, .slice a 0 c] := fun _ _ => rfl
      obtain ⟨b, hb⟩ : ∃ b, b = decide (n = p.path.length) := ⟨_, rfl⟩
      have hne : n = heldN (hows (wkP S L p)) := by rw [← HX.out.1]; exact HX.out.2.2.1
      have CW1 := fun (V : World) (hk : KB F0 w9 V) => H3.out (bareP p) (cutP p n) none ha 0 hc V (K9.out.trans hk) (bare_at V p.loc 0) (HPL.out.1.kbF (K79.out.trans hk))
      have CW2 := fun (V : World) (hk : KB F0 w9 V) => H3.out (bareP p) p none ap 0 cp V (K9.out.trans hk) (bare_at V p.loc 0) (PP.out V (K9.out.trans hk)).1
      rw [bare_win HVp.out hne HX.out.2.2.2] at CW1
      rw [whole_win HVp.out hne, ← hb] at CW2
      have CS1 := fun (V : World) (hk : KB F0 w9 V) => same_any (cutP p n) (cutP p n) ha ka hc kc V (HPL.out.1.kbF (K79.out.trans hk)) (HPK.out.1.kbF hk)
      rw [show decide (ordP (cutP p n) (cutP p n) = 0) = true from decide_eq_true (ordP_zero.2 ⟨rfl, rfl⟩)] at CS1
      have CP := fun (V : World) (hk : KB F0 w9 V) => prefix_any (cutP p n) p ha ap hc cp V (HPL.out.1.kbF (K79.out.trans hk)) (PP.out V (K9.out.trans hk)).1
      rw [cut_preB p HX.out.2.2.2] at CP
      have CS2 := fun (V : World) (hk : KB F0 w9 V) => same_any (cutP p n) p ha ap hc cp V (HPL.out.1.kbF (K79.out.trans hk)) (PP.out V (K9.out.trans hk)).1
      rw [cut_same p HX.out.2.2.2, ← hb] at CS2
      simp only [hbare, HPL.out.2.2, HE.out.1, ← HN.out.2.2.1, ← HN.out.2.2.2.1, ← HLP.out] at CW1 CW2 CS1 CP CS2
      have DW1 := Lib.hid CW1
      have DW2 := Lib.hid CW2
      have DS1 := Lib.hid CS1
      have DP := Lib.hid CP
      have DS2 := Lib.hid CS2
      have HCC := Lib.hid (And.intro (And.intro (K79.out.cell (p := ⟨X, 0, none⟩) (fun x => x) (blk_cell HPL.out.2.1 0)) (K79.out.cell (p := ⟨X, 1, none⟩) (fun x => x) (blk_cell HPL.out.2.1 1))) (And.intro (And.intro (blk_cell HPK.out.2 0) (blk_cell HPK.out.2 1)) (And.intro (K9.out.cell (p := ⟨w0.heap.size, 0, none⟩) (fun x => x) HC.out.1.1) (K9.out.cell (p := ⟨w0.heap.size, 1, none⟩) (fun x => x) HC.out.1.2))))
      simp only [List.getElem?_toArray, List.getElem?_cons_zero, List.getElem?_cons_succ] at HCC
      clear CW1 CW2 CS1 CP CS2 hbare hb hne
      refine (DW1.out _ (KB.refl _ _)).mono ?_
      rintro e w10 ⟨rfl, k10⟩
      have J10 := Lib.hid k10
      clear k10
      have p0 := J10.out.cell (p := ⟨w0.heap.size, 0, none⟩) (fun x => x) HCC.out.2.2.1
      have p1 := J10.out.cell (p := ⟨w0.heap.size, 1, none⟩) (fun x => x) HCC.out.2.2.2
      go_wp2_with fail
      refine (DW2.out _ J10.out).mono ?_
      rintro e w11 ⟨rfl, k11⟩
      have J11 := Lib.hid (J10.out.trans k11)
      clear k11 p0 p1
      have p0 := J11.out.cell (p := ⟨w0.heap.size, 0, none⟩) (fun x => x) HCC.out.2.2.1
      have p1 := J11.out.cell (p := ⟨w0.heap.size, 1, none⟩) (fun x => x) HCC.out.2.2.2
      have x0 := J11.out.cell (p := ⟨X, 0, none⟩) (fun x => x) HCC.out.1.1
      have x1 := J11.out.cell (p := ⟨X, 1, none⟩) (fun x => x) HCC.out.1.2
      have y0 := J11.out.cell (p := ⟨Y, 0, none⟩) (fun x => x) HCC.out.2.1.1
      have y1 := J11.out.cell (p := ⟨Y, 1, none⟩) (fun x => x) HCC.out.2.1.2
      go_wp2_with fail
      refine (DS1.out _ J11.out).mono ?_
      rintro e w12 ⟨rfl, k12⟩
      have J12 := Lib.hid (J11.out.trans k12)
      clear k12 p0 p1 x0 x1 y0 y1
      have p0 := J12.out.cell (p := ⟨w0.heap.size, 0, none⟩) (fun x => x) HCC.out.2.2.1
      have p1 := J12.out.cell (p := ⟨w0.heap.size, 1, none⟩) (fun x => x) HCC.out.2.2.2
      have x0 := J12.out.cell (p := ⟨X, 0, none⟩) (fun x => x) HCC.out.1.1
      have x1 := J12.out.cell (p := ⟨X, 1, none⟩) (fun x => x) HCC.out.1.2
      go_wp2_with fail
      refine (DP.out _ J12.out).mono ?_
      rintro e w13 ⟨rfl, k13⟩
      have J13 := Lib.hid (J12.out.trans k13)
      clear k13 p0 p1 x0 x1
      have p0 := J13.out.cell (p := ⟨w0.heap.size, 0, none⟩) (fun x => x) HCC.out.2.2.1
      have p1 := J13.out.cell (p := ⟨w0.heap.size, 1, none⟩) (fun x => x) HCC.out.2.2.2
      have x0 := J13.out.cell (p := ⟨X, 0, none⟩) (fun x => x) HCC.out.1.1
      have x1 := J13.out.cell (p := ⟨X, 1, none⟩) (fun x => x) HCC.out.1.2
      go_wp2_with fail
      refine (DS2.out _ J13.out).mono ?_
      rintro e w14 ⟨rfl, k14⟩
      have J14 := Lib.hid (J13.out.trans k14)
      clear k14 p0 p1 x0 x1
      cases b
      · go_wp2_with fail
        refine (AW.out _ (K9.out.trans J14.out)).mono ?_
        rintro e w15 ⟨rfl, k15⟩
        have J15 := Lib.hid (HB.out.1.trans (K9.out.trans (J14.out.trans k15)))
        clear k15
        go_wp2_with fail
        go_ret
        exact ⟨rfl, J15.out⟩
      · go_wp2_with fail
        refine (AW.out _ (K9.out.trans J14.out)).mono ?_
        rintro e w15 ⟨rfl, k15⟩
        have J15 := Lib.hid (HB.out.1.trans (K9.out.trans (J14.out.trans k15)))
        clear k15
        go_wp2_with fail
        go_ret
        exact ⟨rfl, J15.out⟩
end Go.Proofs.YtpigppghcghpbaaGreatDoor

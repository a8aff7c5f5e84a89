/- loanwordlaw09.PlaceTree. -/
import Derived.Test.YtpigppghcghpbaaGreatDoorPlW
import Derived.Deep.DeepCutAuto
namespace Go.Proofs.YtpigppghcghpbaaGreatDoor
open Go.RowKit

theorem new4 (w0 : World) (cs ds es fs : Array Value) (s t u v : TypeId) : KB F0 w0 ((((w0.alloc (.cells cs s)).alloc (.cells ds t)).alloc (.cells es u)).alloc (.cells fs v)) ∧
    ((((w0.alloc (.cells cs s)).alloc (.cells ds t)).alloc (.cells es u)).alloc (.cells fs v)).heap[w0.heap.size]? = some (.cells cs s (0, 0)) ∧ ((((w0.alloc (.cells cs s)).alloc (.cells ds t)).alloc (.cells es u)).alloc (.cells fs v)).heap[w0.heap.size + 1]? = some (.cells ds t (0, 0)) ∧
    ((((w0.alloc (.cells cs s)).alloc (.cells ds t)).alloc (.cells es u)).alloc (.cells fs v)).heap[w0.heap.size + 1 + 1]? = some (.cells es u (0, 0)) ∧ ((((w0.alloc (.cells cs s)).alloc (.cells ds t)).alloc (.cells es u)).alloc (.cells fs v)).heap[w0.heap.size + 1 + 1 + 1]? = some (.cells fs v (0, 0)) := by
  obtain ⟨k, h1, h2, h3, h4⟩ := new3 w0 cs ds es s t u
  have kx := (KB.refl F0 (((w0.alloc (.cells cs s)).alloc (.cells ds t)).alloc (.cells es u))).alloc (.cells fs v)
  exact ⟨k.trans kx, kx.heap (fun x => x) h1, kx.heap (fun x => x) h2, kx.heap (fun x => x) h3, by rw [show w0.heap.size + 1 + 1 + 1 = w0.heap.size + 3 from rfl, ← h4]; exact alloc_new _ _⟩
theorem pres_at {w : World} {B : Nat} {v : Value} {p : Pl} {vs : List Value} (h : OwnPls w B v p.loc (presL p.path) vs) (hs : p.path.length ≤ 100000) : ∃ g c, v = .slice (some ⟨g, 0, none⟩) (p.path.length + 1) c ∧
    ∀ k, k ≤ p.path.length → ∃ ta tc, w.cell? ⟨g, k * 2, none⟩ = some (.int .i64 p.loc) ∧ w.cell? ⟨g, k * 2 + 1, none⟩ = some (.slice ta k tc) ∧ PlAt w (cutP p k) ta tc := by
  have hl : (presL p.path).length = p.path.length + 1 := presK_len _ _
  have hg : ∀ k, k < p.path.length + 1 → (presL p.path).getD k [] = p.path.take k := fun k hk => presK_get hk
  obtain ⟨a, c, h1, -, -, h4⟩ := h.at_ (fun k hk => by rw [hg k (by rw [← hl]; exact hk), List.length_take]; omega)
  obtain ⟨g, ta, tc, e, -⟩ := h4 0 (by rw [hl]; omega)
  refine ⟨g, c, by rw [h1, e, hl], fun k hk => ?_⟩
  obtain ⟨g2, ta, tc, e2, -, -, c0, c1, hp⟩ := h4 k (by rw [hl]; omega)
  rw [e] at e2
  simp only [Option.some.injEq, Addr.mk.injEq, and_true] at e2
  subst e2
  rw [hg k (by omega)] at c1 hp
  have hlk : (p.path.take k).length = k := by rw [List.length_take]; omega
  rw [hlk] at c1
  exact ⟨ta, tc, c0, c1, hp⟩
theorem plV_cut (p : Pl) {k : Nat} (hk : k ≤ p.path.length) (a : Option Addr) (c : Nat) : plV (cutP p k) a c = .agg #[.int .i64 p.loc, .slice a k c] := by
  have hlk : (p.path.take k).length = k := by rw [List.length_take]; omega
  unfold plV cutP
  simp only [hlk]

set_option maxRecDepth 100000 in
set_option maxHeartbeats 64000000 in
theorem tree_any (p q r : Pl) (ap aq ar : Option Addr) (cp cq cr : Nat) (w : World) (hT : TabP w) (hp : IntsAt w ap p.path) (hq : IntsAt w aq q.path) (hr : IntsAt w ar r.path) (hcp : p.path.length ≤ cp) (hcq : q.path.length ≤ cq) (hcr : r.path.length ≤ cr) :
    Calls Tryz.prog 5 #[plV p ap cp, plV q aq cq, plV r ar cr] w fun e w' => e = .returned (.bool true) ∧ KB F0 w w' := by
  obtain ⟨w0, rfl⟩ : ∃ w0, w0 = w := ⟨_, rfl⟩
  obtain ⟨Np, hNp⟩ : ∃ N, N = p.path.length := ⟨_, rfl⟩
  obtain ⟨Nq, hNq⟩ : ∃ N, N = q.path.length := ⟨_, rfl⟩
  obtain ⟨Nr, hNr⟩ : ∃ N, N = r.path.length := ⟨_, rfl⟩
  obtain ⟨lp, hlp⟩ : ∃ x, x = p.loc := ⟨_, rfl⟩
  obtain ⟨lq, hlq⟩ : ∃ x, x = q.loc := ⟨_, rfl⟩
  obtain ⟨lr, hlr⟩ : ∃ x, x = r.loc := ⟨_, rfl⟩
  obtain ⟨hk4, hb1, hb2, hb3, hb4⟩ := new4 w0 #[.int .i64 lp, .slice ap Np cp] #[.int .i64 lq, .slice aq Nq cq] #[.int .i64 lr, .slice ar Nr cr] #[.int .i64 lp, .slice ap Np cp, .int .i64 lq, .slice aq Nq cq, .int .i64 lr, .slice ar Nr cr] 26 26 26 26
  obtain ⟨W, hW⟩ : ∃ W, W = ((((w0.alloc (.cells #[.int .i64 lp, .slice ap Np cp] 26)).alloc (.cells #[.int .i64 lq, .slice aq Nq cq] 26)).alloc (.cells #[.int .i64 lr, .slice ar Nr cr] 26)).alloc (.cells #[.int .i64 lp, .slice ap Np cp, .int .i64 lq, .slice aq Nq cq, .int .i64 lr, .slice ar Nr cr] 26)) := ⟨_, rfl⟩
  rw [← hW] at hk4 hb1 hb2 hb3 hb4
  have FT := Lib.hid (fits3_any (w0.heap.size + 1 + 1 + 1) ap Np cp aq Nq cq ar Nr cr W (blk_cell hb4 1) (blk_cell hb4 3) (blk_cell hb4 5))
  have HB := Lib.hid (And.intro hk4 (And.intro hb1 (And.intro hb2 hb3)))
  have AW := Lib.hid (fun (V : World) (hk : KB F0 W V) => awake_any V (hT.kb (hk4.trans hk)))
  have HP := Lib.hid (fun (hl : Np ≤ 60) (V : World) (hk : KB F0 W V) => (show PlAt V p ap cp from ⟨hp.kbF (hk4.trans hk), hcp, by omega⟩))
  have HQ := Lib.hid (fun (hl : Nq ≤ 60) (V : World) (hk : KB F0 W V) => (show PlAt V q aq cq from ⟨hq.kbF (hk4.trans hk), hcq, by omega⟩))
  have HR := Lib.hid (fun (hl : Nr ≤ 60) (V : World) (hk : KB F0 W V) => (show PlAt V r ar cr from ⟨hr.kbF (hk4.trans hk), hcr, by omega⟩))
  have HW := Lib.hid hW
  have HN := Lib.hid (And.intro hNp (And.intro hNq (And.intro hNr (And.intro hlp (And.intro hlq hlr)))))
  have ep : ∀ a c, plV p a c = .agg #[.int .i64 lp, .slice a Np c] := fun a c => by rw [hlp, hNp]; rfl
  have eq : ∀ a c, plV q a c = .agg #[.int .i64 lq, .slice a Nq c] := fun a c => by rw [hlq, hNq]; rfl
  have er : ∀ a c, plV r a c = .agg #[.int .i64 lr, .slice a Nr c] := fun a c => by rw [hlr, hNr]; rfl
  rw [ep, eq, er]
  have HE := Lib.hid (And.intro ep (And.intro eq er))
  clear hk4 hb1 hb2 hb3 hb4 hW hT hp hq hr hcp hcq hcr hNp hNq hNr hlp hlq hlr ep eq er
  go_enter Tryz.func5, Tryz.ntmps5
  go_wp2_with fail
  rw [← HW.out]
  refine FT.out.mono ?_
  rintro e w1 ⟨rfl, rfl⟩
  by_cases h60 : Np ≤ 60 ∧ Nq ≤ 60 ∧ Nr ≤ 60
  case neg =>
    rw [decide_eq_false h60]
    clear h60
    go_wp2_with fail
    refine (AW.out _ (KB.refl _ _)).mono ?_
    rintro e w2 ⟨rfl, k1⟩
    have K1 := Lib.hid (HB.out.1.trans k1)
    clear k1
    go_wp2_with fail
    go_ret
    exact ⟨rfl, K1.out⟩
  rw [decide_eq_true h60]
  have H60 := Lib.hid h60
  have hp := HP.out h60.1
  have hq := HQ.out h60.2.1
  have hr := HR.out h60.2.2
  have Ppp := Lib.hid (fun (V : World) (hk : KB F0 w1 V) => prefix_any p p ap ap cp cp V (hp V hk) (hp V hk))
  have Ppq := Lib.hid (fun (V : World) (hk : KB F0 w1 V) => prefix_any p q ap aq cp cq V (hp V hk) (hq V hk))
  have Pqr := Lib.hid (fun (V : World) (hk : KB F0 w1 V) => prefix_any q r aq ar cq cr V (hq V hk) (hr V hk))
  have Ppr := Lib.hid (fun (V : World) (hk : KB F0 w1 V) => prefix_any p r ap ar cp cr V (hp V hk) (hr V hk))
  have Pqp := Lib.hid (fun (V : World) (hk : KB F0 w1 V) => prefix_any q p aq ap cq cp V (hq V hk) (hp V hk))
  have Opq := Lib.hid (fun (V : World) (hk : KB F0 w1 V) => order_any p q ap aq cp cq V (hp V hk) (hq V hk))
  have Oqp := Lib.hid (fun (V : World) (hk : KB F0 w1 V) => order_any q p aq ap cq cp V (hq V hk) (hp V hk))
  have Oqr := Lib.hid (fun (V : World) (hk : KB F0 w1 V) => order_any q r aq ar cq cr V (hq V hk) (hr V hk))
  have Opr := Lib.hid (fun (V : World) (hk : KB F0 w1 V) => order_any p r ap ar cp cr V (hp V hk) (hr V hk))
  have Spq := Lib.hid (fun (V : World) (hk : KB F0 w1 V) => same_any p q ap aq cp cq V (hp V hk) (hq V hk))
  have PS := Lib.hid (fun (V : World) (hk : KB F0 w1 V) => pres_any p ap cp V (hp V hk))
  rw [preB_refl] at Ppp
  simp only [HE.out.1, HE.out.2.1, HE.out.2.2] at Ppp Ppq Pqr Ppr Pqp Opq Oqp Oqr Opr Spq PS
  have Htr : Hid (preB p q = true → preB q r = true → preB p r = true) := Lib.hid preB_trans
  have Hbo : Hid (preB p r = true → preB q r = true → preB p q = true ∨ preB q p = true) := Lib.hid preB_both
  have Hsm : Hid ((preB p q && preB q p) = decide (ordP p q = 0)) := Lib.hid (pre_same p q)
  have Hpo : Hid (preB p q = true → ordP p q ≤ 0) := Lib.hid pre_ord
  have Hng : Hid (ordP p q = - ordP q p) := Lib.hid (ordP_neg p q)
  have Hr1 := Lib.hid (ordP_range p q)
  have Hr2 := Lib.hid (ordP_range q r)
  have Hr3 := Lib.hid (ordP_range p r)
  have Hot := Lib.hid (ordP_trans p q r)
  have Hfd := Lib.hid (found_all p q)
  obtain ⟨bpq, e1⟩ : ∃ b, b = preB p q := ⟨_, rfl⟩
  obtain ⟨bqr, e2⟩ : ∃ b, b = preB q r := ⟨_, rfl⟩
  obtain ⟨bpr, e3⟩ : ∃ b, b = preB p r := ⟨_, rfl⟩
  obtain ⟨bqp, e4⟩ : ∃ b, b = preB q p := ⟨_, rfl⟩
  obtain ⟨opq, e5⟩ : ∃ b, b = ordP p q := ⟨_, rfl⟩
  obtain ⟨oqp, e6⟩ : ∃ b, b = ordP q p := ⟨_, rfl⟩
  obtain ⟨oqr, e7⟩ : ∃ b, b = ordP q r := ⟨_, rfl⟩
  obtain ⟨opr, e8⟩ : ∃ b, b = ordP p r := ⟨_, rfl⟩
  rw [← e1] at Ppq Htr Hbo Hsm Hpo
  rw [← e2] at Pqr Htr Hbo
  rw [← e3] at Ppr Htr Hbo
  rw [← e4] at Pqp Hbo Hsm Hfd
  rw [← e5] at Opq Hsm Hpo Hng Hr1 Hot Spq
  rw [← e6] at Oqp Hng
  rw [← e7] at Oqr Hr2 Hot
  rw [← e8] at Opr Hr3 Hot
  have HPP := Lib.hid (fun (V : World) (hk : KB F0 w1 V) => And.intro (hp V hk) (hq V hk))
  clear e1 e2 e3 e4 e5 e6 e7 e8 h60 hp hq hr HP HQ HR FT
  have K0 : Hid (KB F0 w1 w1) := Lib.hid (KB.refl _ _)
  have hbp := K0.out.heap (fun x => x) HB.out.2.1
  have x0 : (w1).cell? ⟨w0.heap.size, 0, none⟩ = some (.int .i64 lp) := blk_cell hbp 0
  have x1 : (w1).cell? ⟨w0.heap.size, 1, none⟩ = some (.slice ap Np cp) := blk_cell hbp 1
  clear hbp
  have hbq := K0.out.heap (fun x => x) HB.out.2.2.1
  have y0 : (w1).cell? ⟨w0.heap.size + 1, 0, none⟩ = some (.int .i64 lq) := blk_cell hbq 0
  have y1 : (w1).cell? ⟨w0.heap.size + 1, 1, none⟩ = some (.slice aq Nq cq) := blk_cell hbq 1
  clear hbq
  have hbr := K0.out.heap (fun x => x) HB.out.2.2.2
  have z0 : (w1).cell? ⟨w0.heap.size + 1 + 1, 0, none⟩ = some (.int .i64 lr) := blk_cell hbr 0
  have z1 : (w1).cell? ⟨w0.heap.size + 1 + 1, 1, none⟩ = some (.slice ar Nr cr) := blk_cell hbr 1
  clear hbr
  go_upto_region 3 with fail
  go_cut [62] (fun v wc => v = .bool false ∧ KB F0 w1 wc)
  case first =>
    as_aux_lemma =>
    go_wp2_with fail
    refine (Ppp.out _ K0.out).mono ?_
    rintro e w11 ⟨rfl, k11⟩
    have K11 := Lib.hid (K0.out.trans k11)
    clear k11
    clear x0 x1 y0 y1 z0 z1
    have hbp := K11.out.heap (fun x => x) HB.out.2.1
    have x0 : (w11).cell? ⟨w0.heap.size, 0, none⟩ = some (.int .i64 lp) := blk_cell hbp 0
    have x1 : (w11).cell? ⟨w0.heap.size, 1, none⟩ = some (.slice ap Np cp) := blk_cell hbp 1
    clear hbp
    have hbq := K11.out.heap (fun x => x) HB.out.2.2.1
    have y0 : (w11).cell? ⟨w0.heap.size + 1, 0, none⟩ = some (.int .i64 lq) := blk_cell hbq 0
    have y1 : (w11).cell? ⟨w0.heap.size + 1, 1, none⟩ = some (.slice aq Nq cq) := blk_cell hbq 1
    clear hbq
    have hbr := K11.out.heap (fun x => x) HB.out.2.2.2
    have z0 : (w11).cell? ⟨w0.heap.size + 1 + 1, 0, none⟩ = some (.int .i64 lr) := blk_cell hbr 0
    have z1 : (w11).cell? ⟨w0.heap.size + 1 + 1, 1, none⟩ = some (.slice ar Nr cr) := blk_cell hbr 1
    clear hbr
    go_wp2_with fail
    refine (Ppq.out _ K11.out).mono ?_
    rintro e w12 ⟨rfl, k12⟩
    have K12 := Lib.hid (K11.out.trans k12)
    clear k12
    clear x0 x1 y0 y1 z0 z1
    have hbp := K12.out.heap (fun x => x) HB.out.2.1
    have x0 : (w12).cell? ⟨w0.heap.size, 0, none⟩ = some (.int .i64 lp) := blk_cell hbp 0
    have x1 : (w12).cell? ⟨w0.heap.size, 1, none⟩ = some (.slice ap Np cp) := blk_cell hbp 1
    clear hbp
    have hbq := K12.out.heap (fun x => x) HB.out.2.2.1
    have y0 : (w12).cell? ⟨w0.heap.size + 1, 0, none⟩ = some (.int .i64 lq) := blk_cell hbq 0
    have y1 : (w12).cell? ⟨w0.heap.size + 1, 1, none⟩ = some (.slice aq Nq cq) := blk_cell hbq 1
    clear hbq
    have hbr := K12.out.heap (fun x => x) HB.out.2.2.2
    have z0 : (w12).cell? ⟨w0.heap.size + 1 + 1, 0, none⟩ = some (.int .i64 lr) := blk_cell hbr 0
    have z1 : (w12).cell? ⟨w0.heap.size + 1 + 1, 1, none⟩ = some (.slice ar Nr cr) := blk_cell hbr 1
    clear hbr
    cases bpq
    case false =>
      go_wp2_with fail
      refine (Ppr.out _ K12.out).mono ?_
      rintro e w13 ⟨rfl, k13⟩
      have K13 := Lib.hid (K12.out.trans k13)
      clear k13
      clear x0 x1 y0 y1 z0 z1
      have hbp := K13.out.heap (fun x => x) HB.out.2.1
      have x0 : (w13).cell? ⟨w0.heap.size, 0, none⟩ = some (.int .i64 lp) := blk_cell hbp 0
      have x1 : (w13).cell? ⟨w0.heap.size, 1, none⟩ = some (.slice ap Np cp) := blk_cell hbp 1
      clear hbp
      have hbq := K13.out.heap (fun x => x) HB.out.2.2.1
      have y0 : (w13).cell? ⟨w0.heap.size + 1, 0, none⟩ = some (.int .i64 lq) := blk_cell hbq 0
      have y1 : (w13).cell? ⟨w0.heap.size + 1, 1, none⟩ = some (.slice aq Nq cq) := blk_cell hbq 1
      clear hbq
      have hbr := K13.out.heap (fun x => x) HB.out.2.2.2
      have z0 : (w13).cell? ⟨w0.heap.size + 1 + 1, 0, none⟩ = some (.int .i64 lr) := blk_cell hbr 0
      have z1 : (w13).cell? ⟨w0.heap.size + 1 + 1, 1, none⟩ = some (.slice ar Nr cr) := blk_cell hbr 1
      clear hbr
      cases bpr
      case false =>
        clear x0 x1 y0 y1 z0 z1
        go_wp2_with fail
        go_meet
        exact ⟨rfl, K13.out⟩
      case true =>
        go_wp2_with fail
        refine (Pqr.out _ K13.out).mono ?_
        rintro e w14 ⟨rfl, k14⟩
        have K14 := Lib.hid (K13.out.trans k14)
        clear k14
        clear x0 x1 y0 y1 z0 z1
        have hbp := K14.out.heap (fun x => x) HB.out.2.1
        have x0 : (w14).cell? ⟨w0.heap.size, 0, none⟩ = some (.int .i64 lp) := blk_cell hbp 0
        have x1 : (w14).cell? ⟨w0.heap.size, 1, none⟩ = some (.slice ap Np cp) := blk_cell hbp 1
        clear hbp
        have hbq := K14.out.heap (fun x => x) HB.out.2.2.1
        have y0 : (w14).cell? ⟨w0.heap.size + 1, 0, none⟩ = some (.int .i64 lq) := blk_cell hbq 0
        have y1 : (w14).cell? ⟨w0.heap.size + 1, 1, none⟩ = some (.slice aq Nq cq) := blk_cell hbq 1
        clear hbq
        have hbr := K14.out.heap (fun x => x) HB.out.2.2.2
        have z0 : (w14).cell? ⟨w0.heap.size + 1 + 1, 0, none⟩ = some (.int .i64 lr) := blk_cell hbr 0
        have z1 : (w14).cell? ⟨w0.heap.size + 1 + 1, 1, none⟩ = some (.slice ar Nr cr) := blk_cell hbr 1
        clear hbr
        cases bqr
        case false =>
          clear x0 x1 y0 y1 z0 z1
          go_wp2_with fail
          go_meet
          exact ⟨rfl, K14.out⟩
        case true =>
          go_wp2_with fail
          refine (Ppq.out _ K14.out).mono ?_
          rintro e w15 ⟨rfl, k15⟩
          have K15 := Lib.hid (K14.out.trans k15)
          clear k15
          clear x0 x1 y0 y1 z0 z1
          have hbp := K15.out.heap (fun x => x) HB.out.2.1
          have x0 : (w15).cell? ⟨w0.heap.size, 0, none⟩ = some (.int .i64 lp) := blk_cell hbp 0
          have x1 : (w15).cell? ⟨w0.heap.size, 1, none⟩ = some (.slice ap Np cp) := blk_cell hbp 1
          clear hbp
          have hbq := K15.out.heap (fun x => x) HB.out.2.2.1
          have y0 : (w15).cell? ⟨w0.heap.size + 1, 0, none⟩ = some (.int .i64 lq) := blk_cell hbq 0
          have y1 : (w15).cell? ⟨w0.heap.size + 1, 1, none⟩ = some (.slice aq Nq cq) := blk_cell hbq 1
          clear hbq
          have hbr := K15.out.heap (fun x => x) HB.out.2.2.2
          have z0 : (w15).cell? ⟨w0.heap.size + 1 + 1, 0, none⟩ = some (.int .i64 lr) := blk_cell hbr 0
          have z1 : (w15).cell? ⟨w0.heap.size + 1 + 1, 1, none⟩ = some (.slice ar Nr cr) := blk_cell hbr 1
          clear hbr
          go_wp2_with fail
          refine (Pqp.out _ K15.out).mono ?_
          rintro e w16 ⟨rfl, k16⟩
          have K16 := Lib.hid (K15.out.trans k16)
          clear k16
          clear x0 x1 y0 y1 z0 z1
          have hbp := K16.out.heap (fun x => x) HB.out.2.1
          have x0 : (w16).cell? ⟨w0.heap.size, 0, none⟩ = some (.int .i64 lp) := blk_cell hbp 0
          have x1 : (w16).cell? ⟨w0.heap.size, 1, none⟩ = some (.slice ap Np cp) := blk_cell hbp 1
          clear hbp
          have hbq := K16.out.heap (fun x => x) HB.out.2.2.1
          have y0 : (w16).cell? ⟨w0.heap.size + 1, 0, none⟩ = some (.int .i64 lq) := blk_cell hbq 0
          have y1 : (w16).cell? ⟨w0.heap.size + 1, 1, none⟩ = some (.slice aq Nq cq) := blk_cell hbq 1
          clear hbq
          have hbr := K16.out.heap (fun x => x) HB.out.2.2.2
          have z0 : (w16).cell? ⟨w0.heap.size + 1 + 1, 0, none⟩ = some (.int .i64 lr) := blk_cell hbr 0
          have z1 : (w16).cell? ⟨w0.heap.size + 1 + 1, 1, none⟩ = some (.slice ar Nr cr) := blk_cell hbr 1
          clear hbr
          cases bqp
          case false =>
            exfalso; have hx := Hbo.out; simp at hx
          case true =>
            clear x0 x1 y0 y1 z0 z1
            go_wp2_with fail
            go_meet
            exact ⟨rfl, K16.out⟩
    case true =>
      go_wp2_with fail
      refine (Pqr.out _ K12.out).mono ?_
      rintro e w17 ⟨rfl, k17⟩
      have K17 := Lib.hid (K12.out.trans k17)
      clear k17
      clear x0 x1 y0 y1 z0 z1
      have hbp := K17.out.heap (fun x => x) HB.out.2.1
      have x0 : (w17).cell? ⟨w0.heap.size, 0, none⟩ = some (.int .i64 lp) := blk_cell hbp 0
      have x1 : (w17).cell? ⟨w0.heap.size, 1, none⟩ = some (.slice ap Np cp) := blk_cell hbp 1
      clear hbp
      have hbq := K17.out.heap (fun x => x) HB.out.2.2.1
      have y0 : (w17).cell? ⟨w0.heap.size + 1, 0, none⟩ = some (.int .i64 lq) := blk_cell hbq 0
      have y1 : (w17).cell? ⟨w0.heap.size + 1, 1, none⟩ = some (.slice aq Nq cq) := blk_cell hbq 1
      clear hbq
      have hbr := K17.out.heap (fun x => x) HB.out.2.2.2
      have z0 : (w17).cell? ⟨w0.heap.size + 1 + 1, 0, none⟩ = some (.int .i64 lr) := blk_cell hbr 0
      have z1 : (w17).cell? ⟨w0.heap.size + 1 + 1, 1, none⟩ = some (.slice ar Nr cr) := blk_cell hbr 1
      clear hbr
      cases bqr
      case false =>
        go_wp2_with fail
        refine (Ppr.out _ K17.out).mono ?_
        rintro e w18 ⟨rfl, k18⟩
        have K18 := Lib.hid (K17.out.trans k18)
        clear k18
        clear x0 x1 y0 y1 z0 z1
        have hbp := K18.out.heap (fun x => x) HB.out.2.1
        have x0 : (w18).cell? ⟨w0.heap.size, 0, none⟩ = some (.int .i64 lp) := blk_cell hbp 0
        have x1 : (w18).cell? ⟨w0.heap.size, 1, none⟩ = some (.slice ap Np cp) := blk_cell hbp 1
        clear hbp
        have hbq := K18.out.heap (fun x => x) HB.out.2.2.1
        have y0 : (w18).cell? ⟨w0.heap.size + 1, 0, none⟩ = some (.int .i64 lq) := blk_cell hbq 0
        have y1 : (w18).cell? ⟨w0.heap.size + 1, 1, none⟩ = some (.slice aq Nq cq) := blk_cell hbq 1
        clear hbq
        have hbr := K18.out.heap (fun x => x) HB.out.2.2.2
        have z0 : (w18).cell? ⟨w0.heap.size + 1 + 1, 0, none⟩ = some (.int .i64 lr) := blk_cell hbr 0
        have z1 : (w18).cell? ⟨w0.heap.size + 1 + 1, 1, none⟩ = some (.slice ar Nr cr) := blk_cell hbr 1
        clear hbr
        cases bpr
        case false =>
          clear x0 x1 y0 y1 z0 z1
          go_wp2_with fail
          go_meet
          exact ⟨rfl, K18.out⟩
        case true =>
          go_wp2_with fail
          refine (Pqr.out _ K18.out).mono ?_
          rintro e w19 ⟨rfl, k19⟩
          have K19 := Lib.hid (K18.out.trans k19)
          clear k19
          clear x0 x1 y0 y1 z0 z1
          have hbp := K19.out.heap (fun x => x) HB.out.2.1
          have x0 : (w19).cell? ⟨w0.heap.size, 0, none⟩ = some (.int .i64 lp) := blk_cell hbp 0
          have x1 : (w19).cell? ⟨w0.heap.size, 1, none⟩ = some (.slice ap Np cp) := blk_cell hbp 1
          clear hbp
          have hbq := K19.out.heap (fun x => x) HB.out.2.2.1
          have y0 : (w19).cell? ⟨w0.heap.size + 1, 0, none⟩ = some (.int .i64 lq) := blk_cell hbq 0
          have y1 : (w19).cell? ⟨w0.heap.size + 1, 1, none⟩ = some (.slice aq Nq cq) := blk_cell hbq 1
          clear hbq
          have hbr := K19.out.heap (fun x => x) HB.out.2.2.2
          have z0 : (w19).cell? ⟨w0.heap.size + 1 + 1, 0, none⟩ = some (.int .i64 lr) := blk_cell hbr 0
          have z1 : (w19).cell? ⟨w0.heap.size + 1 + 1, 1, none⟩ = some (.slice ar Nr cr) := blk_cell hbr 1
          clear hbr
          clear x0 x1 y0 y1 z0 z1
          go_wp2_with fail
          go_meet
          exact ⟨rfl, K19.out⟩
      case true =>
        go_wp2_with fail
        refine (Ppr.out _ K17.out).mono ?_
        rintro e w20 ⟨rfl, k20⟩
        have K20 := Lib.hid (K17.out.trans k20)
        clear k20
        clear x0 x1 y0 y1 z0 z1
        have hbp := K20.out.heap (fun x => x) HB.out.2.1
        have x0 : (w20).cell? ⟨w0.heap.size, 0, none⟩ = some (.int .i64 lp) := blk_cell hbp 0
        have x1 : (w20).cell? ⟨w0.heap.size, 1, none⟩ = some (.slice ap Np cp) := blk_cell hbp 1
        clear hbp
        have hbq := K20.out.heap (fun x => x) HB.out.2.2.1
        have y0 : (w20).cell? ⟨w0.heap.size + 1, 0, none⟩ = some (.int .i64 lq) := blk_cell hbq 0
        have y1 : (w20).cell? ⟨w0.heap.size + 1, 1, none⟩ = some (.slice aq Nq cq) := blk_cell hbq 1
        clear hbq
        have hbr := K20.out.heap (fun x => x) HB.out.2.2.2
        have z0 : (w20).cell? ⟨w0.heap.size + 1 + 1, 0, none⟩ = some (.int .i64 lr) := blk_cell hbr 0
        have z1 : (w20).cell? ⟨w0.heap.size + 1 + 1, 1, none⟩ = some (.slice ar Nr cr) := blk_cell hbr 1
        clear hbr
        cases bpr
        case false =>
          exfalso; have hx := Htr.out; simp at hx
        case true =>
          go_wp2_with fail
          refine (Ppr.out _ K20.out).mono ?_
          rintro e w21 ⟨rfl, k21⟩
          have K21 := Lib.hid (K20.out.trans k21)
          clear k21
          clear x0 x1 y0 y1 z0 z1
          have hbp := K21.out.heap (fun x => x) HB.out.2.1
          have x0 : (w21).cell? ⟨w0.heap.size, 0, none⟩ = some (.int .i64 lp) := blk_cell hbp 0
          have x1 : (w21).cell? ⟨w0.heap.size, 1, none⟩ = some (.slice ap Np cp) := blk_cell hbp 1
          clear hbp
          have hbq := K21.out.heap (fun x => x) HB.out.2.2.1
          have y0 : (w21).cell? ⟨w0.heap.size + 1, 0, none⟩ = some (.int .i64 lq) := blk_cell hbq 0
          have y1 : (w21).cell? ⟨w0.heap.size + 1, 1, none⟩ = some (.slice aq Nq cq) := blk_cell hbq 1
          clear hbq
          have hbr := K21.out.heap (fun x => x) HB.out.2.2.2
          have z0 : (w21).cell? ⟨w0.heap.size + 1 + 1, 0, none⟩ = some (.int .i64 lr) := blk_cell hbr 0
          have z1 : (w21).cell? ⟨w0.heap.size + 1 + 1, 1, none⟩ = some (.slice ar Nr cr) := blk_cell hbr 1
          clear hbr
          go_wp2_with fail
          refine (Pqr.out _ K21.out).mono ?_
          rintro e w22 ⟨rfl, k22⟩
          have K22 := Lib.hid (K21.out.trans k22)
          clear k22
          clear x0 x1 y0 y1 z0 z1
          have hbp := K22.out.heap (fun x => x) HB.out.2.1
          have x0 : (w22).cell? ⟨w0.heap.size, 0, none⟩ = some (.int .i64 lp) := blk_cell hbp 0
          have x1 : (w22).cell? ⟨w0.heap.size, 1, none⟩ = some (.slice ap Np cp) := blk_cell hbp 1
          clear hbp
          have hbq := K22.out.heap (fun x => x) HB.out.2.2.1
          have y0 : (w22).cell? ⟨w0.heap.size + 1, 0, none⟩ = some (.int .i64 lq) := blk_cell hbq 0
          have y1 : (w22).cell? ⟨w0.heap.size + 1, 1, none⟩ = some (.slice aq Nq cq) := blk_cell hbq 1
          clear hbq
          have hbr := K22.out.heap (fun x => x) HB.out.2.2.2
          have z0 : (w22).cell? ⟨w0.heap.size + 1 + 1, 0, none⟩ = some (.int .i64 lr) := blk_cell hbr 0
          have z1 : (w22).cell? ⟨w0.heap.size + 1 + 1, 1, none⟩ = some (.slice ar Nr cr) := blk_cell hbr 1
          clear hbr
          go_wp2_with fail
          refine (Ppq.out _ K22.out).mono ?_
          rintro e w23 ⟨rfl, k23⟩
          have K23 := Lib.hid (K22.out.trans k23)
          clear k23
          clear x0 x1 y0 y1 z0 z1
          have hbp := K23.out.heap (fun x => x) HB.out.2.1
          have x0 : (w23).cell? ⟨w0.heap.size, 0, none⟩ = some (.int .i64 lp) := blk_cell hbp 0
          have x1 : (w23).cell? ⟨w0.heap.size, 1, none⟩ = some (.slice ap Np cp) := blk_cell hbp 1
          clear hbp
          have hbq := K23.out.heap (fun x => x) HB.out.2.2.1
          have y0 : (w23).cell? ⟨w0.heap.size + 1, 0, none⟩ = some (.int .i64 lq) := blk_cell hbq 0
          have y1 : (w23).cell? ⟨w0.heap.size + 1, 1, none⟩ = some (.slice aq Nq cq) := blk_cell hbq 1
          clear hbq
          have hbr := K23.out.heap (fun x => x) HB.out.2.2.2
          have z0 : (w23).cell? ⟨w0.heap.size + 1 + 1, 0, none⟩ = some (.int .i64 lr) := blk_cell hbr 0
          have z1 : (w23).cell? ⟨w0.heap.size + 1 + 1, 1, none⟩ = some (.slice ar Nr cr) := blk_cell hbr 1
          clear hbr
          clear x0 x1 y0 y1 z0 z1
          go_wp2_with fail
          go_meet
          exact ⟨rfl, K23.out⟩
  case rest =>
  obtain ⟨rfl, hk1⟩ := hcut
  have KA := Lib.hid hk1
  clear x0 x1 y0 y1 z0 z1
  clear hk1
  have hbp := KA.out.heap (fun x => x) HB.out.2.1
  have x0 : (wc).cell? ⟨w0.heap.size, 0, none⟩ = some (.int .i64 lp) := blk_cell hbp 0
  have x1 : (wc).cell? ⟨w0.heap.size, 1, none⟩ = some (.slice ap Np cp) := blk_cell hbp 1
  clear hbp
  have hbq := KA.out.heap (fun x => x) HB.out.2.2.1
  have y0 : (wc).cell? ⟨w0.heap.size + 1, 0, none⟩ = some (.int .i64 lq) := blk_cell hbq 0
  have y1 : (wc).cell? ⟨w0.heap.size + 1, 1, none⟩ = some (.slice aq Nq cq) := blk_cell hbq 1
  clear hbq
  have hbr := KA.out.heap (fun x => x) HB.out.2.2.2
  have z0 : (wc).cell? ⟨w0.heap.size + 1 + 1, 0, none⟩ = some (.int .i64 lr) := blk_cell hbr 0
  have z1 : (wc).cell? ⟨w0.heap.size + 1 + 1, 1, none⟩ = some (.slice ar Nr cr) := blk_cell hbr 1
  clear hbr
  go_wp2_with fail
  refine wp_region_rv 16 GK (kindW [(2, (fun v => v = .int .i64 opq), (fun _ _ => True)), (5, (fun v => v = .int .i64 oqp), (fun _ _ => True)), (8, (fun v => v = .int .i64 oqr), (fun _ _ => True)), (11, (fun v => v = .int .i64 opr), (fun _ _ => True))]) (by kernel_rfl) (by kernel_rfl) (kb_trans _) (kb_refl _) (kb_start _ _) (kindW_mono _ (by intro p hp; simp only [List.mem_cons, List.not_mem_nil, or_false] at hp; rcases hp with rfl | rfl | rfl | rfl <;> exact lasts_true)) ?_
  simp only [List.take_succ_cons, List.take_zero, List.drop_succ_cons, List.drop_zero]
  iterate 2 (refine rv_det (by kernel_rfl) rfl (by intro w hG hH; have hc0 := KB.cell hG (fun x => x) (x0); have hc1 := KB.cell hG (fun x => x) (x1); have hc2 := KB.cell hG (fun x => x) (y0); have hc3 := KB.cell hG (fun x => x) (y1); go_simp; first | done | with_reducible rfl) ?_; simp only [Act.put, List.setIfInBounds_toArray, List.set_cons_zero, List.set_cons_succ])
  refine rv_rel (by kernel_rfl) rfl ⟨_, rfl⟩ (by
    intro w hG hH
    refine opVal_call (by go_simp; first | done | exact ⟨⟨rfl, rfl⟩, rfl⟩) ?_
    refine (Opq.out _ (KA.out.trans hG)).mono ?_
    rintro e w' ⟨rfl, hq⟩
    exact ⟨_, rfl, rfl, by first | (obtain ⟨nq, rfl⟩ := hq; exact (KB.refl _ _).drewN _) | (subst hq; exact KB.refl _ _) | exact hq, trivial⟩) ?_
  rintro v rfl
  simp only [Act.put, List.setIfInBounds_toArray, List.set_cons_zero, List.set_cons_succ]
  iterate 2 (refine rv_det (by kernel_rfl) rfl (by intro w hG hH; have hc0 := KB.cell hG (fun x => x) (x0); have hc1 := KB.cell hG (fun x => x) (x1); have hc2 := KB.cell hG (fun x => x) (y0); have hc3 := KB.cell hG (fun x => x) (y1); go_simp; first | done | with_reducible rfl) ?_; simp only [Act.put, List.setIfInBounds_toArray, List.set_cons_zero, List.set_cons_succ])
  refine rv_rel (by kernel_rfl) rfl ⟨_, rfl⟩ (by
    intro w hG hH
    refine opVal_call (by go_simp; first | done | exact ⟨⟨rfl, rfl⟩, rfl⟩) ?_
    refine (Oqp.out _ (KA.out.trans hG)).mono ?_
    rintro e w' ⟨rfl, hq⟩
    exact ⟨_, rfl, rfl, by first | (obtain ⟨nq, rfl⟩ := hq; exact (KB.refl _ _).drewN _) | (subst hq; exact KB.refl _ _) | exact hq, trivial⟩) ?_
  rintro v rfl
  simp only [Act.put, List.setIfInBounds_toArray, List.set_cons_zero, List.set_cons_succ]
  iterate 2 (refine rv_det (by kernel_rfl) rfl (by intro w hG hH; have hc0 := KB.cell hG (fun x => x) (y0); have hc1 := KB.cell hG (fun x => x) (y1); have hc2 := KB.cell hG (fun x => x) (z0); have hc3 := KB.cell hG (fun x => x) (z1); go_simp; first | done | with_reducible rfl) ?_; simp only [Act.put, List.setIfInBounds_toArray, List.set_cons_zero, List.set_cons_succ])
  refine rv_rel (by kernel_rfl) rfl ⟨_, rfl⟩ (by
    intro w hG hH
    refine opVal_call (by go_simp; first | done | exact ⟨⟨rfl, rfl⟩, rfl⟩) ?_
    refine (Oqr.out _ (KA.out.trans hG)).mono ?_
    rintro e w' ⟨rfl, hq⟩
    exact ⟨_, rfl, rfl, by first | (obtain ⟨nq, rfl⟩ := hq; exact (KB.refl _ _).drewN _) | (subst hq; exact KB.refl _ _) | exact hq, trivial⟩) ?_
  rintro v rfl
  simp only [Act.put, List.setIfInBounds_toArray, List.set_cons_zero, List.set_cons_succ]
  iterate 2 (refine rv_det (by kernel_rfl) rfl (by intro w hG hH; have hc0 := KB.cell hG (fun x => x) (x0); have hc1 := KB.cell hG (fun x => x) (x1); have hc2 := KB.cell hG (fun x => x) (z0); have hc3 := KB.cell hG (fun x => x) (z1); go_simp; first | done | with_reducible rfl) ?_; simp only [Act.put, List.setIfInBounds_toArray, List.set_cons_zero, List.set_cons_succ])
  refine rv_rel (by kernel_rfl) rfl ⟨_, rfl⟩ (by
    intro w hG hH
    refine opVal_call (by go_simp; first | done | exact ⟨⟨rfl, rfl⟩, rfl⟩) ?_
    refine (Opr.out _ (KA.out.trans hG)).mono ?_
    rintro e w' ⟨rfl, hq⟩
    exact ⟨_, rfl, rfl, by first | (obtain ⟨nq, rfl⟩ := hq; exact (KB.refl _ _).drewN _) | (subst hq; exact KB.refl _ _) | exact hq, trivial⟩) ?_
  rintro v rfl
  simp only [Act.put, List.setIfInBounds_toArray, List.set_cons_zero, List.set_cons_succ]
  iterate 4 (refine rv_det (by kernel_rfl) rfl (by intro w hG hH; go_simp; first | done | with_reducible rfl) ?_; simp only [Act.put, List.setIfInBounds_toArray, List.set_cons_zero, List.set_cons_succ])
  refine rv_nil (fun w hG hH => ?_)
  have KC := Lib.hid (KA.out.trans hG)
  clear hG hH
  clear x0 x1 y0 y1 z0 z1
  have hbp := KC.out.heap (fun x => x) HB.out.2.1
  have x0 : (w).cell? ⟨w0.heap.size, 0, none⟩ = some (.int .i64 lp) := blk_cell hbp 0
  have x1 : (w).cell? ⟨w0.heap.size, 1, none⟩ = some (.slice ap Np cp) := blk_cell hbp 1
  clear hbp
  have hbq := KC.out.heap (fun x => x) HB.out.2.2.1
  have y0 : (w).cell? ⟨w0.heap.size + 1, 0, none⟩ = some (.int .i64 lq) := blk_cell hbq 0
  have y1 : (w).cell? ⟨w0.heap.size + 1, 1, none⟩ = some (.slice aq Nq cq) := blk_cell hbq 1
  clear hbq
  have hbr := KC.out.heap (fun x => x) HB.out.2.2.2
  have z0 : (w).cell? ⟨w0.heap.size + 1 + 1, 0, none⟩ = some (.int .i64 lr) := blk_cell hbr 0
  have z1 : (w).cell? ⟨w0.heap.size + 1 + 1, 1, none⟩ = some (.slice ar Nr cr) := blk_cell hbr 1
  clear hbr
  go_upto_region 6 with fail
  go_cut [108] (fun v wc => v = .bool false ∧ KB F0 w1 wc)
  case first =>
    as_aux_lemma =>
    have hv : (opq = -1 ∧ oqp = 1) ∨ (opq = 0 ∧ oqp = 0) ∨ (opq = 1 ∧ oqp = -1) := by have := Hng.out; have := Hr1.out; omega
    obtain ⟨sb, hsb⟩ : ∃ sb, sb = decide (opq = 0) := ⟨_, rfl⟩
    rw [← hsb] at Spq Hsm
    rcases hv with ⟨rfl, rfl⟩ | ⟨rfl, rfl⟩ | ⟨rfl, rfl⟩
    · have hs2 : sb = false := by rw [hsb]; rfl
      subst hs2
      clear hsb
      have HSM := Lib.hid Hsm.out
      go_wp2_with fail
      refine (Spq.out _ KC.out).mono ?_
      rintro e w24 ⟨rfl, k24⟩
      have K24 := Lib.hid (KC.out.trans k24)
      clear k24
      clear x0 x1 y0 y1 z0 z1
      have hbp := K24.out.heap (fun x => x) HB.out.2.1
      have x0 : (w24).cell? ⟨w0.heap.size, 0, none⟩ = some (.int .i64 lp) := blk_cell hbp 0
      have x1 : (w24).cell? ⟨w0.heap.size, 1, none⟩ = some (.slice ap Np cp) := blk_cell hbp 1
      clear hbp
      have hbq := K24.out.heap (fun x => x) HB.out.2.2.1
      have y0 : (w24).cell? ⟨w0.heap.size + 1, 0, none⟩ = some (.int .i64 lq) := blk_cell hbq 0
      have y1 : (w24).cell? ⟨w0.heap.size + 1, 1, none⟩ = some (.slice aq Nq cq) := blk_cell hbq 1
      clear hbq
      have hbr := K24.out.heap (fun x => x) HB.out.2.2.2
      have z0 : (w24).cell? ⟨w0.heap.size + 1 + 1, 0, none⟩ = some (.int .i64 lr) := blk_cell hbr 0
      have z1 : (w24).cell? ⟨w0.heap.size + 1 + 1, 1, none⟩ = some (.slice ar Nr cr) := blk_cell hbr 1
      clear hbr
      go_wp2_with fail
      refine (Ppq.out _ K24.out).mono ?_
      rintro e w25 ⟨rfl, k25⟩
      have K25 := Lib.hid (K24.out.trans k25)
      clear k25
      clear x0 x1 y0 y1 z0 z1
      have hbp := K25.out.heap (fun x => x) HB.out.2.1
      have x0 : (w25).cell? ⟨w0.heap.size, 0, none⟩ = some (.int .i64 lp) := blk_cell hbp 0
      have x1 : (w25).cell? ⟨w0.heap.size, 1, none⟩ = some (.slice ap Np cp) := blk_cell hbp 1
      clear hbp
      have hbq := K25.out.heap (fun x => x) HB.out.2.2.1
      have y0 : (w25).cell? ⟨w0.heap.size + 1, 0, none⟩ = some (.int .i64 lq) := blk_cell hbq 0
      have y1 : (w25).cell? ⟨w0.heap.size + 1, 1, none⟩ = some (.slice aq Nq cq) := blk_cell hbq 1
      clear hbq
      have hbr := K25.out.heap (fun x => x) HB.out.2.2.2
      have z0 : (w25).cell? ⟨w0.heap.size + 1 + 1, 0, none⟩ = some (.int .i64 lr) := blk_cell hbr 0
      have z1 : (w25).cell? ⟨w0.heap.size + 1 + 1, 1, none⟩ = some (.slice ar Nr cr) := blk_cell hbr 1
      clear hbr
      cases bpq
      case false =>
        go_wp2_with fail
        refine (Ppq.out _ K25.out).mono ?_
        rintro e w26 ⟨rfl, k26⟩
        have K26 := Lib.hid (K25.out.trans k26)
        clear k26
        clear x0 x1 y0 y1 z0 z1
        go_wp2_with fail
        go_meet
        exact ⟨rfl, K26.out⟩
      case true =>
        cases bqp
        case true => exfalso; have hx := HSM.out; simp at hx
        case false =>
          go_wp2_with fail
          refine (Pqp.out _ K25.out).mono ?_
          rintro e w27 ⟨rfl, k27⟩
          have K27 := Lib.hid (K25.out.trans k27)
          clear k27
          clear x0 x1 y0 y1 z0 z1
          have hbp := K27.out.heap (fun x => x) HB.out.2.1
          have x0 : (w27).cell? ⟨w0.heap.size, 0, none⟩ = some (.int .i64 lp) := blk_cell hbp 0
          have x1 : (w27).cell? ⟨w0.heap.size, 1, none⟩ = some (.slice ap Np cp) := blk_cell hbp 1
          clear hbp
          have hbq := K27.out.heap (fun x => x) HB.out.2.2.1
          have y0 : (w27).cell? ⟨w0.heap.size + 1, 0, none⟩ = some (.int .i64 lq) := blk_cell hbq 0
          have y1 : (w27).cell? ⟨w0.heap.size + 1, 1, none⟩ = some (.slice aq Nq cq) := blk_cell hbq 1
          clear hbq
          have hbr := K27.out.heap (fun x => x) HB.out.2.2.2
          have z0 : (w27).cell? ⟨w0.heap.size + 1 + 1, 0, none⟩ = some (.int .i64 lr) := blk_cell hbr 0
          have z1 : (w27).cell? ⟨w0.heap.size + 1 + 1, 1, none⟩ = some (.slice ar Nr cr) := blk_cell hbr 1
          clear hbr
          go_wp2_with fail
          refine (Ppq.out _ K27.out).mono ?_
          rintro e w28 ⟨rfl, k28⟩
          have K28 := Lib.hid (K27.out.trans k28)
          clear k28
          clear x0 x1 y0 y1 z0 z1
          go_wp2_with fail
          go_meet
          exact ⟨rfl, K28.out⟩
    · have hs2 : sb = true := by rw [hsb]; rfl
      subst hs2
      clear hsb
      have HSM := Lib.hid Hsm.out
      go_wp2_with fail
      refine (Spq.out _ KC.out).mono ?_
      rintro e w29 ⟨rfl, k29⟩
      have K29 := Lib.hid (KC.out.trans k29)
      clear k29
      clear x0 x1 y0 y1 z0 z1
      have hbp := K29.out.heap (fun x => x) HB.out.2.1
      have x0 : (w29).cell? ⟨w0.heap.size, 0, none⟩ = some (.int .i64 lp) := blk_cell hbp 0
      have x1 : (w29).cell? ⟨w0.heap.size, 1, none⟩ = some (.slice ap Np cp) := blk_cell hbp 1
      clear hbp
      have hbq := K29.out.heap (fun x => x) HB.out.2.2.1
      have y0 : (w29).cell? ⟨w0.heap.size + 1, 0, none⟩ = some (.int .i64 lq) := blk_cell hbq 0
      have y1 : (w29).cell? ⟨w0.heap.size + 1, 1, none⟩ = some (.slice aq Nq cq) := blk_cell hbq 1
      clear hbq
      have hbr := K29.out.heap (fun x => x) HB.out.2.2.2
      have z0 : (w29).cell? ⟨w0.heap.size + 1 + 1, 0, none⟩ = some (.int .i64 lr) := blk_cell hbr 0
      have z1 : (w29).cell? ⟨w0.heap.size + 1 + 1, 1, none⟩ = some (.slice ar Nr cr) := blk_cell hbr 1
      clear hbr
      go_wp2_with fail
      refine (Ppq.out _ K29.out).mono ?_
      rintro e w30 ⟨rfl, k30⟩
      have K30 := Lib.hid (K29.out.trans k30)
      clear k30
      clear x0 x1 y0 y1 z0 z1
      have hbp := K30.out.heap (fun x => x) HB.out.2.1
      have x0 : (w30).cell? ⟨w0.heap.size, 0, none⟩ = some (.int .i64 lp) := blk_cell hbp 0
      have x1 : (w30).cell? ⟨w0.heap.size, 1, none⟩ = some (.slice ap Np cp) := blk_cell hbp 1
      clear hbp
      have hbq := K30.out.heap (fun x => x) HB.out.2.2.1
      have y0 : (w30).cell? ⟨w0.heap.size + 1, 0, none⟩ = some (.int .i64 lq) := blk_cell hbq 0
      have y1 : (w30).cell? ⟨w0.heap.size + 1, 1, none⟩ = some (.slice aq Nq cq) := blk_cell hbq 1
      clear hbq
      have hbr := K30.out.heap (fun x => x) HB.out.2.2.2
      have z0 : (w30).cell? ⟨w0.heap.size + 1 + 1, 0, none⟩ = some (.int .i64 lr) := blk_cell hbr 0
      have z1 : (w30).cell? ⟨w0.heap.size + 1 + 1, 1, none⟩ = some (.slice ar Nr cr) := blk_cell hbr 1
      clear hbr
      cases bpq
      case false =>
        exfalso; have hx := HSM.out; simp at hx
      case true =>
        cases bqp
        case false => exfalso; have hx := HSM.out; simp at hx
        case true =>
          go_wp2_with fail
          refine (Pqp.out _ K30.out).mono ?_
          rintro e w31 ⟨rfl, k31⟩
          have K31 := Lib.hid (K30.out.trans k31)
          clear k31
          clear x0 x1 y0 y1 z0 z1
          have hbp := K31.out.heap (fun x => x) HB.out.2.1
          have x0 : (w31).cell? ⟨w0.heap.size, 0, none⟩ = some (.int .i64 lp) := blk_cell hbp 0
          have x1 : (w31).cell? ⟨w0.heap.size, 1, none⟩ = some (.slice ap Np cp) := blk_cell hbp 1
          clear hbp
          have hbq := K31.out.heap (fun x => x) HB.out.2.2.1
          have y0 : (w31).cell? ⟨w0.heap.size + 1, 0, none⟩ = some (.int .i64 lq) := blk_cell hbq 0
          have y1 : (w31).cell? ⟨w0.heap.size + 1, 1, none⟩ = some (.slice aq Nq cq) := blk_cell hbq 1
          clear hbq
          have hbr := K31.out.heap (fun x => x) HB.out.2.2.2
          have z0 : (w31).cell? ⟨w0.heap.size + 1 + 1, 0, none⟩ = some (.int .i64 lr) := blk_cell hbr 0
          have z1 : (w31).cell? ⟨w0.heap.size + 1 + 1, 1, none⟩ = some (.slice ar Nr cr) := blk_cell hbr 1
          clear hbr
          go_wp2_with fail
          refine (Ppq.out _ K31.out).mono ?_
          rintro e w32 ⟨rfl, k32⟩
          have K32 := Lib.hid (K31.out.trans k32)
          clear k32
          clear x0 x1 y0 y1 z0 z1
          go_wp2_with fail
          go_meet
          exact ⟨rfl, K32.out⟩
    · have hs2 : sb = false := by rw [hsb]; rfl
      subst hs2
      clear hsb
      have HSM := Lib.hid Hsm.out
      go_wp2_with fail
      refine (Spq.out _ KC.out).mono ?_
      rintro e w33 ⟨rfl, k33⟩
      have K33 := Lib.hid (KC.out.trans k33)
      clear k33
      clear x0 x1 y0 y1 z0 z1
      have hbp := K33.out.heap (fun x => x) HB.out.2.1
      have x0 : (w33).cell? ⟨w0.heap.size, 0, none⟩ = some (.int .i64 lp) := blk_cell hbp 0
      have x1 : (w33).cell? ⟨w0.heap.size, 1, none⟩ = some (.slice ap Np cp) := blk_cell hbp 1
      clear hbp
      have hbq := K33.out.heap (fun x => x) HB.out.2.2.1
      have y0 : (w33).cell? ⟨w0.heap.size + 1, 0, none⟩ = some (.int .i64 lq) := blk_cell hbq 0
      have y1 : (w33).cell? ⟨w0.heap.size + 1, 1, none⟩ = some (.slice aq Nq cq) := blk_cell hbq 1
      clear hbq
      have hbr := K33.out.heap (fun x => x) HB.out.2.2.2
      have z0 : (w33).cell? ⟨w0.heap.size + 1 + 1, 0, none⟩ = some (.int .i64 lr) := blk_cell hbr 0
      have z1 : (w33).cell? ⟨w0.heap.size + 1 + 1, 1, none⟩ = some (.slice ar Nr cr) := blk_cell hbr 1
      clear hbr
      go_wp2_with fail
      refine (Ppq.out _ K33.out).mono ?_
      rintro e w34 ⟨rfl, k34⟩
      have K34 := Lib.hid (K33.out.trans k34)
      clear k34
      clear x0 x1 y0 y1 z0 z1
      have hbp := K34.out.heap (fun x => x) HB.out.2.1
      have x0 : (w34).cell? ⟨w0.heap.size, 0, none⟩ = some (.int .i64 lp) := blk_cell hbp 0
      have x1 : (w34).cell? ⟨w0.heap.size, 1, none⟩ = some (.slice ap Np cp) := blk_cell hbp 1
      clear hbp
      have hbq := K34.out.heap (fun x => x) HB.out.2.2.1
      have y0 : (w34).cell? ⟨w0.heap.size + 1, 0, none⟩ = some (.int .i64 lq) := blk_cell hbq 0
      have y1 : (w34).cell? ⟨w0.heap.size + 1, 1, none⟩ = some (.slice aq Nq cq) := blk_cell hbq 1
      clear hbq
      have hbr := K34.out.heap (fun x => x) HB.out.2.2.2
      have z0 : (w34).cell? ⟨w0.heap.size + 1 + 1, 0, none⟩ = some (.int .i64 lr) := blk_cell hbr 0
      have z1 : (w34).cell? ⟨w0.heap.size + 1 + 1, 1, none⟩ = some (.slice ar Nr cr) := blk_cell hbr 1
      clear hbr
      cases bpq
      case false =>
        go_wp2_with fail
        refine (Ppq.out _ K34.out).mono ?_
        rintro e w35 ⟨rfl, k35⟩
        have K35 := Lib.hid (K34.out.trans k35)
        clear k35
        clear x0 x1 y0 y1 z0 z1
        go_wp2_with fail
        go_meet
        exact ⟨rfl, K35.out⟩
      case true =>
        exfalso; have hx := Hpo.out; simp at hx
  case rest =>
  obtain ⟨rfl, hk1⟩ := hcut
  have KD := Lib.hid hk1
  clear x0 x1 y0 y1 z0 z1
  clear hk1
  go_upto_region 8 with fail
  go_cut [130] (fun v wx => v = .bool false ∧ wx = wc)
  case first =>
    as_aux_lemma =>
    have h1 := Hr1.out
    have h2 := Hr2.out
    have h3 := Hr3.out
    have h4 := Hot.out
    rcases h1 with rfl | rfl | rfl <;> rcases h2 with rfl | rfl | rfl <;> rcases h3 with rfl | rfl | rfl <;> first | (exfalso; omega) | (clear h4; go_wp2_with fail; go_meet; exact ⟨rfl, rfl⟩)
  case rest =>
  obtain ⟨rfl, rfl⟩ := hcut
  have hbp := KD.out.heap (fun x => x) HB.out.2.1
  have x0 : (wc).cell? ⟨w0.heap.size, 0, none⟩ = some (.int .i64 lp) := blk_cell hbp 0
  have x1 : (wc).cell? ⟨w0.heap.size, 1, none⟩ = some (.slice ap Np cp) := blk_cell hbp 1
  clear hbp
  go_wp2_with fail
  refine (PS.out _ KD.out).mono ?_
  rintro e w9 ⟨v, vs, rfl, hps, k9⟩
  have hN60 : Np ≤ 60 := H60.out.1
  obtain ⟨g, lc, rfl, hat⟩ := pres_at hps (by rw [← HN.out.1]; omega)
  obtain ⟨M, hM⟩ : ∃ M, M = Np + 1 := ⟨_, rfl⟩
  have HM := Lib.hid hM
  rw [← HN.out.1] at hat ⊢
  rw [← hM]
  have KE := Lib.hid (KD.out.trans k9)
  have CELL : Hid (∀ (V : World), KB F0 w9 V → ∀ k, k ≤ Np → ∃ ta tc, V.cell? ⟨g, k * 2, none⟩ = some (.int .i64 lp) ∧ V.cell? ⟨g, k * 2 + 1, none⟩ = some (.slice ta k tc) ∧ PlAt V (cutP p k) ta tc ∧ plV (cutP p k) ta tc = .agg #[.int .i64 lp, .slice ta k tc]) := Lib.hid (fun V hk k hkN => by
    obtain ⟨ta, tc, c0, c1, hpl⟩ := hat k hkN
    refine ⟨ta, tc, by rw [HN.out.2.2.2.1]; exact hk.cell (p := ⟨g, k * 2, none⟩) (fun x => x) c0, hk.cell (p := ⟨g, k * 2 + 1, none⟩) (fun x => x) c1, hpl.kbF hk, ?_⟩
    rw [plV_cut p (by rw [← HN.out.1]; exact hkN), HN.out.2.2.2.1])
  have hw1 : IntKind.i64.wrap ((Np : Int) + 1) = (M : Int) := by rw [w64 (by omega) (by omega)]; omega
  have hw2 : IntKind.i64.wrap ((M : Int) - 1) = (Np : Int) := by rw [w64 (by omega) (by omega)]; omega
  have hlt1 : (Np : Int) < (M : Int) := by omega
  have hlt2 : Np < M := by omega
  obtain ⟨ta, tc, c0, c1, hpl, epl⟩ := CELL.out w9 (KB.refl _ _) Np (Nat.le_refl _)
  have SA : Hid (∀ (V : World), KB F0 w9 V → Calls Tryz.prog 20 #[.agg #[.int .i64 lp, .slice ta Np tc], .agg #[.int .i64 lp, .slice ap Np cp]] V fun e w' => e = .returned (.bool true) ∧ KB F0 V w') := Lib.hid (fun V hk => by
    have := same_any (cutP p Np) p ta ap tc cp V (hpl.kbF hk) (HPP.out V (KE.out.trans hk)).1
    rw [epl, HE.out.1] at this
    rw [show decide (ordP (cutP p Np) p = 0) = true from decide_eq_true (by rw [HN.out.1]; exact cut_all p)] at this
    exact this)
  clear hps k9 hat hM hpl epl
  clear x0 x1
  have hbp := KE.out.heap (fun x => x) HB.out.2.1
  have x0 : (w9).cell? ⟨w0.heap.size, 0, none⟩ = some (.int .i64 lp) := blk_cell hbp 0
  have x1 : (w9).cell? ⟨w0.heap.size, 1, none⟩ = some (.slice ap Np cp) := blk_cell hbp 1
  clear hbp
  go_upto_region 11 with fail
  refine wp_region_rv 18 GK (kindW [(15, (fun v => v = .bool true), (fun _ _ => True))]) (by kernel_rfl) (by kernel_rfl) (kb_trans _) (kb_refl _) (kb_start _ _) (kindW_mono _ (by intro p hp; simp only [List.mem_cons, List.not_mem_nil, or_false] at hp; rcases hp with rfl <;> exact lasts_true)) ?_
  simp only [List.take_succ_cons, List.take_zero, List.drop_succ_cons, List.drop_zero]
  iterate 15 (refine rv_det (by kernel_rfl) rfl (by intro w hG hH; have hc0 := KB.cell hG (fun x => x) (x0); have hc1 := KB.cell hG (fun x => x) (x1); have hc2 := KB.cell hG (fun x => x) (c0); have hc3 := KB.cell hG (fun x => x) (c1); go_simp; first | done | with_reducible rfl) ?_; simp only [Act.put, List.setIfInBounds_toArray, List.set_cons_zero, List.set_cons_succ])
  refine rv_rel (by kernel_rfl) rfl ⟨_, rfl⟩ (by
    intro w hG hH
    refine opVal_call (by go_simp; first | done | exact ⟨⟨rfl, rfl⟩, rfl⟩) ?_
    refine (SA.out _ hG).mono ?_
    rintro e w' ⟨rfl, hq⟩
    exact ⟨_, rfl, rfl, by first | (obtain ⟨nq, rfl⟩ := hq; exact (KB.refl _ _).drewN _) | (subst hq; exact KB.refl _ _) | exact hq, trivial⟩) ?_
  rintro v rfl
  simp only [Act.put, List.setIfInBounds_toArray, List.set_cons_zero, List.set_cons_succ]
  iterate 2 (refine rv_det (by kernel_rfl) rfl (by intro w hG hH; go_simp; first | done | with_reducible rfl) ?_; simp only [Act.put, List.setIfInBounds_toArray, List.set_cons_zero, List.set_cons_succ])
  refine rv_nil (fun w hG hH => ?_)
  have KF := Lib.hid (KE.out.trans hG)
  have KF9 := Lib.hid hG
  clear hG hH c0 c1 SA hw1 hw2 hlt1 hlt2
  clear x0 x1
  go_wp2_with fail
  go_loopw [12, 13] (fun fv kv wr => ∃ (k : Nat) (b : Bool), k ≤ M ∧ fv = .bool b ∧ kv = .int .i64 (k : Nat) ∧ Hid (b = foundB p q k ∧ KB F0 w9 wr)) (fun _ kv _ => M - (intOf kv).toNat)
  case atStart => exact ⟨0, false, by omega, rfl, rfl, Lib.hid ⟨rfl, KF9.out⟩⟩
  case round =>
    obtain ⟨k, b, hk, rfl, rfl, hst⟩ := hrel
    have KW := Lib.hid (KE.out.trans hst.out.2)
    have hM62 : M ≤ 61 := by have := HM.out; omega
    by_cases hlt : k < M
    · have hkM : (k : Int) < (M : Int) := by omega
      have d1 : decide ((k : Int) < (M : Int)) = true := decide_eq_true hkM
      have hkN : k ≤ Np := by have := HM.out; omega
      obtain ⟨ta, tc, c0, c1, hpl, epl⟩ := CELL.out wr hst.out.2 k hkN
      obtain ⟨sb, hsb⟩ : ∃ sb, sb = decide (ordP (cutP p k) q = 0) := ⟨_, rfl⟩
      have SB : Hid (∀ (V : World), KB F0 wr V → Calls Tryz.prog 20 #[.agg #[.int .i64 lp, .slice ta k tc], .agg #[.int .i64 lq, .slice aq Nq cq]] V fun e w' => e = .returned (.bool sb) ∧ KB F0 V w') := Lib.hid (fun V hk => by
        have := same_any (cutP p k) q ta aq tc cq V (hpl.kbF hk) (HPP.out V (KW.out.trans hk)).2
        rw [epl, HE.out.2.1, ← hsb] at this
        exact this)
      have PB : Hid (∀ (V : World), KB F0 wr V → Calls Tryz.prog 16 #[.agg #[.int .i64 lp, .slice ta k tc], .agg #[.int .i64 lp, .slice ap Np cp]] V fun e w' => e = .returned (.bool true) ∧ KB F0 V w') := Lib.hid (fun V hk => by
        have := prefix_any (cutP p k) p ta ap tc cp V (hpl.kbF hk) (HPP.out V (KW.out.trans hk)).1
        rw [epl, HE.out.1, cut_pre p (by rw [← HN.out.1]; exact hkN)] at this
        exact this)
      have HF : Hid ((b || sb) = foundB p q (k + 1)) := Lib.hid (by rw [found_succ, ← hst.out.1, ← hsb])
      have C0 := Lib.hid (And.intro c0 (And.intro c1 (And.intro hpl epl)))
      have hbp := KW.out.heap (fun x => x) HB.out.2.1
      have x0 : (wr).cell? ⟨w0.heap.size, 0, none⟩ = some (.int .i64 lp) := blk_cell hbp 0
      have x1 : (wr).cell? ⟨w0.heap.size, 1, none⟩ = some (.slice ap Np cp) := blk_cell hbp 1
      clear hbp
      have hbq := KW.out.heap (fun x => x) HB.out.2.2.1
      have y0 : (wr).cell? ⟨w0.heap.size + 1, 0, none⟩ = some (.int .i64 lq) := blk_cell hbq 0
      have y1 : (wr).cell? ⟨w0.heap.size + 1, 1, none⟩ = some (.slice aq Nq cq) := blk_cell hbq 1
      clear hbq
      clear hsb hpl epl
      go_upto_region 17 with fail
      go_cut [12] (fun v wx => v = .bool (b || sb) ∧ KB F0 wr wx)
      case first =>
        as_aux_lemma =>
        cases b
        case true =>
          refine wp_region_rv 10 GK (kindW []) (by kernel_rfl) (by kernel_rfl) (kb_trans _) (kb_refl _) (kb_start _ _) (kindW_mono _ (by intro p hp; cases hp)) ?_
          simp only [List.take_succ_cons, List.take_zero, List.drop_succ_cons, List.drop_zero]
          iterate 2 (refine rv_det (by kernel_rfl) rfl (by intro w hG hH; go_simp; first | done | with_reducible rfl) ?_; simp only [Act.put, List.setIfInBounds_toArray, List.set_cons_zero, List.set_cons_succ])
          iterate 6 (refine rv_skip (by kernel_rfl) ?_; simp only [Act.put, List.setIfInBounds_toArray, List.set_cons_zero, List.set_cons_succ])
          iterate 2 (refine rv_det (by kernel_rfl) rfl (by intro w hG hH; go_simp; first | done | with_reducible rfl) ?_; simp only [Act.put, List.setIfInBounds_toArray, List.set_cons_zero, List.set_cons_succ])
          refine rv_nil (fun w hG hH => ?_)
          have KX := Lib.hid hG
          clear hG hH
          go_wp2_with fail
          go_meet
          exact ⟨rfl, KX.out⟩
        case false =>
          refine wp_region_rv 10 GK (kindW [(7, (fun v => v = .bool sb), (fun _ _ => True))]) (by kernel_rfl) (by kernel_rfl) (kb_trans _) (kb_refl _) (kb_start _ _) (kindW_mono _ (by intro p hp; simp only [List.mem_cons, List.not_mem_nil, or_false] at hp; rcases hp with rfl <;> exact lasts_true)) ?_
          simp only [List.take_succ_cons, List.take_zero, List.drop_succ_cons, List.drop_zero]
          iterate 7 (refine rv_det (by kernel_rfl) rfl (by intro w hG hH; have hc0 := KB.cell hG (fun x => x) (c0); have hc1 := KB.cell hG (fun x => x) (c1); have hc2 := KB.cell hG (fun x => x) (y0); have hc3 := KB.cell hG (fun x => x) (y1); go_simp; first | done | with_reducible rfl) ?_; simp only [Act.put, List.setIfInBounds_toArray, List.set_cons_zero, List.set_cons_succ])
          refine rv_rel (by kernel_rfl) rfl ⟨_, rfl⟩ (by
            intro w hG hH
            refine opVal_call (by go_simp; first | done | exact ⟨⟨rfl, rfl⟩, rfl⟩) ?_
            refine (SB.out _ hG).mono ?_
            rintro e w' ⟨rfl, hq⟩
            exact ⟨_, rfl, rfl, by first | (obtain ⟨nq, rfl⟩ := hq; exact (KB.refl _ _).drewN _) | (subst hq; exact KB.refl _ _) | exact hq, trivial⟩) ?_
          rintro v rfl
          simp only [Act.put, List.setIfInBounds_toArray, List.set_cons_zero, List.set_cons_succ]
          iterate 2 (refine rv_det (by kernel_rfl) rfl (by intro w hG hH; go_simp; first | done | with_reducible rfl) ?_; simp only [Act.put, List.setIfInBounds_toArray, List.set_cons_zero, List.set_cons_succ])
          refine rv_nil (fun w hG hH => ?_)
          have KX := Lib.hid hG
          clear hG hH
          go_wp2_with fail
          go_meet
          exact ⟨rfl, KX.out⟩
      case rest =>
      obtain ⟨rfl, hk2⟩ := hcut
      have KY := Lib.hid hk2
      have c0' := KY.out.cell (p := ⟨g, k * 2, none⟩) (fun x => x) c0
      have c1' := KY.out.cell (p := ⟨g, k * 2 + 1, none⟩) (fun x => x) c1
      have KZ := Lib.hid (KW.out.trans hk2)
      clear hk2 c0 c1
      clear x0 x1 y0 y1
      have hbp := KZ.out.heap (fun x => x) HB.out.2.1
      have x0 : (wc).cell? ⟨w0.heap.size, 0, none⟩ = some (.int .i64 lp) := blk_cell hbp 0
      have x1 : (wc).cell? ⟨w0.heap.size, 1, none⟩ = some (.slice ap Np cp) := blk_cell hbp 1
      clear hbp
      by_cases hk0 : k = 0
      · as_aux_lemma =>
        subst hk0
        go_upto_region 18 with fail
        refine wp_region_rv 37 GK (kindW [(5, (fun v => v = .bool true), (fun _ _ => True))]) (by kernel_rfl) (by kernel_rfl) (kb_trans _) (kb_refl _) (kb_start _ _) (kindW_mono _ (by intro p hp; simp only [List.mem_cons, List.not_mem_nil, or_false] at hp; rcases hp with rfl <;> exact lasts_true)) ?_
        simp only [List.take_succ_cons, List.take_zero, List.drop_succ_cons, List.drop_zero]
        iterate 5 (refine rv_det (by kernel_rfl) rfl (by intro w hG hH; have hc0 := KB.cell hG (fun x => x) (x0); have hc1 := KB.cell hG (fun x => x) (x1); have hc2 := KB.cell hG (fun x => x) (c0'); have hc3 := KB.cell hG (fun x => x) (c1'); go_simp; first | done | with_reducible rfl) ?_; simp only [Act.put, List.setIfInBounds_toArray, List.set_cons_zero, List.set_cons_succ])
        refine rv_rel (by kernel_rfl) rfl ⟨_, rfl⟩ (by
          intro w hG hH
          refine opVal_call (by go_simp; first | done | exact ⟨⟨rfl, rfl⟩, rfl⟩) ?_
          refine (PB.out _ (KY.out.trans hG)).mono ?_
          rintro e w' ⟨rfl, hq⟩
          exact ⟨_, rfl, rfl, by first | (obtain ⟨nq, rfl⟩ := hq; exact (KB.refl _ _).drewN _) | (subst hq; exact KB.refl _ _) | exact hq, trivial⟩) ?_
        rintro v rfl
        simp only [Act.put, List.setIfInBounds_toArray, List.set_cons_zero, List.set_cons_succ]
        iterate 5 (refine rv_det (by kernel_rfl) rfl (by intro w hG hH; go_simp; first | done | with_reducible rfl) ?_; simp only [Act.put, List.setIfInBounds_toArray, List.set_cons_zero, List.set_cons_succ])
        iterate 24 (refine rv_skip (by kernel_rfl) ?_; simp only [Act.put, List.setIfInBounds_toArray, List.set_cons_zero, List.set_cons_succ])
        iterate 2 (refine rv_det (by kernel_rfl) rfl (by intro w hG hH; go_simp; first | done | with_reducible rfl) ?_; simp only [Act.put, List.setIfInBounds_toArray, List.set_cons_zero, List.set_cons_succ])
        refine rv_nil (fun w hG hH => ?_)
        have KX := Lib.hid (hst.out.2.trans (KY.out.trans hG))
        clear hG hH x0 x1 c0' c1'
        go_wp2_with fail
        refine ⟨⟨1, b || sb, by omega, rfl, by go_num, Lib.hid ⟨HF.out, KX.out⟩⟩, by simp [intOf]; omega⟩
      · as_aux_lemma =>
        obtain ⟨j, hj⟩ : ∃ j, k = j + 1 := ⟨k - 1, by omega⟩
        have HJ := Lib.hid hj
        have hjM : (j : Int) < (M : Int) := by omega
        have hjM2 : j < M := by omega
        have t0 : decide ((0 : Int) < (k : Int)) = true := decide_eq_true (by omega)
        have t0n : decide (0 < k) = true := decide_eq_true (by omega)
        have t0i : (0 : Int) < (k : Int) := by omega
        have t0m : 0 < k := by omega
        have hwj : IntKind.i64.wrap ((k : Int) - 1) = (j : Int) := by rw [w64 (by omega) (by omega)]; omega
        obtain ⟨tb, td, e0, e1, hplj, eplj⟩ := CELL.out wr hst.out.2 j (by omega)
        have e0' := KY.out.cell (p := ⟨g, j * 2, none⟩) (fun x => x) e0
        have e1' := KY.out.cell (p := ⟨g, j * 2 + 1, none⟩) (fun x => x) e1
        have PJ : Hid (∀ (V : World), KB F0 wr V → Calls Tryz.prog 16 #[.agg #[.int .i64 lp, .slice tb j td], .agg #[.int .i64 lp, .slice ta k tc]] V fun e w' => e = .returned (.bool true) ∧ KB F0 V w') := Lib.hid (fun V hk => by
          have := prefix_any (cutP p j) (cutP p k) tb ta td tc V (hplj.kbF hk) (C0.out.2.2.1.kbF hk)
          rw [eplj, C0.out.2.2.2, HJ.out, (cut_next p (n := j) (by have := HN.out.1; omega)).1, ← HJ.out] at this
          exact this)
        have OJ : Hid (∀ (V : World), KB F0 wr V → Calls Tryz.prog 18 #[.agg #[.int .i64 lp, .slice tb j td], .agg #[.int .i64 lp, .slice ta k tc]] V fun e w' => e = .returned (.int .i64 (-1)) ∧ KB F0 V w') := Lib.hid (fun V hk => by
          have := order_any (cutP p j) (cutP p k) tb ta td tc V (hplj.kbF hk) (C0.out.2.2.1.kbF hk)
          rw [eplj, C0.out.2.2.2, HJ.out, (cut_next p (n := j) (by have := HN.out.1; omega)).2, ← HJ.out] at this
          exact this)
        clear hplj eplj e0 e1 hj hk0
        go_upto_region 18 with fail
        refine wp_region_rv 37 GK (kindW [(5, (fun v => v = .bool true), (fun _ _ => True)), (20, (fun v => v = .bool true), (fun _ _ => True)), (32, (fun v => v = .int .i64 (-1)), (fun _ _ => True))]) (by kernel_rfl) (by kernel_rfl) (kb_trans _) (kb_refl _) (kb_start _ _) (kindW_mono _ (by intro p hp; simp only [List.mem_cons, List.not_mem_nil, or_false] at hp; rcases hp with rfl | rfl | rfl <;> exact lasts_true)) ?_
        simp only [List.take_succ_cons, List.take_zero, List.drop_succ_cons, List.drop_zero]
        iterate 5 (refine rv_det (by kernel_rfl) rfl (by intro w hG hH; have hc0 := KB.cell hG (fun x => x) (x0); have hc1 := KB.cell hG (fun x => x) (x1); have hc2 := KB.cell hG (fun x => x) (c0'); have hc3 := KB.cell hG (fun x => x) (c1'); go_simp; first | done | with_reducible rfl) ?_; simp only [Act.put, List.setIfInBounds_toArray, List.set_cons_zero, List.set_cons_succ])
        refine rv_rel (by kernel_rfl) rfl ⟨_, rfl⟩ (by
          intro w hG hH
          refine opVal_call (by go_simp; first | done | exact ⟨⟨rfl, rfl⟩, rfl⟩) ?_
          refine (PB.out _ (KY.out.trans hG)).mono ?_
          rintro e w' ⟨rfl, hq⟩
          exact ⟨_, rfl, rfl, by first | (obtain ⟨nq, rfl⟩ := hq; exact (KB.refl _ _).drewN _) | (subst hq; exact KB.refl _ _) | exact hq, trivial⟩) ?_
        rintro v rfl
        simp only [Act.put, List.setIfInBounds_toArray, List.set_cons_zero, List.set_cons_succ]
        iterate 14 (refine rv_det (by kernel_rfl) rfl (by intro w hG hH; have hc0 := KB.cell hG (fun x => x) (c0'); have hc1 := KB.cell hG (fun x => x) (c1'); have hc2 := KB.cell hG (fun x => x) (e0'); have hc3 := KB.cell hG (fun x => x) (e1'); go_simp; first | done | with_reducible rfl) ?_; simp only [Act.put, List.setIfInBounds_toArray, List.set_cons_zero, List.set_cons_succ])
        refine rv_rel (by kernel_rfl) rfl ⟨_, rfl⟩ (by
          intro w hG hH
          refine opVal_call (by go_simp; first | done | exact ⟨⟨rfl, rfl⟩, rfl⟩) ?_
          refine (PJ.out _ (KY.out.trans hG)).mono ?_
          rintro e w' ⟨rfl, hq⟩
          exact ⟨_, rfl, rfl, by first | (obtain ⟨nq, rfl⟩ := hq; exact (KB.refl _ _).drewN _) | (subst hq; exact KB.refl _ _) | exact hq, trivial⟩) ?_
        rintro v rfl
        simp only [Act.put, List.setIfInBounds_toArray, List.set_cons_zero, List.set_cons_succ]
        iterate 11 (refine rv_det (by kernel_rfl) rfl (by intro w hG hH; have hc0 := KB.cell hG (fun x => x) (c0'); have hc1 := KB.cell hG (fun x => x) (c1'); have hc2 := KB.cell hG (fun x => x) (e0'); have hc3 := KB.cell hG (fun x => x) (e1'); go_simp; first | done | with_reducible rfl) ?_; simp only [Act.put, List.setIfInBounds_toArray, List.set_cons_zero, List.set_cons_succ])
        refine rv_rel (by kernel_rfl) rfl ⟨_, rfl⟩ (by
          intro w hG hH
          refine opVal_call (by go_simp; first | done | exact ⟨⟨rfl, rfl⟩, rfl⟩) ?_
          refine (OJ.out _ (KY.out.trans hG)).mono ?_
          rintro e w' ⟨rfl, hq⟩
          exact ⟨_, rfl, rfl, by first | (obtain ⟨nq, rfl⟩ := hq; exact (KB.refl _ _).drewN _) | (subst hq; exact KB.refl _ _) | exact hq, trivial⟩) ?_
        rintro v rfl
        simp only [Act.put, List.setIfInBounds_toArray, List.set_cons_zero, List.set_cons_succ]
        iterate 4 (refine rv_det (by kernel_rfl) rfl (by intro w hG hH; go_simp; first | done | with_reducible rfl) ?_; simp only [Act.put, List.setIfInBounds_toArray, List.set_cons_zero, List.set_cons_succ])
        refine rv_nil (fun w hG hH => ?_)
        have KX := Lib.hid (hst.out.2.trans (KY.out.trans hG))
        clear hG hH x0 x1 c0' c1' e0' e1' hwj hjM hjM2 t0 t0n t0i t0m
        go_wp2_with fail
        refine ⟨⟨k + 1, b || sb, by omega, rfl, by go_num, Lib.hid ⟨HF.out, KX.out⟩⟩, by simp [intOf]; omega⟩
    · as_aux_lemma =>
      obtain rfl : k = M := by omega
      have d1 : decide ((k : Int) < (k : Int)) = false := decide_eq_false (by omega)
      have hbq : b = bqp := by rw [hst.out.1, HM.out, HN.out.1]; exact Hfd.out
      subst hbq
      have hbp := KW.out.heap (fun x => x) HB.out.2.1
      have x0 : (wr).cell? ⟨w0.heap.size, 0, none⟩ = some (.int .i64 lp) := blk_cell hbp 0
      have x1 : (wr).cell? ⟨w0.heap.size, 1, none⟩ = some (.slice ap Np cp) := blk_cell hbp 1
      clear hbp
      have hbq := KW.out.heap (fun x => x) HB.out.2.2.1
      have y0 : (wr).cell? ⟨w0.heap.size + 1, 0, none⟩ = some (.int .i64 lq) := blk_cell hbq 0
      have y1 : (wr).cell? ⟨w0.heap.size + 1, 1, none⟩ = some (.slice aq Nq cq) := blk_cell hbq 1
      clear hbq
      go_wp2_with fail
      refine (Pqp.out _ KW.out).mono ?_
      rintro e wz ⟨rfl, kz⟩
      have KZ := Lib.hid (KW.out.trans kz)
      clear kz x0 x1 y0 y1
      go_wp2_with fail
      refine (AW.out _ KZ.out).mono ?_
      rintro e wy ⟨rfl, ky⟩
      have KQ := Lib.hid (KZ.out.trans ky)
      clear ky
      go_wp2_with fail
      go_ret
      exact ⟨rfl, HB.out.1.trans KQ.out⟩
end Go.Proofs.YtpigppghcghpbaaGreatDoor

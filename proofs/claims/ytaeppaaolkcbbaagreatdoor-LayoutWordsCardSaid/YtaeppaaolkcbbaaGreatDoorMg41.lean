/- place.walk at any structs, locals and place. -/
import Derived.Test.YtaeppaaolkcbbaaGreatDoorMg11
import Derived.Deep.DeepCutAuto
namespace Go.Proofs.YtaeppaaolkcbbaaGreatDoor
open Go.RowKit

set_option maxRecDepth 100000 in
set_option maxHeartbeats 64000000 in
theorem plWalk_any (S : List (List Ty)) (hn : S.length ≤ 1000000) (hl : ∀ i, (fds S i).length ≤ 1000000) (sa : Option Addr) (sc : Nat) (hsc : S.length ≤ sc) (L : List Ty) (hll : L.length ≤ 1000000) (la : Option Addr) (lc : Nat) (p : Pl) (pa : Option Addr) (pc : Nat) (w : World)
  (hS : StsAt 49 w sa S) (hL : TysAt 49 w la L) (hp : PlAt w p pa pc) :
  Calls Tryz.prog 86 #[.slice sa S.length sc, .slice la L.length lc, plV p pa pc] w (WkEnd S w (wkP S L p)) := by
 obtain ⟨w0, rfl⟩ : ∃ w0, w0 = w := ⟨_, rfl⟩
 obtain ⟨nS, hnS⟩ : ∃ n, n = S.length := ⟨_, rfl⟩
 obtain ⟨nL, hnL⟩ : ∃ n, n = L.length := ⟨_, rfl⟩
 obtain ⟨N, hN⟩ : ∃ n, n = p.path.length := ⟨_, rfl⟩
 obtain ⟨x, hx⟩ : ∃ x, x = p.loc := ⟨_, rfl⟩
 obtain ⟨O, hO⟩ : ∃ O, O = wkP S L p := ⟨_, rfl⟩
 rw [← hO]
 obtain ⟨hk, hb1, hb2, hb3, hsz⟩ := new3 w0 #[.slice sa nS sc] #[.int .i64 x, .slice pa N pc] ty0c 22 52 26
 unfold ty0c at hk hb1 hb2 hb3 hsz
 obtain ⟨W, hW⟩ : ∃ W, W = (((w0.alloc (.cells #[.slice sa nS sc] 22)).alloc (.cells #[.int .i64 x, .slice pa N pc] 52)).alloc (.cells #[.int .u8 0, .bool false, .int .i64 0, .int .i64 0, .slice none 0 0] 26)) := ⟨_, rfl⟩
 rw [← hW] at hk hb1 hb2 hb3 hsz
 have y0 : W.cell? ⟨w0.heap.size + 1, 0, none⟩ = some (.int .i64 x) := blk_cell hb2 0
 have y1 : W.cell? ⟨w0.heap.size + 1, 1, none⟩ = some (.slice pa N pc) := blk_cell hb2 1
 have d0 : W.cell? ⟨w0.heap.size + 1 + 1, 0, none⟩ = some (.int .u8 0) := blk_cell hb3 0
 have d1 : W.cell? ⟨w0.heap.size + 1 + 1, 1, none⟩ = some (.bool false) := blk_cell hb3 1
 have d2 : W.cell? ⟨w0.heap.size + 1 + 1, 2, none⟩ = some (.int .i64 0) := blk_cell hb3 2
 have d3 : W.cell? ⟨w0.heap.size + 1 + 1, 3, none⟩ = some (.int .i64 0) := blk_cell hb3 3
 have d4 : W.cell? ⟨w0.heap.size + 1 + 1, 4, none⟩ = some (.slice none 0 0) := blk_cell hb3 4
 have f0 := blk_frozen hb3 0
 have f1 := blk_frozen hb3 1
 have f2 := blk_frozen hb3 2
 have f3 := blk_frozen hb3 3
 have f4 := blk_frozen hb3 4
 have s0 : W.cell? ⟨w0.heap.size, 0, none⟩ = some (.slice sa nS sc) := blk_cell hb1 0
 have HB := Lib.hid (And.intro hk (And.intro hb1 (And.intro hb2 (And.intro hb3 hsz))))
 have HH := Lib.hid (And.intro hS (And.intro hL (And.intro hp (And.intro hsc (And.intro hnS (And.intro hnL (And.intro hN hx)))))))
 have HW := Lib.hid hW
 have HOO := Lib.hid hO
 have hNs : N ≤ 100000 := by rw [hN]; exact hp.small
 have ST := Lib.hid (fun (V : World) (hV : KB F0 w0 V) => tyStructs_any S hn hl sa sc hsc V (hS.kbF hV))
 have CT := Lib.hid (fun (hg : GoodS S) (V : World) (hV : KB F0 w0 V) (h1 : V.heap[w0.heap.size]? = some (.cells #[.slice sa nS sc] 22 (0, 0))) => ctTys_any S hg sa sc hsc w0.heap.size L hll la lc V (hnS ▸ h1) (hS.kbF hV) (hL.kbF hV))
 rw [← hnS] at ST
 rw [← hnL] at CT hll
 unfold plV
 rw [← hnS, ← hnL, ← hN, ← hx]
 clear hk hb1 hb2 hb3 hsz hS hL hp hsc hnS hnL hN hx hW hO hn hl
 go_enter Tryz.func86, Tryz.ntmps86
 go_upto_region 1 with fail
 rw [← HW.out]
 by_cases h1 : x < 0
 case pos =>
  have HO : Hid (O = none) := Lib.hid (by rw [HOO.out]; exact wkP_neg (fun h => by have := h.1.1; rw [← HH.out.2.2.2.2.2.2.2] at this; omega))
  have dx : decide (x < 0) = true := decide_eq_true h1
  go_wp2_with fail
  refine ret_tyI3 (X := w0.heap.size + 1 + 1) rfl rfl rfl rfl (set5_blk HB.out.2.2.2.1 (.int .u8 0) (.bool false) (.int .i64 0) (.int .i64 0) (.slice none 0 0)) rfl ?_
  exact wkEnd_none HO.out (set5_new HB.out.1 (show w0.heap.size ≤ w0.heap.size + 1 + 1 by omega) _ _ _ _ _)
 have dx : decide (x < 0) = false := decide_eq_false h1
 have h1' : 0 ≤ x := by omega
 by_cases h2 : (nL : Int) ≤ x
 case pos =>
  have HO : Hid (O = none) := Lib.hid (by rw [HOO.out]; exact wkP_neg (fun h => by have := h.1.2; rw [← HH.out.2.2.2.2.2.2.2, ← HH.out.2.2.2.2.2.1] at this; omega))
  have dy : decide ((nL : Int) ≤ x) = true := decide_eq_true h2
  go_wp2_with fail
  refine ret_tyI3 (X := w0.heap.size + 1 + 1) rfl rfl rfl rfl (set5_blk HB.out.2.2.2.1 (.int .u8 0) (.bool false) (.int .i64 0) (.int .i64 0) (.slice none 0 0)) rfl ?_
  exact wkEnd_none HO.out (set5_new HB.out.1 (show w0.heap.size ≤ w0.heap.size + 1 + 1 by omega) _ _ _ _ _)
 have dy : decide ((nL : Int) ≤ x) = false := decide_eq_false h2
 by_cases h3 : 8 < N
 case pos =>
  have HO : Hid (O = none) := Lib.hid (by rw [HOO.out]; exact wkP_neg (fun h => by have := h.2.1; rw [← HH.out.2.2.2.2.2.2.1] at this; omega))
  have dz : decide ((8 : Int) < (N : Int)) = true := decide_eq_true (by omega)
  have dz2 : decide (8 < N) = true := decide_eq_true h3
  have dz3 : (8 : Int) < (N : Int) := by omega
  go_wp2_with fail
  refine ret_tyI3 (X := w0.heap.size + 1 + 1) rfl rfl rfl rfl (set5_blk HB.out.2.2.2.1 (.int .u8 0) (.bool false) (.int .i64 0) (.int .i64 0) (.slice none 0 0)) rfl ?_
  exact wkEnd_none HO.out (set5_new HB.out.1 (show w0.heap.size ≤ w0.heap.size + 1 + 1 by omega) _ _ _ _ _)
 have dz : decide ((8 : Int) < (N : Int)) = false := decide_eq_false (by omega)
 have dz2 : decide (8 < N) = false := decide_eq_false h3
 have dz3 : ¬ ((8 : Int) < (N : Int)) := by omega
 have HN8 : Hid (p.path.length ≤ 8) := Lib.hid (by rw [← HH.out.2.2.2.2.2.2.1]; omega)
 go_wp2_with fail
 refine (ST.out _ HB.out.1).mono ?_
 rintro e w1 ⟨at_, ok, rfl, hE, k1⟩
 have HE := Lib.hid hE.good
 have b1 := k1.heap (fun x => x) HB.out.2.1
 have b2 := k1.heap (fun x => x) HB.out.2.2.1
 have b3 := k1.heap (fun x => x) HB.out.2.2.2.1
 have H1 := Lib.hid (And.intro (HB.out.1.trans k1) (And.intro b1 (And.intro b2 b3)))
 have hz1 := k1.size
 clear d0 d1 d2 d3 d4 f0 f1 f2 f3 f4 y0 y1 s0 k1 hE dz dz2 dz3 h3
 have d0 : w1.cell? ⟨w0.heap.size + 1 + 1, 0, none⟩ = some (.int .u8 0) := blk_cell b3 0
 have d1 : w1.cell? ⟨w0.heap.size + 1 + 1, 1, none⟩ = some (.bool false) := blk_cell b3 1
 have d2 : w1.cell? ⟨w0.heap.size + 1 + 1, 2, none⟩ = some (.int .i64 0) := blk_cell b3 2
 have d3 : w1.cell? ⟨w0.heap.size + 1 + 1, 3, none⟩ = some (.int .i64 0) := blk_cell b3 3
 have d4 : w1.cell? ⟨w0.heap.size + 1 + 1, 4, none⟩ = some (.slice none 0 0) := blk_cell b3 4
 have f0 := blk_frozen b3 0
 have f1 := blk_frozen b3 1
 have f2 := blk_frozen b3 2
 have f3 := blk_frozen b3 3
 have f4 := blk_frozen b3 4
 have s0 : w1.cell? ⟨w0.heap.size, 0, none⟩ = some (.slice sa nS sc) := blk_cell b1 0
 clear b1 b2 b3
 cases ok
 case false =>
  have HO : Hid (O = none) := Lib.hid (by rw [HOO.out]; exact wkP_neg (fun h => by have := HE.out.2 h.2.2.1; cases this))
  simp only [stErr]
  go_wp2_with fail
  refine ret_tyI3 (X := w0.heap.size + 1 + 1) rfl rfl rfl rfl (set5_blk H1.out.2.2.2 (.int .u8 0) (.bool false) (.int .i64 0) (.int .i64 0) (.slice none 0 0)) rfl ?_
  exact wkEnd_none HO.out (set5_new H1.out.1 (show w0.heap.size ≤ w0.heap.size + 1 + 1 by omega) _ _ _ _ _)
 have HG : Hid (GoodS S) := Lib.hid (HE.out.1 rfl)
 simp only [stErr]
 go_wp2_with fail
 refine (CT.out HG.out _ H1.out.1 H1.out.2.1).mono ?_
 rintro e w2 ⟨rfl, k2⟩
 have b1 := k2.heap (fun x => x) H1.out.2.1
 have b2 := k2.heap (fun x => x) H1.out.2.2.1
 have b3 := k2.heap (fun x => x) H1.out.2.2.2
 have H2 := Lib.hid (And.intro (H1.out.1.trans k2) (And.intro b1 (And.intro b2 b3)))
 have hz2 := k2.size
 clear d0 d1 d2 d3 d4 f0 f1 f2 f3 f4 s0 k2
 have d0 : w2.cell? ⟨w0.heap.size + 1 + 1, 0, none⟩ = some (.int .u8 0) := blk_cell b3 0
 have d1 : w2.cell? ⟨w0.heap.size + 1 + 1, 1, none⟩ = some (.bool false) := blk_cell b3 1
 have d2 : w2.cell? ⟨w0.heap.size + 1 + 1, 2, none⟩ = some (.int .i64 0) := blk_cell b3 2
 have d3 : w2.cell? ⟨w0.heap.size + 1 + 1, 3, none⟩ = some (.int .i64 0) := blk_cell b3 3
 have d4 : w2.cell? ⟨w0.heap.size + 1 + 1, 4, none⟩ = some (.slice none 0 0) := blk_cell b3 4
 have f0 := blk_frozen b3 0
 have f1 := blk_frozen b3 1
 have f2 := blk_frozen b3 2
 have f3 := blk_frozen b3 3
 have f4 := blk_frozen b3 4
 have y0 : w2.cell? ⟨w0.heap.size + 1, 0, none⟩ = some (.int .i64 x) := blk_cell b2 0
 clear b1 b2 b3
 obtain ⟨q, hq⟩ : ∃ q, q = L.any (badT S.length) := ⟨_, rfl⟩
 rw [← hq]
 have HQ := Lib.hid hq
 clear hq
 cases q
 case true =>
  have HO : Hid (O = none) := Lib.hid (by
   rw [HOO.out]
   refine wkP_neg (fun h => ?_)
   have h4 := HQ.out
   rw [eq_comm, List.any_eq_true] at h4
   obtain ⟨t, ht, hb⟩ := h4
   have := h.2.2.2 t ht
   unfold badT at hb
   rw [this] at hb; cases hb)
  go_wp2_with fail
  refine ret_tyI3 (X := w0.heap.size + 1 + 1) rfl rfl rfl rfl (set5_blk H2.out.2.2.2 (.int .u8 0) (.bool false) (.int .i64 0) (.int .i64 0) (.slice none 0 0)) rfl ?_
  exact wkEnd_none HO.out (set5_new H2.out.1 (show w0.heap.size ≤ w0.heap.size + 1 + 1 by omega) _ _ _ _ _)
 have HM : Hid (AllT S L) := Lib.hid ⟨HG.out, fun t ht => by
  have := HQ.out
  rw [eq_comm, List.any_eq_false] at this
  have := this t ht
  unfold badT at this
  simpa using this⟩
 obtain ⟨j, hj⟩ : ∃ j : Nat, x = j := ⟨x.toNat, by omega⟩
 have hjL : j < nL := by omega
 have hjI : (j : Int) < (nL : Int) := by omega
 have HP : Hid (O = walkN S (L.getD j ty0) p.path N) := Lib.hid (by
  rw [HOO.out, wkP_pos ⟨⟨by rw [← HH.out.2.2.2.2.2.2.2]; exact h1', by rw [← HH.out.2.2.2.2.2.2.2, ← HH.out.2.2.2.2.2.1]; omega⟩, HN8.out, HM.out⟩, ← HH.out.2.2.2.2.2.2.1, ← HH.out.2.2.2.2.2.2.2, hj]
  rfl)
 obtain ⟨lb, lo, ta, tc, rfl, hty, hta⟩ := HH.out.2.1 j (by rw [← HH.out.2.2.2.2.2.1]; exact hjL)
 obtain ⟨l0, l1, l2, l3, l4⟩ := hty.kbF H2.out.1
 obtain ⟨t, ht⟩ : ∃ t, t = L.getD j ty0 := ⟨_, rfl⟩
 rw [← ht] at l0 l1 l2 l3 l4
 have hon : OnWay S w0 t ta tc := ⟨48, Nat.le_refl _, by
  refine HM.out.2 t ?_
  have hjl : j < L.length := by rw [← HH.out.2.2.2.2.2.1]; exact hjL
  rw [ht, List.getD_eq_getElem?_getD, List.getElem?_eq_getElem hjl]
  exact List.getElem_mem hjl, by rw [ht]; exact hta⟩
 have HT := Lib.hid (And.intro hon ht)
 subst hj
 clear hon ht hty hta dx dy h1 h2
 go_upto_region 7 with fail
 obtain ⟨W3, hW3⟩ : ∃ W3, W3 = set5 w2 (w0.heap.size + 1 + 1) (.int .u8 t.k) (.bool t.m) (.int .i64 t.r) (.int .i64 t.s) (.slice ta t.of.length tc) := ⟨_, rfl⟩
 have H3 := Lib.hid (And.intro (set5_new H2.out.1 (show w0.heap.size ≤ w0.heap.size + 1 + 1 by omega) (.int .u8 t.k) (.bool t.m) (.int .i64 t.r) (.int .i64 t.s) (.slice ta t.of.length tc))
  (And.intro ((set5_kb w2 (w0.heap.size + 1 + 1) (.int .u8 t.k) (.bool t.m) (.int .i64 t.r) (.int .i64 t.s) (.slice ta t.of.length tc)).heap (by omega) H2.out.2.2.1)
  (And.intro (set5_blk H2.out.2.2.2 (.int .u8 t.k) (.bool t.m) (.int .i64 t.r) (.int .i64 t.s) (.slice ta t.of.length tc))
  ((set5_kb w2 (w0.heap.size + 1 + 1) (.int .u8 t.k) (.bool t.m) (.int .i64 t.r) (.int .i64 t.s) (.slice ta t.of.length tc)).heap (by omega) H2.out.2.1))))
 rw [← hW3] at H3
 rw [show ((((w2.setCell ⟨w0.heap.size + 1 + 1, 0, none⟩ (.int .u8 t.k)).setCell ⟨w0.heap.size + 1 + 1, 1, none⟩ (.bool t.m)).setCell ⟨w0.heap.size + 1 + 1, 2, none⟩ (.int .i64 t.r)).setCell ⟨w0.heap.size + 1 + 1, 3, none⟩ (.int .i64 t.s)).setCell ⟨w0.heap.size + 1 + 1, 4, none⟩ (.slice ta t.of.length tc) = W3 from hW3.symm]
 have hz3 : w0.heap.size + 1 + 1 < W3.heap.size := heap_lt H3.out.2.2.1
 clear hW3 l0 l1 l2 l3 l4 y0 d0 d1 d2 d3 d4 f0 f1 f2 f3 f4
 have y1 : W3.cell? ⟨w0.heap.size + 1, 1, none⟩ = some (.slice pa N pc) := blk_cell H3.out.2.1 1
 go_wp2_with fail
 clear y1
 go_loopg [52, 7] N (fun g iv gv wr => ∃ i u ua uc hs ga gc, i ≤ N ∧ g = N - i ∧ iv = .int .i64 (i : Nat) ∧ gv = .slice ga i gc ∧ Hid (walkN S (L.getD j ty0) p.path i = some (u, hs) ∧ WkSt S w0 W3 (w0.heap.size + 1 + 1) wr u ua uc (.slice ga i gc) hs))
 case atStart => exact ⟨0, t, ta, tc, [], none, 0, by omega, by omega, rfl, rfl, Lib.hid ⟨by rw [← HT.out.2]; rfl, KB.refl _ _, H3.out.2.2.1, HT.out.1, World.ownsRow_nil _ _ _ _⟩⟩
 case round =>
  obtain ⟨i, u, ua, uc, hs, ga, gc, hi, rfl, rfl, rfl, hst⟩ := hrel
  obtain ⟨wi, rfl⟩ : ∃ w, w = wr := ⟨_, rfl⟩
  have K0 := Lib.hid (hst.out.2.kb0 H3.out.1 (show w0.heap.size ≤ w0.heap.size + 1 + 1 by omega))
  have hlen : hs.length = i := walkN_len hst.out.1
  by_cases hit : i < N
  ·have hiI : (i : Int) < (N : Int) := by omega
   have dI : decide ((i : Int) < (N : Int)) = true := decide_eq_true hiI
   obtain ⟨pb, po, rfl, hpk⟩ := HH.out.2.2.1.ints i (by rw [← HH.out.2.2.2.2.2.2.1]; exact hit)
   have hpk := K0.out.cell (p := ⟨pb, po + i, none⟩) (fun x => x) hpk
   obtain ⟨k, hk⟩ : ∃ k, k = p.path.getD i 0 := ⟨_, rfl⟩
   rw [← hk] at hpk
   have HKK := Lib.hid hk
   have hX3 := hst.out.2.cell
   have d0 : wi.cell? ⟨w0.heap.size + 1 + 1, 0, none⟩ = some (.int .u8 u.k) := blk_cell hX3 0
   have d1 : wi.cell? ⟨w0.heap.size + 1 + 1, 1, none⟩ = some (.bool u.m) := blk_cell hX3 1
   have d2 : wi.cell? ⟨w0.heap.size + 1 + 1, 2, none⟩ = some (.int .i64 u.r) := blk_cell hX3 2
   have d3 : wi.cell? ⟨w0.heap.size + 1 + 1, 3, none⟩ = some (.int .i64 u.s) := blk_cell hX3 3
   have d4 : wi.cell? ⟨w0.heap.size + 1 + 1, 4, none⟩ = some (.slice ua u.of.length uc) := blk_cell hX3 4
   have f0 := blk_frozen hX3 0
   have f1 := blk_frozen hX3 1
   have f2 := blk_frozen hX3 2
   have f3 := blk_frozen hX3 3
   have f4 := blk_frozen hX3 4
   have sk := (hst.out.2.kb.heap (b := w0.heap.size) (by omega) H3.out.2.2.2)
   have s0 : wi.cell? ⟨w0.heap.size, 0, none⟩ = some (.slice sa nS sc) := blk_cell sk 0
   have hos := hst.out.2.own
   rw [hlen] at hos
   have hzi := hst.out.2.kb.size
   clear hk hX3 sk
   -- which way it goes
   by_cases hk1 : k = -1
   ·by_cases hkd : u.k = 3
    ·have hsp : stepP S u k = some (in0 u, 1) := by unfold stepP; rw [if_pos ⟨hk1, hkd⟩]
     obtain ⟨ib, io, ia, ic, rfl, hone, huc, hic, hin⟩ := hst.out.2.on.deref (by first | exact Or.inl hkd | exact Or.inr hkd)
     obtain ⟨j0, j1, j2, j3, j4⟩ := hic
     rw [hone] at d4
     obtain ⟨v, hv⟩ : ∃ v, v = in0 u := ⟨_, rfl⟩
     rw [← hv] at j0 j1 j2 j3 j4 hin hsp
     have hwn : walkN S (L.getD j ty0) p.path (i + 1) = some (v, hs ++ [1]) := walkN_step hst.out.1 (by rw [← HKK.out]; exact hsp)
     have hucI : (1 : Int) ≤ (uc : Int) := by omega
     have HST := Lib.hid hst.out.2
     have HJ := Lib.hid (And.intro hwn (And.intro hin (And.intro j0 (And.intro j1 (And.intro j2 (And.intro j3 j4))))))
     have HDD := Lib.hid (And.intro hone hkd)
     rw [hkd] at d0
     rw [hk1] at hpk
     clear hwn hin j0 j1 j2 j3 j4 hsp hst hv
     go_wp2_with (at_builtin; refine Stopped.out ?_)
     refine ⟨?_⟩
     have ho2 := own_kb hos ((KB.refl F0 wi).alloc (.cells #[.int .i64 1] 3)) (fun _ _ x => x)
     refine app1 40 3 W3.heap.size (.int .i64 1) Tryz.infoIntV Tryz.underlying40 rfl ho2 rfl rfl rfl rfl (blk_cell (alloc_new _ _) 0) rfl (by unfold maxLen; omega) (by omega) (by have := ((KB.refl F0 wi).alloc (.cells #[.int .i64 1] 3)).size; omega) ?_
     intro v' w' hown' hgr
     obtain ⟨kn, hXn, hnx⟩ := HST.out.next hz3 HJ.out.2.1 (by rw [hlen]; exact hown') hgr
     obtain ⟨va, vc, e2⟩ : ∃ a c, v' = .slice a (i + 1) c := by
      obtain ⟨a, c, e, -⟩ := own_shape hown'
      exact ⟨a, c, e⟩
     subst e2
     have KN := Lib.hid (H3.out.1.oldS kn (fun k hk e => by omega))
     have HN := Lib.hid (And.intro HJ.out.1 hnx)
     simp only [set5] at HN
     clear d0 d1 d2 d3 d4 f0 f1 f2 f3 f4 s0 hpk ho2 hown' hgr kn hnx
     have j0 := KN.out.cell (p := ⟨ib, io, none⟩) (fun x => x) HJ.out.2.2.1
     have j1 := KN.out.cell (p := ⟨ib, io + 1, none⟩) (fun x => x) HJ.out.2.2.2.1
     have j2 := KN.out.cell (p := ⟨ib, io + 2, none⟩) (fun x => x) HJ.out.2.2.2.2.1
     have j3 := KN.out.cell (p := ⟨ib, io + 3, none⟩) (fun x => x) HJ.out.2.2.2.2.2.1
     have j4 := KN.out.cell (p := ⟨ib, io + 4, none⟩) (fun x => x) HJ.out.2.2.2.2.2.2
     unfold tyObj at hXn
     rw [HDD.out.1] at hXn
     have d0 : w'.cell? ⟨w0.heap.size + 1 + 1, 0, none⟩ = some (.int .u8 u.k) := blk_cell hXn 0
     have d1 : w'.cell? ⟨w0.heap.size + 1 + 1, 1, none⟩ = some (.bool u.m) := blk_cell hXn 1
     have d2 : w'.cell? ⟨w0.heap.size + 1 + 1, 2, none⟩ = some (.int .i64 u.r) := blk_cell hXn 2
     have d3 : w'.cell? ⟨w0.heap.size + 1 + 1, 3, none⟩ = some (.int .i64 u.s) := blk_cell hXn 3
     have d4 : w'.cell? ⟨w0.heap.size + 1 + 1, 4, none⟩ = some (.slice (some ⟨ib, io, none⟩) 1 uc) := blk_cell hXn 4
     have f0 := blk_frozen hXn 0
     have f1 := blk_frozen hXn 1
     have f2 := blk_frozen hXn 2
     have f3 := blk_frozen hXn 3
     have f4 := blk_frozen hXn 4
     clear hXn
     go_wp2_with fail
     go_roundg (N - (i + 1))
     case measure => omega
     case rel => exact ⟨i + 1, v, ia, ic, hs ++ [1], va, vc, by omega, rfl, by go_num, rfl, HN⟩
    ·by_cases hk4 : u.k = 4
     ·have hkd := hk4
      cases hm : u.m with
      | true =>
       have hsp : stepP S u k = some (in0 u, 2) := by unfold stepP; rw [if_neg (by omega), if_pos ⟨hk1, hkd, hm⟩]
       obtain ⟨ib, io, ia, ic, rfl, hone, huc, hic, hin⟩ := hst.out.2.on.deref (by first | exact Or.inl hkd | exact Or.inr hkd)
       obtain ⟨j0, j1, j2, j3, j4⟩ := hic
       rw [hone] at d4
       obtain ⟨v, hv⟩ : ∃ v, v = in0 u := ⟨_, rfl⟩
       rw [← hv] at j0 j1 j2 j3 j4 hin hsp
       have hwn : walkN S (L.getD j ty0) p.path (i + 1) = some (v, hs ++ [2]) := walkN_step hst.out.1 (by rw [← HKK.out]; exact hsp)
       have hucI : (1 : Int) ≤ (uc : Int) := by omega
       have HST := Lib.hid hst.out.2
       have HJ := Lib.hid (And.intro hwn (And.intro hin (And.intro j0 (And.intro j1 (And.intro j2 (And.intro j3 j4))))))
       have HDD := Lib.hid (And.intro hone hkd)
       rw [hkd] at d0
       rw [hm] at d1
       rw [hk1] at hpk
       clear hwn hin j0 j1 j2 j3 j4 hsp hst hv
       go_wp2_with (at_builtin; refine Stopped.out ?_)
       refine ⟨?_⟩
       have ho2 := own_kb hos ((KB.refl F0 wi).alloc (.cells #[.int .i64 2] 3)) (fun _ _ x => x)
       refine app1 40 3 W3.heap.size (.int .i64 2) Tryz.infoIntV Tryz.underlying40 rfl ho2 rfl rfl rfl rfl (blk_cell (alloc_new _ _) 0) rfl (by unfold maxLen; omega) (by omega) (by have := ((KB.refl F0 wi).alloc (.cells #[.int .i64 2] 3)).size; omega) ?_
       intro v' w' hown' hgr
       obtain ⟨kn, hXn, hnx⟩ := HST.out.next hz3 HJ.out.2.1 (by rw [hlen]; exact hown') hgr
       obtain ⟨va, vc, e2⟩ : ∃ a c, v' = .slice a (i + 1) c := by
        obtain ⟨a, c, e, -⟩ := own_shape hown'
        exact ⟨a, c, e⟩
       subst e2
       have KN := Lib.hid (H3.out.1.oldS kn (fun k hk e => by omega))
       have HN := Lib.hid (And.intro HJ.out.1 hnx)
       simp only [set5] at HN
       clear d0 d1 d2 d3 d4 f0 f1 f2 f3 f4 s0 hpk ho2 hown' hgr kn hnx
       have j0 := KN.out.cell (p := ⟨ib, io, none⟩) (fun x => x) HJ.out.2.2.1
       have j1 := KN.out.cell (p := ⟨ib, io + 1, none⟩) (fun x => x) HJ.out.2.2.2.1
       have j2 := KN.out.cell (p := ⟨ib, io + 2, none⟩) (fun x => x) HJ.out.2.2.2.2.1
       have j3 := KN.out.cell (p := ⟨ib, io + 3, none⟩) (fun x => x) HJ.out.2.2.2.2.2.1
       have j4 := KN.out.cell (p := ⟨ib, io + 4, none⟩) (fun x => x) HJ.out.2.2.2.2.2.2
       unfold tyObj at hXn
       rw [HDD.out.1] at hXn
       have d0 : w'.cell? ⟨w0.heap.size + 1 + 1, 0, none⟩ = some (.int .u8 u.k) := blk_cell hXn 0
       have d1 : w'.cell? ⟨w0.heap.size + 1 + 1, 1, none⟩ = some (.bool u.m) := blk_cell hXn 1
       have d2 : w'.cell? ⟨w0.heap.size + 1 + 1, 2, none⟩ = some (.int .i64 u.r) := blk_cell hXn 2
       have d3 : w'.cell? ⟨w0.heap.size + 1 + 1, 3, none⟩ = some (.int .i64 u.s) := blk_cell hXn 3
       have d4 : w'.cell? ⟨w0.heap.size + 1 + 1, 4, none⟩ = some (.slice (some ⟨ib, io, none⟩) 1 uc) := blk_cell hXn 4
       have f0 := blk_frozen hXn 0
       have f1 := blk_frozen hXn 1
       have f2 := blk_frozen hXn 2
       have f3 := blk_frozen hXn 3
       have f4 := blk_frozen hXn 4
       clear hXn
       go_wp2_with fail
       go_roundg (N - (i + 1))
       case measure => omega
       case rel => exact ⟨i + 1, v, ia, ic, hs ++ [2], va, vc, by omega, rfl, by go_num, rfl, HN⟩
      | false =>
       have hsp : stepP S u k = some (in0 u, 3) := by unfold stepP; rw [if_neg (by omega), if_neg (by rw [hm]; simp), if_pos ⟨hk1, hkd⟩]
       obtain ⟨ib, io, ia, ic, rfl, hone, huc, hic, hin⟩ := hst.out.2.on.deref (by first | exact Or.inl hkd | exact Or.inr hkd)
       obtain ⟨j0, j1, j2, j3, j4⟩ := hic
       rw [hone] at d4
       obtain ⟨v, hv⟩ : ∃ v, v = in0 u := ⟨_, rfl⟩
       rw [← hv] at j0 j1 j2 j3 j4 hin hsp
       have hwn : walkN S (L.getD j ty0) p.path (i + 1) = some (v, hs ++ [3]) := walkN_step hst.out.1 (by rw [← HKK.out]; exact hsp)
       have hucI : (1 : Int) ≤ (uc : Int) := by omega
       have HST := Lib.hid hst.out.2
       have HJ := Lib.hid (And.intro hwn (And.intro hin (And.intro j0 (And.intro j1 (And.intro j2 (And.intro j3 j4))))))
       have HDD := Lib.hid (And.intro hone hkd)
       rw [hkd] at d0
       rw [hm] at d1
       rw [hk1] at hpk
       clear hwn hin j0 j1 j2 j3 j4 hsp hst hv
       go_wp2_with (at_builtin; refine Stopped.out ?_)
       refine ⟨?_⟩
       have ho2 := own_kb hos ((KB.refl F0 wi).alloc (.cells #[.int .i64 3] 3)) (fun _ _ x => x)
       refine app1 40 3 W3.heap.size (.int .i64 3) Tryz.infoIntV Tryz.underlying40 rfl ho2 rfl rfl rfl rfl (blk_cell (alloc_new _ _) 0) rfl (by unfold maxLen; omega) (by omega) (by have := ((KB.refl F0 wi).alloc (.cells #[.int .i64 3] 3)).size; omega) ?_
       intro v' w' hown' hgr
       obtain ⟨kn, hXn, hnx⟩ := HST.out.next hz3 HJ.out.2.1 (by rw [hlen]; exact hown') hgr
       obtain ⟨va, vc, e2⟩ : ∃ a c, v' = .slice a (i + 1) c := by
        obtain ⟨a, c, e, -⟩ := own_shape hown'
        exact ⟨a, c, e⟩
       subst e2
       have KN := Lib.hid (H3.out.1.oldS kn (fun k hk e => by omega))
       have HN := Lib.hid (And.intro HJ.out.1 hnx)
       simp only [set5] at HN
       clear d0 d1 d2 d3 d4 f0 f1 f2 f3 f4 s0 hpk ho2 hown' hgr kn hnx
       have j0 := KN.out.cell (p := ⟨ib, io, none⟩) (fun x => x) HJ.out.2.2.1
       have j1 := KN.out.cell (p := ⟨ib, io + 1, none⟩) (fun x => x) HJ.out.2.2.2.1
       have j2 := KN.out.cell (p := ⟨ib, io + 2, none⟩) (fun x => x) HJ.out.2.2.2.2.1
       have j3 := KN.out.cell (p := ⟨ib, io + 3, none⟩) (fun x => x) HJ.out.2.2.2.2.2.1
       have j4 := KN.out.cell (p := ⟨ib, io + 4, none⟩) (fun x => x) HJ.out.2.2.2.2.2.2
       unfold tyObj at hXn
       rw [HDD.out.1] at hXn
       have d0 : w'.cell? ⟨w0.heap.size + 1 + 1, 0, none⟩ = some (.int .u8 u.k) := blk_cell hXn 0
       have d1 : w'.cell? ⟨w0.heap.size + 1 + 1, 1, none⟩ = some (.bool u.m) := blk_cell hXn 1
       have d2 : w'.cell? ⟨w0.heap.size + 1 + 1, 2, none⟩ = some (.int .i64 u.r) := blk_cell hXn 2
       have d3 : w'.cell? ⟨w0.heap.size + 1 + 1, 3, none⟩ = some (.int .i64 u.s) := blk_cell hXn 3
       have d4 : w'.cell? ⟨w0.heap.size + 1 + 1, 4, none⟩ = some (.slice (some ⟨ib, io, none⟩) 1 uc) := blk_cell hXn 4
       have f0 := blk_frozen hXn 0
       have f1 := blk_frozen hXn 1
       have f2 := blk_frozen hXn 2
       have f3 := blk_frozen hXn 3
       have f4 := blk_frozen hXn 4
       clear hXn
       go_wp2_with fail
       go_roundg (N - (i + 1))
       case measure => omega
       case rel => exact ⟨i + 1, v, ia, ic, hs ++ [3], va, vc, by omega, rfl, by go_num, rfl, HN⟩
     ·have e3 : (u.k == 3) = false := by simpa using hkd
      have e4 : (u.k == 4) = false := by simpa using hk4
      by_cases hk5 : u.k = 5
      ·have hsp : stepP S u k = none := by unfold stepP; rw [if_neg (by omega), if_neg (by omega), if_neg (by omega), if_pos (by omega)]
       rw [hk5] at d0
       rw [hk1] at hpk
       have HO : Hid (O = none) := Lib.hid (by rw [HP.out]; exact walkN_none (walkN_stop hst.out.1 (by rw [← HKK.out]; exact hsp)) (by omega))
       have HX3 := Lib.hid hst.out.2.cell
       clear hst hsp
       go_wp2_with fail
       refine ret_tyI3 (X := w0.heap.size + 1 + 1) rfl rfl rfl rfl (set5_blk HX3.out (.int .u8 0) (.bool false) (.int .i64 0) (.int .i64 0) (.slice none 0 0)) rfl ?_
       exact wkEnd_none HO.out (set5_new K0.out (show w0.heap.size ≤ w0.heap.size + 1 + 1 by omega) _ _ _ _ _)
      ·have e5 : (u.k != 5) = true := by simpa using hk5
       have hsp : stepP S u k = none := by unfold stepP; rw [if_neg (by omega), if_neg (by omega), if_neg (by omega), if_pos (by omega)]
       rw [hk1] at hpk
       generalize u.k = uk at d0 e3 e4 e5
       have HO : Hid (O = none) := Lib.hid (by rw [HP.out]; exact walkN_none (walkN_stop hst.out.1 (by rw [← HKK.out]; exact hsp)) (by omega))
       have HX3 := Lib.hid hst.out.2.cell
       clear hst hsp
       go_wp2_with fail
       refine ret_tyI3 (X := w0.heap.size + 1 + 1) rfl rfl rfl rfl (set5_blk HX3.out (.int .u8 0) (.bool false) (.int .i64 0) (.int .i64 0) (.slice none 0 0)) rfl ?_
       exact wkEnd_none HO.out (set5_new K0.out (show w0.heap.size ≤ w0.heap.size + 1 + 1 by omega) _ _ _ _ _)
   ·have e1 : (k == -1) = false := by simpa using hk1
    by_cases hkd : u.k = 5
    ·by_cases hkn : k < 0
     ·have dkn : decide (k < 0) = true := decide_eq_true hkn
      have hsp : stepP S u k = none := by unfold stepP; rw [if_neg (by omega), if_neg (by omega), if_neg (by omega), if_pos (by omega)]
      rw [hkd] at d0
      have HO : Hid (O = none) := Lib.hid (by rw [HP.out]; exact walkN_none (walkN_stop hst.out.1 (by rw [← HKK.out]; exact hsp)) (by omega))
      have HX3 := Lib.hid hst.out.2.cell
      clear hst hsp
      go_wp2_with fail
      refine ret_tyI3 (X := w0.heap.size + 1 + 1) rfl rfl rfl rfl (set5_blk HX3.out (.int .u8 0) (.bool false) (.int .i64 0) (.int .i64 0) (.slice none 0 0)) rfl ?_
      exact wkEnd_none HO.out (set5_new K0.out (show w0.heap.size ≤ w0.heap.size + 1 + 1 by omega) _ _ _ _ _)
     ·have dkn : decide (k < 0) = false := decide_eq_false hkn
      by_cases hkf : ((fds S u.s.toNat).length : Int) ≤ k
      ·have hsp : stepP S u k = none := by unfold stepP; rw [if_neg (by omega), if_neg (by omega), if_neg (by omega), if_pos (by omega)]
       obtain ⟨d9, hd9, hl9, -⟩ := hst.out.2.on
       have hss := look_struct hl9 hkd
       obtain ⟨m, hm⟩ : ∃ m : Nat, u.s = m := ⟨u.s.toNat, by omega⟩
       have hmn : u.s.toNat = m := by omega
       obtain ⟨sb, so, snm, fa, fc, e9, -, hfl0, -, -⟩ := HH.out.1 m (by omega)
       rw [e9] at s0
       have hfl := K0.out.cell (p := ⟨sb, so + m * 2 + 1, none⟩) (fun x => x) hfl0
       rw [hmn] at hkf
       obtain ⟨F, hF⟩ : ∃ F, F = (fds S m).length := ⟨_, rfl⟩
       rw [show (S.getD m []).length = F from hF.symm] at hfl
       rw [← hF] at hkf
       have dkf : decide ((F : Int) ≤ k) = true := decide_eq_true hkf
       have hmI : (m : Int) < (nS : Int) := by rw [HH.out.2.2.2.2.1]; omega
       have hmN : m < nS := by omega
       rw [hkd] at d0
       rw [hm] at d3
       clear hF hss hl9 hd9 hfl0
       have HO : Hid (O = none) := Lib.hid (by rw [HP.out]; exact walkN_none (walkN_stop hst.out.1 (by rw [← HKK.out]; exact hsp)) (by omega))
       have HX3 := Lib.hid hst.out.2.cell
       clear hst hsp
       go_wp2_with fail
       refine ret_tyI3 (X := w0.heap.size + 1 + 1) rfl rfl rfl rfl (set5_blk HX3.out (.int .u8 0) (.bool false) (.int .i64 0) (.int .i64 0) (.slice none 0 0)) rfl ?_
       exact wkEnd_none HO.out (set5_new K0.out (show w0.heap.size ≤ w0.heap.size + 1 + 1 by omega) _ _ _ _ _)
      ·skip
       have hk0 : 0 ≤ k := by omega
       obtain ⟨z, hz⟩ : ∃ z : Nat, k = z := ⟨k.toNat, by omega⟩
       have hzl : z < (fds S u.s.toNat).length := by omega
       have hsp : stepP S u k = some ((fds S u.s.toNat).getD z ty0, 0) := by
        unfold stepP
        rw [if_neg (by omega), if_neg (by omega), if_neg (by omega), if_neg (by omega), hz]; rfl
       obtain ⟨m, sb, so, fb, fo, fc, ia, ic, hms, hmn, e9, hfl, hflc, hic, hin⟩ := hst.out.2.on.field HG.out HH.out.1 hkd hzl
       rw [e9] at s0
       have HE9 := Lib.hid e9
       have HFL0' := hfl
       have hfl := K0.out.cell (p := ⟨sb, so + m * 2 + 1, none⟩) (fun x => x) hfl
       obtain ⟨j0, j1, j2, j3, j4⟩ := hic
       obtain ⟨v, hv⟩ : ∃ v, v = (fds S u.s.toNat).getD z ty0 := ⟨_, rfl⟩
       rw [← hv] at j0 j1 j2 j3 j4 hin hsp
       obtain ⟨F, hF⟩ : ∃ F, F = (fds S u.s.toNat).length := ⟨_, rfl⟩
       rw [← hF] at hfl hflc hzl hkf HFL0'
       have HFL0 := Lib.hid HFL0'
       clear HFL0'
       have hwn : walkN S (L.getD j ty0) p.path (i + 1) = some (v, hs ++ [0]) := walkN_step hst.out.1 (by rw [← HKK.out]; exact hsp)
       have hmI : (m : Int) < (nS : Int) := by rw [HH.out.2.2.2.2.1]; omega
       have hmN : m < nS := by omega
       have hzI : (z : Int) < (F : Int) := by omega
       have hzN : ¬ ((F : Int) ≤ (z : Int)) := by omega
       have dz1 : decide ((F : Int) ≤ (z : Int)) = false := decide_eq_false hzN
       have dz2 : decide (F ≤ z) = false := decide_eq_false (by omega)
       have dz3 : decide ((z : Int) < 0) = false := decide_eq_false (by omega)
       have dz4 : ((z : Int) == -1) = false := by first | (simp; done) | (simp; omega)
       have HST := Lib.hid hst.out.2
       have HJ := Lib.hid (And.intro hwn (And.intro hin (And.intro j0 (And.intro j1 (And.intro j2 (And.intro j3 j4))))))
       have HDD := Lib.hid (And.intro hms (And.intro hkd hfl))
       rw [hkd] at d0
       rw [hms] at d3
       rw [hz] at hpk
       clear hwn hin j0 j1 j2 j3 j4 hsp hst hv hF hzN e9
       go_wp2_with (at_builtin; refine Stopped.out ?_)
       refine ⟨?_⟩
       have ho2 := own_kb hos ((KB.refl F0 wi).alloc (.cells #[.int .i64 0] 3)) (fun _ _ x => x)
       refine app1 40 3 W3.heap.size (.int .i64 0) Tryz.infoIntV Tryz.underlying40 rfl ho2 rfl rfl rfl rfl (blk_cell (alloc_new _ _) 0) rfl (by unfold maxLen; omega) (by omega) (by have := ((KB.refl F0 wi).alloc (.cells #[.int .i64 0] 3)).size; omega) ?_
       intro v' w' hown' hgr
       obtain ⟨kn, hXn, hnx⟩ := HST.out.next hz3 HJ.out.2.1 (by rw [hlen]; exact hown') hgr
       obtain ⟨va, vc, e2⟩ : ∃ a c, v' = .slice a (i + 1) c := by
        obtain ⟨a, c, e, -⟩ := own_shape hown'
        exact ⟨a, c, e⟩
       subst e2
       have KN := Lib.hid (H3.out.1.oldS kn (fun k hk e => by omega))
       have HN := Lib.hid (And.intro HJ.out.1 hnx)
       simp only [set5] at HN
       have sk := kn.heap (b := w0.heap.size) (by omega) H3.out.2.2.2
       rw [HE9.out] at sk
       have s1 : w'.cell? ⟨w0.heap.size, 0, none⟩ = some (.slice (some ⟨sb, so, none⟩) nS sc) := blk_cell sk 0
       have hfl2 := KN.out.cell (p := ⟨sb, so + m * 2 + 1, none⟩) (fun x => x) HFL0.out
       clear d0 d1 d2 d3 d4 f0 f1 f2 f3 f4 s0 hpk ho2 hown' hgr kn hnx sk hfl
       have j0 := KN.out.cell (p := ⟨fb, fo + z * 6 + 1, none⟩) (fun x => x) HJ.out.2.2.1
       have j1 := KN.out.cell (p := ⟨fb, fo + z * 6 + 1 + 1, none⟩) (fun x => x) HJ.out.2.2.2.1
       have j2 := KN.out.cell (p := ⟨fb, fo + z * 6 + 1 + 2, none⟩) (fun x => x) HJ.out.2.2.2.2.1
       have j3 := KN.out.cell (p := ⟨fb, fo + z * 6 + 1 + 3, none⟩) (fun x => x) HJ.out.2.2.2.2.2.1
       have j4 := KN.out.cell (p := ⟨fb, fo + z * 6 + 1 + 4, none⟩) (fun x => x) HJ.out.2.2.2.2.2.2
       unfold tyObj at hXn
       rw [HDD.out.1] at hXn
       have d0 : w'.cell? ⟨w0.heap.size + 1 + 1, 0, none⟩ = some (.int .u8 u.k) := blk_cell hXn 0
       have d1 : w'.cell? ⟨w0.heap.size + 1 + 1, 1, none⟩ = some (.bool u.m) := blk_cell hXn 1
       have d2 : w'.cell? ⟨w0.heap.size + 1 + 1, 2, none⟩ = some (.int .i64 u.r) := blk_cell hXn 2
       have d3 : w'.cell? ⟨w0.heap.size + 1 + 1, 3, none⟩ = some (.int .i64 (m : Nat)) := blk_cell hXn 3
       have d4 : w'.cell? ⟨w0.heap.size + 1 + 1, 4, none⟩ = some (.slice ua u.of.length uc) := blk_cell hXn 4
       have f0 := blk_frozen hXn 0
       have f1 := blk_frozen hXn 1
       have f2 := blk_frozen hXn 2
       have f3 := blk_frozen hXn 3
       have f4 := blk_frozen hXn 4
       clear hXn
       go_wp2_with fail
       go_roundg (N - (i + 1))
       case measure => omega
       case rel => exact ⟨i + 1, v, ia, ic, hs ++ [0], va, vc, by omega, rfl, by go_num, rfl, HN⟩
    ·have e5 : (u.k != 5) = true := by simpa using hkd
     have hsp : stepP S u k = none := by unfold stepP; rw [if_neg (by omega), if_neg (by omega), if_neg (by omega), if_pos (by omega)]
     generalize u.k = uk at d0 e5
     have HO : Hid (O = none) := Lib.hid (by rw [HP.out]; exact walkN_none (walkN_stop hst.out.1 (by rw [← HKK.out]; exact hsp)) (by omega))
     have HX3 := Lib.hid hst.out.2.cell
     clear hst hsp
     go_wp2_with fail
     refine ret_tyI3 (X := w0.heap.size + 1 + 1) rfl rfl rfl rfl (set5_blk HX3.out (.int .u8 0) (.bool false) (.int .i64 0) (.int .i64 0) (.slice none 0 0)) rfl ?_
     exact wkEnd_none HO.out (set5_new K0.out (show w0.heap.size ≤ w0.heap.size + 1 + 1 by omega) _ _ _ _ _)
  ·obtain rfl : i = N := by omega
   have dI : decide ((i : Int) < (i : Int)) = false := decide_eq_false (by omega)
   have hX3 := hst.out.2.cell
   have d0 : wi.cell? ⟨w0.heap.size + 1 + 1, 0, none⟩ = some (.int .u8 u.k) := blk_cell hX3 0
   have d1 : wi.cell? ⟨w0.heap.size + 1 + 1, 1, none⟩ = some (.bool u.m) := blk_cell hX3 1
   have d2 : wi.cell? ⟨w0.heap.size + 1 + 1, 2, none⟩ = some (.int .i64 u.r) := blk_cell hX3 2
   have d3 : wi.cell? ⟨w0.heap.size + 1 + 1, 3, none⟩ = some (.int .i64 u.s) := blk_cell hX3 3
   have d4 : wi.cell? ⟨w0.heap.size + 1 + 1, 4, none⟩ = some (.slice ua u.of.length uc) := blk_cell hX3 4
   have f0 := blk_frozen hX3 0
   have f1 := blk_frozen hX3 1
   have f2 := blk_frozen hX3 2
   have f3 := blk_frozen hX3 3
   have f4 := blk_frozen hX3 4
   have HE2 : Hid (WkEnd S w0 O (.returned (.tuple #[.agg #[.int .u8 u.k, .bool u.m, .int .i64 u.r, .int .i64 u.s, .slice ua u.of.length uc], .slice ga i gc, .bool true])) (set5 wi (w0.heap.size + 1 + 1) (.int .u8 u.k) (.bool u.m) (.int .i64 u.r) (.int .i64 u.s) (.slice ua u.of.length uc))) := Lib.hid (by
    rw [HP.out, hst.out.1]
    refine ⟨set5_new K0.out (show w0.heap.size ≤ w0.heap.size + 1 + 1 by omega) _ _ _ _ _, ua, uc, .slice ga i gc, rfl, hst.out.2.on, ?_⟩
    refine own_base (own_kb hst.out.2.own (set5_kb wi (w0.heap.size + 1 + 1) _ _ _ _ _) (fun k e1 e2 => ?_)) H3.out.1.size
    obtain ⟨c1, h1, h2⟩ := own_block hst.out.2.own e1
    omega)
   have HX3 := Lib.hid hX3
   clear hst hX3
   go_wp2_with fail
   exact ret_tyI3 (X := w0.heap.size + 1 + 1) rfl rfl rfl rfl (set5_blk HX3.out (.int .u8 u.k) (.bool u.m) (.int .i64 u.r) (.int .i64 u.s) (.slice ua u.of.length uc)) rfl HE2.out
end Go.Proofs.YtaeppaaolkcbbaaGreatDoor

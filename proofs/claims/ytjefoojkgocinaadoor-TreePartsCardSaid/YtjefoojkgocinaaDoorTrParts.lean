/- The law TreeParts. -/
import Derived.Test.YtjefoojkgocinaaDoorTrPartsP
import Derived.Test.YtjefoojkgocinaaDoorTrPartsS
import Derived.Test.YtjefoojkgocinaaDoorRegNew
import Derived.Test.YtjefoojkgocinaaDoorTrTrees
import Derived.Test.YtjefoojkgocinaaDoorTrFitA
import Derived.Test.YtjefoojkgocinaaDoorTrAwake
namespace Go.Proofs.YtjefoojkgocinaaDoor
open Go.RowKit

theorem eqT_same (ts : List Nd) : eqT false ts ts = true := eqT_step rfl (fun i _ => by unfold eqP eqNd; simp)
theorem sameN_self {ts : List Nd} (h : mayN ts = true) : sameN ts ts = true := by
  unfold sameN
  rw [h, eqT_same]; rfl
theorem OwnTs.nodesAt' {W : World} {B c n : Nat} {a : Option Addr} {ts : List Nd} {ls : List Value} (h : OwnTs W B (.slice a n c) ts ls) : NodesAt W a ts ∧ ts.length ≤ c ∧ c ≤ 9223372036854775807 := by
  obtain ⟨a', c', e, hn, h1, h2, -⟩ := h.nodes
  simp only [Value.slice.injEq] at e
  obtain ⟨rfl, -, rfl⟩ := e
  exact ⟨hn, h1, by unfold maxLen at h2; omega⟩
theorem may_pos {ts : List Nd} (h : mayN ts = true) : 0 < ts.length ∧ ts.length ≤ 16384 := ⟨(may_parts h).1.1, (may_parts h).2.1⟩

set_option maxRecDepth 100000 in
set_option maxHeartbeats 8000000 in
theorem treeParts_any (ts : List Nd) (hok : ∀ x ∈ ts, NdOk x) (a : Option Addr) (ca : Nat) (hca : ts.length ≤ ca) (hcam : ca ≤ 9223372036854775807) (n : Int) (hn1 : -9223372036854775808 ≤ n) (hn2 : n ≤ 9223372036854775807) (w : World)
    (h1 : NodesAt w a ts) (hT : Tab w) :
    Calls Tryd.prog 6 #[.agg #[.slice a ts.length ca], .int .i64 n] w fun e w' => e = .returned (.bool true) ∧ KB F0 w w' := by
  obtain ⟨w0, rfl⟩ : ∃ w0, w0 = w := ⟨_, rfl⟩
  have F1 := Lib.hid (fun (W : World) (h : KB F0 w0 W) => fits_any ts a ca hca hcam W (h1.kbF h))
  have AW := Lib.hid (fun (W : World) (h : KB F0 w0 W) => awake_any W (hT.kb h))
  have MY := Lib.hid (fun (hb : ts.length ≤ 16392) (W : World) (h : KB F0 w0 W) => may_any ts (by omega) hok a ca W (h1.kbF h) (hT.kb h))
  have HTS := Lib.hid (And.intro h1 (And.intro hT hok))
  obtain ⟨N, hN⟩ : ∃ N, N = ts.length := ⟨_, rfl⟩
  rw [← hN] at F1 MY hca ⊢
  have HN := Lib.hid hN
  obtain ⟨W1, hW1⟩ : ∃ W1, W1 = w0.alloc (.cells #[.slice a N ca] 31) := ⟨_, rfl⟩
  have k1 : KB F0 w0 W1 := by rw [hW1]; exact (KB.refl _ _).alloc _
  have h0h : W1.heap[w0.heap.size]? = some (.cells #[.slice a N ca] 31 (0, 0)) := by rw [hW1]; exact alloc_new _ _
  have H1 := Lib.hid (And.intro k1 h0h)
  have HW1 := Lib.hid hW1
  have b0 : W1.cell? ⟨w0.heap.size, 0, none⟩ = some (.slice a N ca) := blk_cell h0h 0
  rw [hW1] at b0
  clear h1 hT hok hN hW1 k1 h0h
  go_enter Tryd.func6, Tryd.ntmps6
  go_wp2_with fail
  rw [← HW1.out]
  refine (F1.out W1 H1.out.1).mono ?_
  rintro e W2 ⟨f1, rfl, hf1, k2⟩
  have Hf1 := Lib.hid hf1
  have K2 := Lib.hid (And.intro k2 (H1.out.1.trans k2))
  have h0h := k2.heap (fun x => x) H1.out.2
  have b0 : W2.cell? ⟨w0.heap.size, 0, none⟩ = some (.slice a N ca) := blk_cell h0h 0
  clear k2 h0h hf1
  cases f1
  case false =>
    go_wp2_with fail
    refine (AW.out W2 K2.out.2).mono ?_
    rintro e W3 ⟨rfl, k3⟩
    have K3 := Lib.hid (K2.out.2.trans k3)
    clear k3
    go_wp2
    go_ret
    exact ⟨rfl, K3.out⟩
  have hbT := Lib.hid (Hf1.out (by first | rfl | trivial))
  have hN1 : N ≤ 16392 := by have := hbT.out.1; have := HN.out; omega
  go_wp2_with fail
  refine (MY.out hN1 W2 K2.out.2).mono ?_
  obtain ⟨m, hm⟩ : ∃ m, m = mayN ts := ⟨_, rfl⟩
  rw [← hm]
  have Hm := Lib.hid hm
  rintro e W3 ⟨rfl, k3⟩
  have K3 := Lib.hid (And.intro (K2.out.1.trans k3) (K2.out.2.trans k3))
  clear k3 hm b0
  cases m
  case false =>
    go_wp2_with fail
    refine (AW.out W3 K3.out.2).mono ?_
    rintro e W4 ⟨rfl, k4⟩
    have K4 := Lib.hid (K3.out.2.trans k4)
    clear k4
    go_wp2
    go_ret
    exact ⟨rfl, K4.out⟩
  have hmay := Lib.hid Hm.out.symm
  have hg := Lib.hid (may_parts hmay.out).1
  obtain ⟨rb, ro, rfl, hr0⟩ := HTS.out.1 0 hg.out.1
  rw [show ro + 0 * 5 = ro by omega] at hr0
  obtain ⟨la, lc, hl4, hi0, hlc, hlm⟩ := hr0.l
  obtain ⟨r, hr⟩ : ∃ r, r = ts.getD 0 nd0 := ⟨_, rfl⟩
  obtain ⟨P, hP⟩ : ∃ P, P = partsN ts := ⟨_, rfl⟩
  have hPl : P.length = r.l.length := by rw [hP, hr, parts_len]
  have PG := Lib.hid (fun (i : Nat) (hi : i < r.l.length) => (show 0 ≤ r.l.getD i 0 ∧ r.l.getD i 0 < (ts.length : Int) ∧ subT ts (r.l.getD i 0) = P.getD i [] ∧ subE ts (r.l.getD i 0) = 0 ∧ mayN (P.getD i []) = true by
    rw [hr] at hi
    rw [hP, hr]; exact parts_get hmay.out hi))
  have JP := Lib.hid (And.intro (show joinT r P = ts by rw [hP, hr]; exact joinT_parts hmay.out) (And.intro (show joinE r P = 0 by rw [hP, hr]; exact joinE_parts hmay.out)
    (And.intro (show NdOks P by rw [hP]; exact parts_ok hmay.out HTS.out.2.2) (And.intro (show ∀ c ∈ P, c.length ≤ 20000 from fun c hc => by rw [hP] at hc; have := parts_size hmay.out c hc; omega) (show NdOk r by rw [hr]; exact HTS.out.2.2 _ (getD_memN hg.out.1))))))
  have hrx : r.l.length ≤ 16392 := by rw [hr]; exact hbT.out.2 _ (getD_memN hg.out.1)
  have RT := Lib.hid hr
  rw [← hr] at hl4 hi0 hlc hr0
  obtain ⟨Kn, hKn⟩ : ∃ Kn, Kn = r.l.length := ⟨_, rfl⟩
  rw [← hKn] at hl4 hlc hrx PG
  have HK := Lib.hid (And.intro hKn (hPl.trans hKn.symm))
  have hN0 : 0 < N := by rw [HN.out]; exact hg.out.1
  have SB := Lib.hid (fun (a : Option Addr) (ca : Nat) (hca : N ≤ ca) (q : Int) (hq1 : -9223372036854775808 ≤ q) (hq2 : q ≤ 9223372036854775807) (W : World) (hk : KB F0 w0 W) (hn : NodesAt W a ts) => sub_any ts (by have := HN.out; omega) HTS.out.2.2 a ca (by have := HN.out; omega) q hq1 hq2 W hn (HTS.out.2.1.kb hk))
  have SM := Lib.hid (fun (c : List Nd) (hc : mayN c = true) (hcok : ∀ x ∈ c, NdOk x) (a b : Option Addr) (ca cb : Nat) (h1 : c.length ≤ ca) (h1' : ca ≤ 9223372036854775807) (h2 : c.length ≤ cb) (h2' : cb ≤ 9223372036854775807) (W : World) (hk : KB F0 w0 W) (n1 : NodesAt W a c) (n2 : NodesAt W b c) => (sameN_self hc) ▸ lsame_any c (by have := (may_pos hc).2; omega) hcok a b ca cb h1 h1' h2 h2' W n1 n2 (HTS.out.2.1.kb hk))
  have MA := Lib.hid (fun (c : List Nd) (hc : mayN c = true) (hcok : ∀ x ∈ c, NdOk x) (a : Option Addr) (ca : Nat) (W : World) (hk : KB F0 w0 W) (n1 : NodesAt W a c) => hc ▸ may_any c (by have := (may_pos hc).2; omega) hcok a ca W n1 (HTS.out.2.1.kb hk))
  have HR := Lib.hid (And.intro hr0 (And.intro hl4 hi0))
  unfold maxLen at hlm
  rw [← HN.out] at SB PG
  clear hr0 hl4 hi0 hr hP hPl hKn
  go_wp2_with fail
  go_loopw [6, 5] (fun kv ov wr => ∃ (k : Nat) (vs : List Value), k ≤ Kn ∧ kv = .int .i64 k ∧ OwnTrs wr W1.heap.size ov (P.take k) vs ∧ KB F0 W1 wr) (fun kv _ _ => Kn - (intOf kv).toNat)
  case atStart => exact ⟨0, [], by omega, rfl, ownTrs_nil _ _, K3.out.1⟩
  case round =>
    obtain ⟨k, vs, hk, rfl, hown, hkb⟩ := hrel
    have b0 : wr.cell? ⟨w0.heap.size, 0, none⟩ = some (.slice (some ⟨rb, ro, none⟩) N ca) := blk_cell (hkb.heap (fun x => x) H1.out.2) 0
    have hkb0 := H1.out.1.trans hkb
    have c4 := hkb0.cell (p := ⟨rb, ro + 4, none⟩) (fun x => x) HR.out.2.1
    have HL := Lib.hid (And.intro hown (And.intro hkb hkb0))
    by_cases hlt : k < Kn
    · have hlt' : k < r.l.length := by rw [← HK.out.1]; exact hlt
      obtain ⟨lb, lo, rfl, q1⟩ := HR.out.2.2 k hlt'
      have cq := hkb0.cell (p := ⟨lb, lo + k, none⟩) (fun x => x) q1
      obtain ⟨g1, g2, g3, g4, g5⟩ := PG.out k hlt
      have htk := take_getD (l := P) (d := []) (k := k) (by have := HK.out.2; omega)
      have hcok : ∀ x ∈ P.getD k [], NdOk x := JP.out.2.2.1 _ (trees_mem (by have := HK.out.2; omega))
      generalize r.l.getD k 0 = q at cq q1 g1 g2 g3 g4
      generalize P.getD k [] = S at g3 g5 htk hcok
      have hdl : (P.take k).length = k := by rw [List.length_take]; have := HK.out.2; omega
      obtain ⟨done, hdone⟩ : ∃ done, done = P.take k := ⟨_, rfl⟩
      have HS := Lib.hid (And.intro g5 (And.intro hcok (And.intro (by rw [← hdone] at htk; exact htk : P.take (k + 1) = done ++ [S]) (And.intro (by rw [hdone]; exact hdl : done.length = k) (by rw [hdone]; exact HL.out.1 : OwnTrs wr W1.heap.size _ done vs)))))
      have SQ := Lib.hid (fun (W : World) (hk : KB F0 wr W) => (show Calls Tryd.prog 15 #[.agg #[.slice (some ⟨rb, ro, none⟩) N ca], .int .i64 q] W fun e w' => ∃ v ls, e = .returned (.tuple #[.agg #[v], .int .i64 0]) ∧ OwnTs w' W.heap.size v S ls ∧ KB F0 W w' by
        have h := SB.out (some ⟨rb, ro, none⟩) ca hca q (by omega) (by omega) W (HL.out.2.2.trans hk) (HTS.out.1.kbF (HL.out.2.2.trans hk))
        rw [g3, g4] at h
        exact h))
      have hSl : 0 < S.length ∧ S.length ≤ 16384 := may_pos g5
      clear hown hkb hkb0 htk hcok g3 g4 g5 q1 hdone hdl
      go_wp2_with fail
      refine St.wp_region_rv 16 (St.GT S wr.heap.size) (St.kindX (St.gtKinds S wr.heap.size 9 13 14 0)) (by kernel_rfl) (by kernel_rfl) St.gt_trans St.gt_refl (St.gt_kbF (kb_start _ _)) (St.kindX_mono _ St.gtKinds_mono) ?_
      simp only [List.take_succ_cons, List.take_zero, List.drop_succ_cons, List.drop_zero]
      iterate 9 (refine St.rv_det (by kernel_rfl) rfl (by intro w hG hH; have hk := hG.kb (Nat.le_refl _); have hc0 := hk.cell (p := ⟨w0.heap.size, 0, none⟩) (fun x => x) b0; have hc1 := hk.cell (p := ⟨rb, ro + 4, none⟩) (fun x => x) c4; have hc2 := hk.cell (p := ⟨lb, lo + k, none⟩) (fun x => x) cq; go_simp; first | done | with_reducible rfl) ?_; simp only [Act.put, List.setIfInBounds_toArray, List.set_cons_zero, List.set_cons_succ])
      refine St.rv_rel (by kernel_rfl) rfl ⟨_, none, 0, rfl⟩ (by
        intro w hG hH
        have hk := hG.kb (Nat.le_refl _)
        refine St.opVal_call (by go_simp; first | done | exact ⟨⟨rfl, rfl⟩, rfl⟩) ?_
        refine (SQ.out w hk).mono ?_
        rintro e w' ⟨v, ls, rfl, ho, hq⟩
        obtain ⟨a2, c2, rfl, -⟩ := ho.nodes
        exact ⟨_, rfl, ⟨a2, c2, rfl⟩, St.gt_kbF hq, ⟨_, rfl, ⟨a2, c2, ls, rfl, ho.base hG.1.size⟩⟩⟩) ?_
      rintro v ⟨a2, c2, rfl⟩
      simp only [Act.put, List.setIfInBounds_toArray, List.set_cons_zero, List.set_cons_succ]
      iterate 3 (refine St.rv_det (by kernel_rfl) rfl (by intro w hG hH; go_simp; first | done | with_reducible rfl) ?_; simp only [Act.put, List.setIfInBounds_toArray, List.set_cons_zero, List.set_cons_succ])
      refine St.rv_rel (by kernel_rfl) rfl ⟨.pointer (some ⟨0, 0, none⟩), 0, rfl⟩ (fun w hG hH => St.opVal_value (v := .pointer (some ⟨w.heap.size, 0, none⟩)) (w' := w.alloc (.cells #[.slice none 0 0] 31)) (by go_simp; first | done | rfl)
        ⟨⟨_, rfl⟩, St.gt_kbF ((KB.refl _ w).alloc _), ⟨_, _, rfl, hG.1.size, alloc_new w _⟩⟩) ?_
      rintro v ⟨nb, rfl⟩
      simp only [Act.put, List.setIfInBounds_toArray, List.set_cons_zero, List.set_cons_succ]
      refine St.rv_rel (by kernel_rfl) rfl ⟨undef, trivial⟩ (by
        intro w hG hH
        obtain ⟨nb', u1, e1, htc⟩ := hH _ (List.Mem.head _) (by kernel_rfl)
        obtain ⟨u2, e2, hov⟩ := hH _ (List.Mem.tail _ (List.Mem.head _)) (by kernel_rfl)
        simp only [Value.pointer.injEq, Option.some.injEq, Addr.mk.injEq, and_true] at e1
        subst e1
        simp only [Value.tuple.injEq, Array.mk.injEq, List.cons.injEq, and_true, Value.agg.injEq] at e2
        subst e2
        have hs := St.gt_set htc hov
        have hc := blk_cell htc.2 0
        have hf := blk_frozen htc.2 0
        simp only [List.getElem?_toArray, List.getElem?_cons_zero] at hc
        exact St.opVal_skip (w' := w.setCell ⟨nb, 0, none⟩ (.slice a2 S.length c2)) (by go_simp; first | done | rfl) ⟨trivial, hs.1, ⟨nb, _, _, rfl, hs.2.1, hs.2.2⟩⟩) ?_
      rintro v -
      simp only [Act.put]
      iterate 1 (refine St.rv_det (by kernel_rfl) rfl (by intro w hG hH; go_simp; first | done | with_reducible rfl) ?_; simp only [Act.put, List.setIfInBounds_toArray, List.set_cons_zero, List.set_cons_succ])
      refine St.rv_nil (fun w hG hH => ?_)
      obtain ⟨nb', u0, u, e1, htc, hov⟩ := hH _ (List.Mem.head _)
      have e1' : Value.pointer (some ⟨nb, 0, none⟩) = .pointer (some ⟨nb', 0, none⟩) := (List.cons.inj e1).1
      simp only [Value.pointer.injEq, Option.some.injEq, Addr.mk.injEq, and_true] at e1'
      subst e1'
      obtain ⟨a5, c5, ls5, rfl, ho5⟩ := hov
      have hk5 := hG.kb (Nat.le_refl _)
      clear hG hH e1
      have K5 := Lib.hid (And.intro hk5 (And.intro (HL.out.2.1.trans hk5) (HL.out.2.2.trans hk5)))
      have t7 : w.cell? ⟨nb, 0, none⟩ = some (.slice a5 S.length c5) := blk_cell htc.2 0
      have H5 := Lib.hid (And.intro htc (HS.out.2.2.2.2.kbF hk5))
      have ho5' := Lib.hid ho5
      clear hk5 htc b0 c4 cq ho5
      go_wp2_with fail
      refine (MA.out S HS.out.1 HS.out.2.1 a5 c5 w K5.out.2.2 ho5'.out.nodesAt'.1).mono ?_
      rintro e W6 ⟨rfl, k6⟩
      have t7 : W6.cell? ⟨nb, 0, none⟩ = some (.slice a5 S.length c5) := blk_cell (k6.heap (fun x => x) H5.out.1.2) 0
      have K6 := Lib.hid (And.intro (K5.out.2.1.trans k6) (K5.out.2.2.trans k6))
      have hwrs : W1.heap.size ≤ wr.heap.size := HL.out.2.1.size
      have HO6 := Lib.hid (And.intro (H5.out.2.kbF k6) ((ho5'.out.kbF k6).base hwrs))
      clear k6
      go_wp2_with (at_builtin; refine Stopped.out ?_)
      refine ⟨?_⟩
      have ka : KB F0 W6 (W6.alloc (.cells #[.slice a5 S.length c5] 31)) := (KB.refl _ _).alloc _
      have HA := Lib.hid (And.intro (HO6.out.1.kbF ka) (And.intro (HO6.out.2.kbF ka) (K6.out.1.trans ka)))
      have hs6 : W1.heap.size ≤ W6.heap.size := K6.out.1.size
      have hdl := HS.out.2.2.2.1
      refine app1 26 31 W1.heap.size (.slice a5 S.length c5) Tryd.infoTree Tryd.underlying26' rfl HA.out.1.row rfl rfl rfl rfl (new_cell _ _ _ 0) rfl (by unfold maxLen; omega) (by omega) (by simp; omega) ?_
      intro v' w' hown' hgr
      have hpush := HA.out.1.push HA.out.2.1 hown' hgr
      have hkb' := HA.out.2.2.grown hgr (fun g e h => by
        obtain ⟨-, -, hb⟩ := own_block HA.out.1.row e
        omega)
      rw [← HS.out.2.2.1] at hpush
      have HP := Lib.hid (And.intro hpush hkb')
      clear hpush hkb' hown' hgr ka t7
      go_wp2
      go_roundw
      case rel => exact ⟨k + 1, _, by omega, by go_num, HP.out.1, HP.out.2⟩
      case measure => simp [intOf]; omega
    · obtain rfl : k = Kn := by omega
      obtain ⟨Wl, rfl⟩ : ∃ Wl, Wl = wr := ⟨_, rfl⟩
      have hall : P.take k = P := List.take_of_length_le (by rw [HK.out.2]; exact Nat.le_refl _)
      rw [hall] at hown
      obtain ⟨oa, oc, rfl, -, hoc1, hoc2⟩ := hown.at_
      have e1 : Value.slice oa P.length oc = .slice oa k oc := by rw [HK.out.2]
      rw [HK.out.2] at hoc1
      rw [e1] at hown ⊢
      have c0 := (HR.out.1.kbF hkb0).k
      have c1 := (HR.out.1.kbF hkb0).at_
      have c2 := (HR.out.1.kbF hkb0).n
      have c3 := (HR.out.1.kbF hkb0).s
      have JO := Lib.hid (show Calls Tryd.prog 11 #[.agg #[.int .u8 (r.k : Nat), .int .i64 r.at_, .int .i64 r.n, .string r.s, .slice la k lc], .slice oa k oc] Wl fun e w' => ∃ v ls, e = .returned (.tuple #[.agg #[v], .int .i64 0]) ∧ OwnTs w' Wl.heap.size v ts ls ∧ KB F0 Wl w' by
        have h := join_any r JP.out.2.2.2.2 la k lc P (by rw [HK.out.2]; omega) JP.out.2.2.2.1 JP.out.2.2.1 oa oc Wl hown.treesAt (HTS.out.2.1.kb hkb0)
        rw [JP.out.1, JP.out.2.1, HK.out.2] at h
        exact h)
      have HO := Lib.hid (And.intro hown (And.intro hkb hkb0))
      clear hown hkb hkb0 hall e1 HL
      go_wp2_with fail
      refine JO.out.mono ?_
      rintro e W4 ⟨v, ls, rfl, ho, k4⟩
      obtain ⟨oa2, oc2, rfl, -⟩ := ho.nodes
      have e1 : Value.slice oa2 ts.length oc2 = .slice oa2 N oc2 := by rw [HN.out]
      rw [e1] at ho ⊢
      obtain ⟨W5, hW5⟩ : ∃ W5, W5 = W4.alloc (.cells #[.slice oa2 N oc2] 31) := ⟨_, rfl⟩
      have kV : KB F0 W4 W5 := by rw [hW5]; exact (KB.refl _ _).alloc _
      have hov : W5.heap[W4.heap.size]? = some (.cells #[.slice oa2 N oc2] 31 (0, 0)) := by rw [hW5]; exact alloc_new _ _
      have k45 := k4.trans kV
      have hbx := (HO.out.2.1.trans k45).heap (fun x => x) H1.out.2
      have t9 : W5.cell? ⟨W4.heap.size, 0, none⟩ = some (.slice oa2 N oc2) := blk_cell hov 0
      have b0 : W5.cell? ⟨w0.heap.size, 0, none⟩ = some (.slice (some ⟨rb, ro, none⟩) N ca) := blk_cell hbx 0
      rw [hW5] at t9 b0
      have HW5 := Lib.hid hW5
      have ho5 := ho.kbF kV
      obtain ⟨hn5, ho51, ho52⟩ := ho5.nodesAt'
      obtain ⟨gb, go5, rfl, hro⟩ := hn5 0 hg.out.1
      rw [show go5 + 0 * 5 = go5 by omega, ← RT.out] at hro
      obtain ⟨la2, lc2, hl42, hi2, hlc2, hlm2⟩ := hro.l
      have e2 : Value.slice la2 r.l.length lc2 = .slice la2 k lc2 := by rw [HK.out.1]
      rw [e2] at hl42
      rw [← HK.out.1] at hlc2
      unfold maxLen at hlm2
      have H5 := Lib.hid (And.intro hn5 (And.intro hov (And.intro hl42 (And.intro hi2 (And.intro (HO.out.2.1.trans k45) (And.intro (HO.out.2.2.trans k45) (HO.out.1.kbF k45)))))))
      have SMT := Lib.hid (show Calls Tryd.prog 24 #[.agg #[.slice (some ⟨gb, go5, none⟩) N oc2], .agg #[.slice (some ⟨rb, ro, none⟩) N ca]] W5 fun e w' => e = .returned (.bool true) ∧ KB F0 W5 w' by
        have h := SM.out ts hmay.out HTS.out.2.2 (some ⟨gb, go5, none⟩) (some ⟨rb, ro, none⟩) oc2 ca ho51 ho52 (by have := HN.out; omega) hcam W5 H5.out.2.2.2.2.2.1 H5.out.1 (HTS.out.1.kbF H5.out.2.2.2.2.2.1)
        rw [← HN.out] at h
        exact h)
      rw [← HN.out] at ho51
      clear ho k4 kV hov k45 hbx hW5 ho5 hn5 hro hl42 hi2 e1 e2 c0 c1 c2 c3 c4
      go_wp2_with fail
      rw [← HW5.out]
      clear t9
      obtain ⟨O9, hO9⟩ : ∃ O9, O9 = W4.heap.size := ⟨_, rfl⟩
      rw [← hO9] at H5 ⊢
      clear hO9
      refine SMT.out.mono ?_
      rintro e W6 ⟨rfl, k6⟩
      have H6 := Lib.hid (And.intro (H5.out.2.2.2.2.1.trans k6) (And.intro (H5.out.2.2.2.2.2.1.trans k6) (And.intro (H5.out.1.kbF k6) (And.intro (k6.heap (fun x => x) H5.out.2.1) (And.intro (k6.cell (p := ⟨gb, go5 + 4, none⟩) (fun x => x) H5.out.2.2.1) (And.intro (H5.out.2.2.2.1.kbF k6) (H5.out.2.2.2.2.2.2.kbF k6)))))))
      clear k6 b0
      go_wp2_with fail
      go_loopw [11] (fun kv wr => ∃ j : Nat, j ≤ k ∧ kv = .int .i64 j ∧ KB F0 W6 wr) (fun kv _ => k - (intOf kv).toNat)
      case atStart => exact ⟨0, by omega, rfl, KB.refl _ _⟩
      case round =>
        obtain ⟨j, hj, rfl, hkb⟩ := hrel
        by_cases hlt : j < k
        · have hlt' : j < r.l.length := by rw [← HK.out.1]; exact hlt
          have hltP : j < P.length := by rw [HK.out.2]; exact hlt
          obtain ⟨lb, lo, rfl, q1⟩ := H6.out.2.2.2.2.2.1 j hlt'
          obtain ⟨pb, po, rfl, ta, tc, pq, pn, pc1, pc2⟩ := H6.out.2.2.2.2.2.2.treesAt j hltP
          have cq := hkb.cell (p := ⟨lb, lo + j, none⟩) (fun x => x) q1
          have cp := hkb.cell (p := ⟨pb, po + j, none⟩) (fun x => x) pq
          have c4 := hkb.cell (p := ⟨gb, go5 + 4, none⟩) (fun x => x) H6.out.2.2.2.2.1
          have t9 : wr.cell? ⟨O9, 0, none⟩ = some (.slice (some ⟨gb, go5, none⟩) N oc2) := blk_cell (hkb.heap (fun x => x) H6.out.2.2.2.1) 0
          have hkb0 := H6.out.2.1.trans hkb
          obtain ⟨g1, g2, g3, g4, g5⟩ := PG.out j hlt
          have hcok : ∀ x ∈ P.getD j [], NdOk x := JP.out.2.2.1 _ (trees_mem hltP)
          generalize r.l.getD j 0 = q at cq q1 g1 g2 g3 g4
          generalize P.getD j [] = S at g3 g5 hcok pq pn pc1 cp
          have HS := Lib.hid (And.intro g5 (And.intro hcok (And.intro (pn.kbF hkb) (And.intro hkb hkb0))))
          have SQ := Lib.hid (fun (W : World) (hk : KB F0 wr W) => (show Calls Tryd.prog 15 #[.agg #[.slice (some ⟨gb, go5, none⟩) N oc2], .int .i64 q] W fun e w' => ∃ v ls, e = .returned (.tuple #[.agg #[v], .int .i64 0]) ∧ OwnTs w' W.heap.size v S ls ∧ KB F0 W w' by
            have h := SB.out (some ⟨gb, go5, none⟩) oc2 ho51 q (by omega) (by omega) W (HS.out.2.2.2.2.trans hk) (H6.out.2.2.1.kbF (HS.out.2.2.2.1.trans hk))
            rw [g3, g4] at h
            exact h))
          clear hkb hkb0 hcok g3 g4 g5 q1 pq pn
          go_wp2_with fail
          refine St.wp_region_rv 16 (St.GT S wr.heap.size) (St.kindX (St.gtKinds S wr.heap.size 9 13 14 0)) (by kernel_rfl) (by kernel_rfl) St.gt_trans St.gt_refl (St.gt_kbF (kb_start _ _)) (St.kindX_mono _ St.gtKinds_mono) ?_
          simp only [List.take_succ_cons, List.take_zero, List.drop_succ_cons, List.drop_zero]
          iterate 9 (refine St.rv_det (by kernel_rfl) rfl (by intro w hG hH; have hk := hG.kb (Nat.le_refl _); have hc0 := hk.cell (p := ⟨O9, 0, none⟩) (fun x => x) t9; have hc1 := hk.cell (p := ⟨gb, go5 + 4, none⟩) (fun x => x) c4; have hc2 := hk.cell (p := ⟨lb, lo + j, none⟩) (fun x => x) cq; go_simp; first | done | with_reducible rfl) ?_; simp only [Act.put, List.setIfInBounds_toArray, List.set_cons_zero, List.set_cons_succ])
          refine St.rv_rel (by kernel_rfl) rfl ⟨_, none, 0, rfl⟩ (by
            intro w hG hH
            have hk := hG.kb (Nat.le_refl _)
            refine St.opVal_call (by go_simp; first | done | exact ⟨⟨rfl, rfl⟩, rfl⟩) ?_
            refine (SQ.out w hk).mono ?_
            rintro e w' ⟨v, ls, rfl, ho, hq⟩
            obtain ⟨a2, c2, rfl, -⟩ := ho.nodes
            exact ⟨_, rfl, ⟨a2, c2, rfl⟩, St.gt_kbF hq, ⟨_, rfl, ⟨a2, c2, ls, rfl, ho.base hG.1.size⟩⟩⟩) ?_
          rintro v ⟨a2, c2, rfl⟩
          simp only [Act.put, List.setIfInBounds_toArray, List.set_cons_zero, List.set_cons_succ]
          iterate 3 (refine St.rv_det (by kernel_rfl) rfl (by intro w hG hH; go_simp; first | done | with_reducible rfl) ?_; simp only [Act.put, List.setIfInBounds_toArray, List.set_cons_zero, List.set_cons_succ])
          refine St.rv_rel (by kernel_rfl) rfl ⟨.pointer (some ⟨0, 0, none⟩), 0, rfl⟩ (fun w hG hH => St.opVal_value (v := .pointer (some ⟨w.heap.size, 0, none⟩)) (w' := w.alloc (.cells #[.slice none 0 0] 31)) (by go_simp; first | done | rfl)
            ⟨⟨_, rfl⟩, St.gt_kbF ((KB.refl _ w).alloc _), ⟨_, _, rfl, hG.1.size, alloc_new w _⟩⟩) ?_
          rintro v ⟨nb, rfl⟩
          simp only [Act.put, List.setIfInBounds_toArray, List.set_cons_zero, List.set_cons_succ]
          refine St.rv_rel (by kernel_rfl) rfl ⟨undef, trivial⟩ (by
            intro w hG hH
            obtain ⟨nb', u1, e1, htc⟩ := hH _ (List.Mem.head _) (by kernel_rfl)
            obtain ⟨u2, e2, hov⟩ := hH _ (List.Mem.tail _ (List.Mem.head _)) (by kernel_rfl)
            simp only [Value.pointer.injEq, Option.some.injEq, Addr.mk.injEq, and_true] at e1
            subst e1
            simp only [Value.tuple.injEq, Array.mk.injEq, List.cons.injEq, and_true, Value.agg.injEq] at e2
            subst e2
            have hs := St.gt_set htc hov
            have hc := blk_cell htc.2 0
            have hf := blk_frozen htc.2 0
            simp only [List.getElem?_toArray, List.getElem?_cons_zero] at hc
            exact St.opVal_skip (w' := w.setCell ⟨nb, 0, none⟩ (.slice a2 S.length c2)) (by go_simp; first | done | rfl) ⟨trivial, hs.1, ⟨nb, _, _, rfl, hs.2.1, hs.2.2⟩⟩) ?_
          rintro v -
          simp only [Act.put]
          iterate 1 (refine St.rv_det (by kernel_rfl) rfl (by intro w hG hH; go_simp; first | done | with_reducible rfl) ?_; simp only [Act.put, List.setIfInBounds_toArray, List.set_cons_zero, List.set_cons_succ])
          refine St.rv_nil (fun w hG hH => ?_)
          obtain ⟨nb', u0, u, e1, htc, hov⟩ := hH _ (List.Mem.head _)
          have e1' : Value.pointer (some ⟨nb, 0, none⟩) = .pointer (some ⟨nb', 0, none⟩) := (List.cons.inj e1).1
          simp only [Value.pointer.injEq, Option.some.injEq, Addr.mk.injEq, and_true] at e1'
          subst e1'
          obtain ⟨a5, c5, ls5, rfl, ho5⟩ := hov
          have hk5 := hG.kb (Nat.le_refl _)
          clear hG hH e1
          have K7 := Lib.hid (And.intro hk5 (And.intro (HS.out.2.2.2.1.trans hk5) (HS.out.2.2.2.2.trans hk5)))
          have hcp := hk5.cell (p := ⟨pb, po + j, none⟩) (fun x => x) cp
          have t12 : w.cell? ⟨nb, 0, none⟩ = some (.slice a5 S.length c5) := blk_cell htc.2 0
          obtain ⟨hn5', ho53, ho54⟩ := ho5.nodesAt'
          have hpn := HS.out.2.2.1.kbF hk5
          have SM7 := Lib.hid (fun (W : World) (hk : KB F0 w W) => SM.out S HS.out.1 HS.out.2.1 a5 ta c5 tc ho53 ho54 pc1 pc2 W (K7.out.2.2.trans hk) (hn5'.kbF hk) (hpn.kbF hk))
          have R0 : ∀ W, GK w W → W.cell? ⟨nb, 0, none⟩ = some (.slice a5 S.length c5) := fun W hG => KB.cell hG (p := ⟨nb, 0, none⟩) (fun x => x) t12
          have R1 : ∀ W, GK w W → W.cell? ⟨pb, po + j, none⟩ = some (.slice ta S.length tc) := fun W hG => KB.cell hG (p := ⟨pb, po + j, none⟩) (fun x => x) hcp
          clear hk5 htc t9 c4 cq cp ho5 hn5' hpn pc1 hcp t12
          go_wp2_with fail
          refine wp_region_rv 11 GK (kindW [(8, fun v => v = .bool true, fun _ _ => True)]) (by kernel_rfl) (by kernel_rfl) (kb_trans _) (kb_refl _) (kb_start _ _) (kindW_mono _ (by
            intro p hp; simp only [List.mem_cons, List.not_mem_nil, or_false] at hp; subst hp; exact lasts_true)) ?_
          simp only [List.take_succ_cons, List.take_zero, List.drop_succ_cons, List.drop_zero]
          iterate 8 (refine rv_det (by kernel_rfl) rfl (by intro w hG hH; have hc0 := R0 w hG; have hc1 := R1 w hG; go_simp; first | done | with_reducible rfl) ?_; simp only [Act.put, List.setIfInBounds_toArray, List.set_cons_zero, List.set_cons_succ])
          refine rv_rel (by kernel_rfl) rfl ⟨_, rfl⟩ (by
            intro w hG hH
            refine opVal_call (by go_simp; first | done | exact ⟨⟨rfl, rfl⟩, rfl⟩) ?_
            refine (SM7.out w hG).mono ?_
            rintro e w' ⟨rfl, hq⟩
            exact ⟨_, rfl, rfl, hq, trivial⟩) ?_
          rintro v rfl
          simp only [Act.put, List.setIfInBounds_toArray, List.set_cons_zero, List.set_cons_succ]
          iterate 2 (refine rv_det (by kernel_rfl) rfl (by intro w hG hH; go_simp; first | done | with_reducible rfl) ?_; simp only [Act.put, List.setIfInBounds_toArray, List.set_cons_zero, List.set_cons_succ])
          refine rv_nil (fun w8 hG hH => ?_)
          have K8 := Lib.hid (K7.out.2.1.trans hG)
          clear hG hH R0 R1
          go_wp2
          go_roundw
          case rel => exact ⟨j + 1, by omega, by go_num, K8.out⟩
          case measure => simp [intOf]; omega
        · obtain rfl : j = k := by omega
          obtain ⟨Wm, rfl⟩ : ∃ Wm, Wm = wr := ⟨_, rfl⟩
          have hbx := (H6.out.1.trans hkb).heap (fun x => x) H1.out.2
          have b0 : Wm.cell? ⟨w0.heap.size, 0, none⟩ = some (.slice (some ⟨rb, ro, none⟩) N ca) := blk_cell hbx 0
          have KM := Lib.hid (And.intro (H6.out.2.1.trans hkb) hbx)
          have SN := Lib.hid (SB.out (some ⟨rb, ro, none⟩) ca hca n hn1 hn2 Wm KM.out.1 (HTS.out.1.kbF KM.out.1))
          clear hkb hbx
          go_wp2_with fail
          refine SN.out.mono ?_
          rintro e W8 ⟨v, ls, rfl, ho, k8⟩
          obtain ⟨a8, c8, rfl, -⟩ := ho.nodes
          obtain ⟨R, hR⟩ : ∃ R, R = subT ts n := ⟨_, rfl⟩
          rw [← hR] at ho ⊢
          obtain ⟨W9, hW9⟩ : ∃ W9, W9 = W8.alloc (.cells #[.slice a8 R.length c8] 31) := ⟨_, rfl⟩
          have kV : KB F0 W8 W9 := by rw [hW9]; exact (KB.refl _ _).alloc _
          have hsv : W9.heap[W8.heap.size]? = some (.cells #[.slice a8 R.length c8] 31 (0, 0)) := by rw [hW9]; exact alloc_new _ _
          have k9 := KM.out.1.trans (k8.trans kV)
          have hbx := (k8.trans kV).heap (fun x => x) KM.out.2
          have t14 : W9.cell? ⟨W8.heap.size, 0, none⟩ = some (.slice a8 R.length c8) := blk_cell hsv 0
          have b0 : W9.cell? ⟨w0.heap.size, 0, none⟩ = some (.slice (some ⟨rb, ro, none⟩) N ca) := blk_cell hbx 0
          have ho9 := ho.kbF kV
          have H9 := Lib.hid (And.intro ho9 (And.intro hsv (And.intro k9 hbx)))
          have HW9 := Lib.hid hW9
          rw [hW9] at t14 b0
          clear ho k8 kV hsv k9 hbx ho9
          by_cases hin : 0 ≤ n ∧ n < (N : Int)
          · obtain ⟨e1, e2⟩ := subT_of hmay.out hin.1 (by rw [← HN.out]; exact hin.2)
            rw [e2]
            have hnt : n.toNat < ts.length := by have := HN.out; omega
            have hRm : mayN R = true := by rw [hR, e1]; exact may_sub hmay.out hnt
            have hRok : ∀ x ∈ R, NdOk x := by rw [hR]; exact subT_ok' HTS.out.2.2
            have hdl : deepR R ≤ deepR ts := by
              unfold deepR
              rw [if_pos hRm, if_pos hmay.out, hR, e1]
              exact deep_sub hg.out hnt
            have d1 : decide (n < 0) = false := decide_eq_false (by omega)
            have d2 : decide ((N : Int) ≤ n) = false := decide_eq_false (by omega)
            have SZ := Lib.hid (show Calls Tryd.prog 15 #[.agg #[.slice (some ⟨rb, ro, none⟩) N ca], .int .i64 0] W9 fun e w' => ∃ v ls, e = .returned (.tuple #[.agg #[v], .int .i64 0]) ∧ OwnTs w' W9.heap.size v ts ls ∧ KB F0 W9 w' by
              have h := SB.out (some ⟨rb, ro, none⟩) ca hca 0 (by omega) (by omega) W9 H9.out.2.2.1 (HTS.out.1.kbF H9.out.2.2.1)
              obtain ⟨z1, z2⟩ := subT_of hmay.out (n := 0) (by omega) (by have := HN.out; omega)
              rw [z1, z2, show (0 : Int).toNat = 0 from rfl, sub_zero hg.out] at h
              exact h)
            have HQ := Lib.hid (And.intro hRm (And.intro hRok hdl))
            clear hW9 e1 e2 hR hRm hRok hdl
            go_wp2_with fail
            rw [← HW9.out]
            clear t14 b0
            refine SZ.out.mono ?_
            rintro e W10 ⟨v, ls, rfl, ho, k10⟩
            obtain ⟨a10, c10, rfl, -⟩ := ho.nodes
            have e1 : Value.slice a10 ts.length c10 = .slice a10 N c10 := by rw [HN.out]
            rw [e1] at ho ⊢
            obtain ⟨W11, hW11⟩ : ∃ W11, W11 = W10.alloc (.cells #[.slice a10 N c10] 31) := ⟨_, rfl⟩
            have kV : KB F0 W10 W11 := by rw [hW11]; exact (KB.refl _ _).alloc _
            have hwv : W11.heap[W10.heap.size]? = some (.cells #[.slice a10 N c10] 31 (0, 0)) := by rw [hW11]; exact alloc_new _ _
            have k911 := k10.trans kV
            have K11 := Lib.hid (H9.out.2.2.1.trans k911)
            obtain ⟨hn11, hc111, hc112⟩ := (ho.kbF kV).nodesAt'
            have hnR := (H9.out.1.kbF k911).nodesAt'
            have HW11 := Lib.hid hW11
            have q1 : W11.cell? ⟨w0.heap.size, 0, none⟩ = some (.slice (some ⟨rb, ro, none⟩) N ca) := blk_cell (k911.heap (fun x => x) H9.out.2.2.2) 0
            have q2 : W11.cell? ⟨W8.heap.size, 0, none⟩ = some (.slice a8 R.length c8) := blk_cell (k911.heap (fun x => x) H9.out.2.1) 0
            have q3 : W11.cell? ⟨W10.heap.size, 0, none⟩ = some (.slice a10 N c10) := blk_cell hwv 0
            have R0 : ∀ W, GK W11 W → W.cell? ⟨w0.heap.size, 0, none⟩ = some (.slice (some ⟨rb, ro, none⟩) N ca) := fun W hG => KB.cell hG (p := ⟨w0.heap.size, 0, none⟩) (fun x => x) q1
            have R1 : ∀ W, GK W11 W → W.cell? ⟨W8.heap.size, 0, none⟩ = some (.slice a8 R.length c8) := fun W hG => KB.cell hG (p := ⟨W8.heap.size, 0, none⟩) (fun x => x) q2
            have R2 : ∀ W, GK W11 W → W.cell? ⟨W10.heap.size, 0, none⟩ = some (.slice a10 N c10) := fun W hG => KB.cell hG (p := ⟨W10.heap.size, 0, none⟩) (fun x => x) q3
            have SM1 := Lib.hid (fun (W : World) (hk : KB F0 W11 W) => SM.out ts hmay.out HTS.out.2.2 a10 (some ⟨rb, ro, none⟩) c10 ca hc111 hc112 (by have := HN.out; omega) hcam W (K11.out.trans hk) (hn11.kbF hk) (HTS.out.1.kbF (K11.out.trans hk)))
            have DR := Lib.hid (fun (W : World) (hk : KB F0 W11 W) => tdeepR_any R (by have := (may_pos HQ.out.1).2; omega) HQ.out.2.1 a8 c8 W (hnR.1.kbF hk) (HTS.out.2.1.kb (K11.out.trans hk)))
            have DT := Lib.hid (fun (W : World) (hk : KB F0 W11 W) => tdeepR_any ts (by have := HN.out; omega) HTS.out.2.2 (some ⟨rb, ro, none⟩) ca W (HTS.out.1.kbF (K11.out.trans hk)) (HTS.out.2.1.kb (K11.out.trans hk)))
            have A2 := Lib.hid (fun (W : World) (hk : KB F0 W11 W) => AW.out W (K11.out.trans hk))
            have hle := HQ.out.2.2
            rw [← HN.out] at SM1 DT
            generalize deepR R = dr at DR hle
            generalize deepR ts = dt at DT hle
            have d3 : decide ((dr : Int) ≤ (dt : Int)) = true := decide_eq_true (by omega)
            clear hW11 ho kV hwv k911 hn11 hc111 hc112 hnR q1 q2 q3 e1 k10
            go_wp2_with fail
            rw [← HW11.out]
            refine wp_region_rv 22 GK (kindW [(9, fun v => v = .bool true, fun _ _ => True), (13, fun v => v = .int .i64 dr, fun _ _ => True), (15, fun v => v = .int .i64 dt, fun _ _ => True), (19, fun v => v = .bool true, fun _ _ => True)]) (by kernel_rfl) (by kernel_rfl) (kb_trans _) (kb_refl _) (kb_start _ _) (kindW_mono _ (by
              intro p hp; simp only [List.mem_cons, List.not_mem_nil, or_false] at hp
              rcases hp with rfl | rfl | rfl | rfl <;> exact lasts_true)) ?_
            simp only [List.take_succ_cons, List.take_zero, List.drop_succ_cons, List.drop_zero]
            iterate 9 (refine rv_det (by kernel_rfl) rfl (by intro w hG hH; have hc0 := R0 w hG; have hc1 := R1 w hG; have hc2 := R2 w hG; go_simp; first | done | with_reducible rfl) ?_; simp only [Act.put, List.setIfInBounds_toArray, List.set_cons_zero, List.set_cons_succ])
            refine rv_rel (by kernel_rfl) rfl ⟨_, rfl⟩ (by
              intro w hG hH
              refine opVal_call (by go_simp; first | done | exact ⟨⟨rfl, rfl⟩, rfl⟩) ?_
              refine (SM1.out w hG).mono ?_
              rintro e w' ⟨rfl, hq⟩
              exact ⟨_, rfl, rfl, hq, trivial⟩) ?_
            rintro v rfl
            simp only [Act.put, List.setIfInBounds_toArray, List.set_cons_zero, List.set_cons_succ]
            iterate 3 (refine rv_det (by kernel_rfl) rfl (by intro w hG hH; have hc0 := R0 w hG; have hc1 := R1 w hG; have hc2 := R2 w hG; go_simp; first | done | with_reducible rfl) ?_; simp only [Act.put, List.setIfInBounds_toArray, List.set_cons_zero, List.set_cons_succ])
            refine rv_rel (by kernel_rfl) rfl ⟨_, rfl⟩ (by
              intro w hG hH
              refine opVal_call (by go_simp; first | done | exact ⟨⟨rfl, rfl⟩, rfl⟩) ?_
              refine (DR.out w hG).mono ?_
              rintro e w' ⟨rfl, hq⟩
              exact ⟨_, rfl, rfl, hq, trivial⟩) ?_
            rintro v rfl
            simp only [Act.put, List.setIfInBounds_toArray, List.set_cons_zero, List.set_cons_succ]
            iterate 1 (refine rv_det (by kernel_rfl) rfl (by intro w hG hH; have hc0 := R0 w hG; have hc1 := R1 w hG; have hc2 := R2 w hG; go_simp; first | done | with_reducible rfl) ?_; simp only [Act.put, List.setIfInBounds_toArray, List.set_cons_zero, List.set_cons_succ])
            refine rv_rel (by kernel_rfl) rfl ⟨_, rfl⟩ (by
              intro w hG hH
              refine opVal_call (by go_simp; first | done | exact ⟨⟨rfl, rfl⟩, rfl⟩) ?_
              refine (DT.out w hG).mono ?_
              rintro e w' ⟨rfl, hq⟩
              exact ⟨_, rfl, rfl, hq, trivial⟩) ?_
            rintro v rfl
            simp only [Act.put, List.setIfInBounds_toArray, List.set_cons_zero, List.set_cons_succ]
            iterate 3 (refine rv_det (by kernel_rfl) rfl (by intro w hG hH; have hc0 := R0 w hG; have hc1 := R1 w hG; have hc2 := R2 w hG; go_simp; first | done | with_reducible rfl) ?_; simp only [Act.put, List.setIfInBounds_toArray, List.set_cons_zero, List.set_cons_succ])
            refine rv_rel (by kernel_rfl) rfl ⟨_, rfl⟩ (by
              intro w hG hH
              refine opVal_call (by go_simp; first | done | exact ⟨⟨rfl, rfl⟩, rfl⟩) ?_
              refine (A2.out w hG).mono ?_
              rintro e w' ⟨rfl, hq⟩
              exact ⟨_, rfl, rfl, hq, trivial⟩) ?_
            rintro v rfl
            simp only [Act.put, List.setIfInBounds_toArray, List.set_cons_zero, List.set_cons_succ]
            iterate 2 (refine rv_det (by kernel_rfl) rfl (by intro w hG hH; have hc0 := R0 w hG; have hc1 := R1 w hG; have hc2 := R2 w hG; go_simp; first | done | with_reducible rfl) ?_; simp only [Act.put, List.setIfInBounds_toArray, List.set_cons_zero, List.set_cons_succ])
            refine rv_nil (fun w12 hG hH => ?_)
            have K12 := Lib.hid (K11.out.trans hG)
            clear hG hH R0 R1 R2
            go_wp2
            go_ret
            exact ⟨rfl, K12.out⟩
          · obtain ⟨e1, e2⟩ := subT_not (ts := ts) (n := n) (by rw [← HN.out]; omega)
            rw [e2]
            have d3 : ((R.length : Int) == 0) = true := by rw [hR, e1]; rfl
            clear hW9 e1 e2 hR
            by_cases hneg : n < 0
            · have d1 : decide (n < 0) = true := decide_eq_true hneg
              go_wp2_with fail
              rw [← HW9.out]
              refine (AW.out W9 H9.out.2.2.1).mono ?_
              rintro e W10 ⟨rfl, k10⟩
              have K10 := Lib.hid (H9.out.2.2.1.trans k10)
              clear k10
              go_wp2
              go_ret
              exact ⟨rfl, K10.out⟩
            · have d1 : decide (n < 0) = false := decide_eq_false hneg
              have d2 : decide ((N : Int) ≤ n) = true := decide_eq_true (by omega)
              go_wp2_with fail
              rw [← HW9.out]
              refine (AW.out W9 H9.out.2.2.1).mono ?_
              rintro e W10 ⟨rfl, k10⟩
              have K10 := Lib.hid (H9.out.2.2.1.trans k10)
              clear k10
              go_wp2
              go_ret
              exact ⟨rfl, K10.out⟩
end Go.Proofs.YtjefoojkgocinaaDoor

/- loanwordref03.End, Sub. -/
import Derived.Test.YtjefoojkgocinaaDoorTrSame
namespace Go.Proofs.YtjefoojkgocinaaDoor
open Go.RowKit

theorem chain_last {rec : Nat → Option Nat} {N : Nat} (l : List Int) : ∀ m k (c : Int), walkC rec N (l ++ [c]) m = some k → rec c.toNat = some k := by
  induction l with
  | nil =>
    intro m k c h
    rw [List.nil_append] at h
    unfold walkC at h
    split at h
    · rename_i hc
      obtain ⟨m', h1, h2⟩ := Option.bind_eq_some_iff.1 h
      simp only [walkC, Option.some.injEq] at h2
      rw [hc.1, Int.toNat_natCast, h1, h2]
    · cases h
  | cons a cs ih =>
    intro m k c h
    rw [List.cons_append] at h
    unfold walkC at h
    split at h
    · obtain ⟨m', h1, h2⟩ := Option.bind_eq_some_iff.1 h
      exact ih m' k c h2
    · cases h
theorem last_getD {l : List Int} (h : 0 < l.length) : l = l.take (l.length - 1) ++ [l.getD (l.length - 1) 0] := by
  have := take_getD (l := l) (k := l.length - 1) (d := (0 : Int)) (by omega)
  rw [show l.length - 1 + 1 = l.length by omega, List.take_of_length_le (Nat.le_refl _)] at this
  exact this
theorem En_leaf {ts : List Nd} (hg : Good ts) {n : Nat} (hn : n < ts.length) (h0 : (kids ts n).length = 0) : En ts n = n + 1 := by
  obtain ⟨h, -, -⟩ := En_spec hg hn
  have hk := wt_kids hn h
  rw [List.eq_nil_of_length_eq_zero h0] at hk
  simp only [walkC, Option.some.injEq] at hk
  omega
theorem En_last {ts : List Nd} (hg : Good ts) {n : Nat} (hn : n < ts.length) (h0 : 0 < (kids ts n).length) : En ts ((kids ts n).getD ((kids ts n).length - 1) 0).toNat = En ts n := by
  obtain ⟨h, -, -⟩ := En_spec hg hn
  have hk := wt_kids hn h
  rw [last_getD h0] at hk
  have := chain_last _ _ _ _ hk
  unfold En at this ⊢
  rw [this]; rfl

set_option maxRecDepth 100000 in
set_option maxHeartbeats 8000000 in
theorem cend_any (ts : List Nd) (hlen : ts.length ≤ 20000) (hg : Good ts) (a : Option Addr) (cap : Nat) (f : Nat) : ∀ (n : Nat) (w : World), n < ts.length → ts.length ≤ n + f → NodesAt w a ts →
    Calls Tryd.prog 34 #[.agg #[.slice a ts.length cap], .int .i64 n] w fun e w' => e = .returned (.int .i64 (En ts n : Nat)) ∧ KB F0 w w' := by
  induction f with
  | zero => intro n w h1 h2; omega
  | succ f ih =>
    intro n w hi hf hts
    obtain ⟨w0, rfl⟩ : ∃ w0, w0 = w := ⟨_, rfl⟩
    obtain ⟨r, hr⟩ : ∃ r, r = En ts n := ⟨_, rfl⟩
    rw [← hr]
    obtain ⟨b, off, rfl, hx⟩ := hts n hi
    have hleaf := En_leaf hg hi
    have hlast := En_last hg hi
    have hdn := good_down hg n hi
    unfold kids at hleaf hlast
    rw [← hr] at hleaf hlast
    generalize ts.getD n nd0 = x at hx hleaf hlast hdn
    obtain ⟨la, lc, hl4, hints, hlc, hlm⟩ := hx.l
    obtain ⟨M, hM⟩ : ∃ M, M = x.l.length := ⟨_, rfl⟩
    rw [← hM] at hl4 hlc hleaf hlast
    have Ih := Lib.hid (fun q w (h : n < q ∧ q < ts.length) => ih q w h.2 (by omega))
    obtain ⟨N, hN⟩ : ∃ N, N = ts.length := ⟨_, rfl⟩
    rw [← hN] at hlen hi hf Ih hdn ⊢
    have hiN : (n : Int) < (N : Int) := by omega
    unfold maxLen at hlm
    have kA := (KB.refl F0 w0).alloc (.cells #[.slice (some ⟨b, off, none⟩) N cap] 31)
    have hl4a := kA.cell (p := ⟨b, off + n * 5 + 4, none⟩) (fun x => x) hl4
    have HTS := Lib.hid (And.intro hts (And.intro kA hints))
    have HM := Lib.hid hM
    by_cases h0 : M = 0
    · have hr2 := hleaf h0
      subst h0
      have Hr2 := Lib.hid hr2
      clear hr hx hts hg hleaf hlast hdn hints hN hM kA ih hr2
      go_enter Tryd.func34, Tryd.ntmps34
      go_wp2
      go_ret
      exact ⟨by rw [Hr2.out]; exact ret_int (by omega), HTS.out.2.1⟩
    · have hM0 : M - 1 < x.l.length := by omega
      obtain ⟨lb, lo, rfl, hcl⟩ := hints (M - 1) hM0
      have hl := hlast (by omega)
      have hrg := hdn _ (getD_memI hM0)
      generalize x.l.getD (M - 1) 0 = c at hcl hl hrg
      obtain ⟨q, rfl⟩ := Int.eq_ofNat_of_zero_le (show 0 ≤ c by omega)
      rw [Int.toNat_natCast] at hl
      have hcla := kA.cell (p := ⟨lb, lo + (M - 1), none⟩) (fun x => x) hcl
      have HC := Lib.hid (fun w => Ih.out q w (by omega))
      have Hl := Lib.hid hl
      have hbt : (w0.alloc (.cells #[.slice (some ⟨b, off, none⟩) N cap] 31)).cell? ⟨w0.heap.size, 0, none⟩ = some (.slice (some ⟨b, off, none⟩) N cap) := new_cell _ _ _ 0
      have hz : ((M : Int) == 0) = false := by simp; omega
      obtain ⟨M1, rfl⟩ : ∃ M1, M = M1 + 1 := ⟨M - 1, by omega⟩
      rw [Nat.add_sub_cancel] at hcla
      have hwr : IntKind.i64.wrap (M1 : Int) = (M1 : Int) := w64 (by omega) (by omega)
      have hlt1 : (M1 : Int) < (M1 : Int) + 1 := by omega
      obtain ⟨W1, hW1⟩ : ∃ W1, W1 = (w0.alloc (.cells #[.slice (some ⟨b, off, none⟩) N cap] 31)) := ⟨_, rfl⟩
      rw [← hW1] at hl4a hcla hbt HTS
      have HW1 := Lib.hid hW1
      clear hr hx hts hg hleaf hlast hdn hints hN hM kA ih hl hcl hl4 hM0 hrg hW1
      go_enter Tryd.func34, Tryd.ntmps34
      rw [HW1.out] at hl4a hcla hbt
      go_wp2_with fail
      refine wp_region_rv 7 GQ (kindV []) (by kernel_rfl) (by kernel_rfl) GQ.trans GQ.refl (GQ.start _) (kindV_mono _) ?_
      simp only [List.take_succ_cons, List.take_zero, List.drop_succ_cons, List.drop_zero]
      iterate 7 (refine rv_det (by kernel_rfl) rfl (by intro w hG hH; obtain ⟨n, rfl⟩ := hG; go_simp; first | done | with_reducible rfl) ?_; simp only [Act.put, List.setIfInBounds_toArray, List.set_cons_zero, List.set_cons_succ])
      refine rv_nil (fun w hG hH => ?_)
      obtain ⟨n, rfl⟩ := hG
      clear hH
      go_wp2_with fail
      rw [← HW1.out]
      refine (HC.out (W1.drewN n) ((HTS.out.1.kbF HTS.out.2.1).kbF ((KB.refl _ _).drewN n))).mono ?_
      rintro e w2 ⟨rfl, k2⟩
      have K2 := Lib.hid ((HTS.out.2.1.drewN n).trans k2)
      clear k2 hl4a hcla hbt
      go_wp2
      go_ret
      exact ⟨by rw [← Hl.out]; rfl, K2.out⟩

/-- A node whose list is so far made. -/
def ndObj (x : Nd) (lv : Value) : Obj := .cells #[.int .u8 (x.k : Nat), .int .i64 x.at_, .int .i64 x.n, .string x.s, lv] 25
theorem OwnTs.keep {w w' : World} {B X : Nat} {v : Value} {ts : List Nd} {ls : List Value} (h : OwnTs w B v ts ls) (hk : KB (fun k => X ≤ k) w w') (hX : w.heap.size ≤ X) : OwnTs w' B v ts ls :=
  h.kb hk (fun g _ h2 e => by omega)
theorem KB.up {X : Nat} {a b c : World} (h : KB F0 a b) (k : KB (fun i => X ≤ i) b c) (hX : a.heap.size ≤ X) : KB F0 a c := h.above k (fun _i hi => Nat.le_trans hX hi)

set_option maxRecDepth 100000 in
set_option maxHeartbeats 8000000 in
theorem csub_any (ts : List Nd) (hlen : ts.length < 100000000) (hok : ∀ x ∈ ts, NdOk x) (a : Option Addr) (cap : Nat) (n : Int) (hn1 : -9223372036854775808 ≤ n) (hn2 : n ≤ 9223372036854775807) (w : World) (hts : NodesAt w a ts) (hT : Tab w) :
    Calls Tryd.prog 16 #[.agg #[.slice a ts.length cap], .int .i64 n] w fun e w' => ∃ v ls, e = .returned (.tuple #[.agg #[v], .int .i64 (subE ts n : Nat)]) ∧ OwnTs w' w.heap.size v (subT ts n) ls ∧ KB F0 w w' := by
  obtain ⟨w0, rfl⟩ : ∃ w0, w0 = w := ⟨_, rfl⟩
  obtain ⟨N, hN⟩ : ∃ N, N = ts.length := ⟨_, rfl⟩
  have Hmay := Lib.hid (fun (W : World) (h : KB F0 w0 W) => cmay_any ts hlen hok a cap W (hts.kbF h) (hT.kb h))
  have HTS := Lib.hid (And.intro hts (And.intro hT hok))
  rw [← hN] at Hmay hlen ⊢
  have HN := Lib.hid hN
  obtain ⟨W1, hW1⟩ : ∃ W1, W1 = ((w0.alloc (.cells #[.slice a N cap] 31)).alloc (.cells #[.slice none 0 0] 31)) := ⟨_, rfl⟩
  have k1 : KB F0 w0 W1 := by rw [hW1]; exact ((KB.refl _ _).alloc _).alloc _
  have hs0 : (w0.alloc (.cells #[.slice a N cap] 31)).heap.size = w0.heap.size + 1 := by simp
  have h0h : W1.heap[w0.heap.size]? = some (.cells #[.slice a N cap] 31 (0, 0)) := by
    rw [hW1]; exact ((KB.refl F0 _).alloc _).heap (fun x => x) (alloc_new _ _)
  have h1h : W1.heap[w0.heap.size + 1]? = some (.cells #[.slice none 0 0] 31 (0, 0)) := by
    rw [hW1, ← hs0]; exact alloc_new _ _
  have hs1 : W1.heap.size = w0.heap.size + 2 := by rw [hW1]; simp
  obtain ⟨R, hR⟩ : ∃ R, R = subT ts n := ⟨_, rfl⟩
  obtain ⟨E, hE⟩ : ∃ E, E = subE ts n := ⟨_, rfl⟩
  rw [← hR, ← hE]
  have HR := Lib.hid (And.intro hR hE)
  have H1 := Lib.hid (And.intro k1 (And.intro h0h (And.intro h1h hs1)))
  have HW1 := Lib.hid hW1
  clear hts hT hok hN hR hE k1 h0h h1h hs1 hs0 hW1
  go_enter Tryd.func16, Tryd.ntmps16
  go_wp2_with fail
  rw [← HW1.out]
  refine (Hmay.out W1 H1.out.1).mono ?_
  rintro e W2 ⟨rfl, hk2⟩
  have h0h := hk2.heap (fun x => x) H1.out.2.1
  have h1h := hk2.heap (fun x => x) H1.out.2.2.1
  have b0 : W2.cell? ⟨w0.heap.size, 0, none⟩ = some (.slice a N cap) := blk_cell h0h 0
  have b1 : W2.cell? ⟨w0.heap.size + 1, 0, none⟩ = some (.slice none 0 0) := blk_cell h1h 0
  have hfz := blk_frozen h1h 0
  have HK2 := Lib.hid (H1.out.1.trans hk2)
  have Hfail : Hid (subOk ts n = false → (∃ ls, OwnTs ((W2.setCell ⟨w0.heap.size + 1, 0, none⟩ (.slice none 0 0))) w0.heap.size (.slice none 0 0) R ls) ∧ E = 2) := Lib.hid (fun h => by
    rw [HR.out.1, HR.out.2, subT, subE, h, if_neg (by decide), if_neg (by decide)]
    exact ⟨⟨[], ownTs_nil _ _⟩, rfl⟩)
  have Hkf : Hid (∀ v, KB F0 w0 (W2.setCell ⟨w0.heap.size + 1, 0, none⟩ v)) := Lib.hid (fun v => HK2.out.setCell (p := ⟨w0.heap.size + 1, 0, none⟩) (fun h => by
    have h1 : w0.heap.size + 1 < w0.heap.size := h; omega) v)
  have Hc1 := Lib.hid (World.cell?_setCell_same W2 ⟨w0.heap.size + 1, 0, none⟩ (.slice none 0 0) b1)
  have H2h := Lib.hid (And.intro h0h h1h)
  clear hk2 h0h h1h
  obtain ⟨m, hm⟩ : ∃ m, m = mayN ts := ⟨_, rfl⟩
  rw [← hm]
  have Hm := Lib.hid hm
  clear hm
  cases m
  · obtain ⟨⟨ls, hls⟩, hE⟩ := Hfail.out (by rw [subOk, ← Hm.out]; rfl)
    have HL := Lib.hid (And.intro hls hE)
    clear hls hE
    go_wp2
    (try simp only [Exit.inBlock, Exit.then])
    refine ret_cell_tmp rfl rfl Hc1.out rfl ?_
    exact ⟨_, ls, by rw [HL.out.2]; rfl, HL.out.1, Hkf.out _⟩
  · by_cases hneg : n < 0
    · obtain ⟨⟨ls, hls⟩, hE⟩ := Hfail.out (by rw [subOk, ← Hm.out]; simp [show ¬ 0 ≤ n by omega])
      have HL := Lib.hid (And.intro hls hE)
      have d1 : decide (n < 0) = true := by simpa using hneg
      clear hls hE hneg
      go_wp2
      (try simp only [Exit.inBlock, Exit.then])
      refine ret_cell_tmp rfl rfl Hc1.out rfl ?_
      exact ⟨_, ls, by rw [HL.out.2]; rfl, HL.out.1, Hkf.out _⟩
    · have d1 : decide (n < 0) = false := by simpa using hneg
      obtain ⟨q, rfl⟩ := Int.eq_ofNat_of_zero_le (show 0 ≤ n by omega)
      by_cases hbig : N ≤ q
      · obtain ⟨⟨ls, hls⟩, hE⟩ := Hfail.out (by rw [subOk, ← Hm.out, ← HN.out]; simp [show ¬ q < N by omega])
        have HL := Lib.hid (And.intro hls hE)
        clear hls hE hneg
        go_wp2
        (try simp only [Exit.inBlock, Exit.then])
        refine ret_cell_tmp rfl rfl Hc1.out rfl ?_
        exact ⟨_, ls, by rw [HL.out.2]; rfl, HL.out.1, Hkf.out _⟩
      · have hqN : q < N := by omega
        have hqN' : q < ts.length := by rw [← HN.out]; exact hqN
        have dNq : decide (N ≤ q) = false := decide_eq_false hbig
        obtain ⟨hg, hl16, hall, hdp⟩ := may_parts Hm.out.symm
        obtain ⟨he1, he2, he3⟩ := En_spec hg hqN'
        have hRE : R = subN ts q ∧ E = 0 := by
          rw [HR.out.1, HR.out.2, subT, subE, show subOk ts (q : Nat) = true by rw [subOk, ← Hm.out, ← HN.out]; simp [hqN], if_pos rfl, if_pos rfl]
          exact ⟨rfl, rfl⟩
        have hend : Hid (∀ W, KB F0 w0 W → Calls Tryd.prog 34 #[.agg #[.slice a ts.length cap], .int .i64 q] W fun e w' => e = .returned (.int .i64 (En ts q : Nat)) ∧ KB F0 W w') := Lib.hid (fun W hW => cend_any ts (by omega) hg a cap ts.length q W hqN' (by omega) (HTS.out.1.kbF hW))
        obtain ⟨F, hF⟩ : ∃ F, F = En ts q := ⟨_, rfl⟩
        rw [← hF] at he2 he3 hend
        rw [← HN.out] at he3 hl16 hend
        have HG := Lib.hid (And.intro hg (And.intro hF hRE))
        obtain ⟨b, off, rfl, -⟩ := HTS.out.1 q hqN'
        clear hg hF hRE hall hdp he1 hneg hbig hqN' Hfail Hkf Hc1 b1 hfz
        go_wp2_with fail
        obtain ⟨W3, hW3⟩ : ∃ W3, W3 = W2.alloc (.cells #[.slice none 0 0] 31) := ⟨_, rfl⟩
        rw [← hW3]
        have k3 : KB F0 W2 W3 := by rw [hW3]; exact (KB.refl _ _).alloc _
        have hO : W3.heap[W2.heap.size]? = some (.cells #[.slice none 0 0] 31 (0, 0)) := by rw [hW3]; exact alloc_new _ _
        obtain ⟨O, hOe⟩ : ∃ O, O = W2.heap.size := ⟨_, rfl⟩
        rw [← hOe] at hO ⊢
        have hOs : w0.heap.size + 1 < O := by rw [hOe]; exact heap_lt H2h.out.2
        have H3 := Lib.hid (And.intro (HK2.out.trans k3) (And.intro (k3.heap (fun x => x) H2h.out.1) (And.intro (k3.heap (fun x => x) H2h.out.2) hO)))
        clear hW3 k3 hO hOe b0
        go_loopw [7] (fun iv wr => ∃ (i : Nat) (v : Value) (ls : List Value), q ≤ i ∧ i ≤ F ∧ iv = .int .i64 i ∧ OwnTs wr w0.heap.size v (((ts.drop q).take (i - q)).map (shN (-(q : Int)))) ls ∧ wr.heap[O]? = some (.cells #[v] 31 (0, 0)) ∧
          wr.heap[w0.heap.size]? = some (.cells #[.slice (some ⟨b, off, none⟩) N cap] 31 (0, 0)) ∧ wr.heap[w0.heap.size + 1]? = some (.cells #[.slice none 0 0] 31 (0, 0)) ∧ KB F0 w0 wr) (fun iv _ => N - (intOf iv).toNat)
        case atStart => exact ⟨q, _, [], by omega, by omega, rfl, by rw [Nat.sub_self]; exact ownTs_nil _ _, H3.out.2.2.2, H3.out.2.1, H3.out.2.2.1, H3.out.1⟩
        case round =>
          obtain ⟨i, v, ls, hi1, hi2, rfl, hown, hO, hA, hB, hkb⟩ := hrel
          have b0 : wr.cell? ⟨w0.heap.size, 0, none⟩ = some (.slice (some ⟨b, off, none⟩) N cap) := blk_cell hA 0
          have HK := Lib.hid (And.intro hown (And.intro hO (And.intro hA (And.intro hB hkb))))
          clear hown hO hA hB hkb
          go_wp2_with fail
          refine (hend.out wr HK.out.2.2.2.2).mono ?_
          rintro e W4 ⟨rfl, k4⟩
          have K4 := Lib.hid k4
          have hA4 := k4.heap (fun x => x) HK.out.2.2.1
          have b0 : W4.cell? ⟨w0.heap.size, 0, none⟩ = some (.slice (some ⟨b, off, none⟩) N cap) := blk_cell hA4 0
          have kw4 := Lib.hid (HK.out.2.2.2.2.trans k4)
          clear k4 hA4
          by_cases hlt : i < F
          · have hiN : i < N := by omega
            obtain ⟨b', off', e, hnd0⟩ := HTS.out.1 i (by rw [← HN.out]; exact hiN)
            simp only [Option.some.injEq, Addr.mk.injEq, and_true] at e
            obtain ⟨rfl, rfl⟩ := e
            have hxo := HTS.out.2.2 _ (getD_memN (ts := ts) (k := i) (by rw [← HN.out]; exact hiN))
            have hxl := good_len HG.out.1 (n := i) (by rw [← HN.out]; exact hiN)
            have hdn := good_down HG.out.1 i (by rw [← HN.out]; exact hiN)
            have htk : Hid (((ts.drop q).take (i + 1 - q)).map (shN (-(q : Int))) = ((ts.drop q).take (i - q)).map (shN (-(q : Int))) ++ [shN (-(q : Int)) (ts.getD i nd0)]) := Lib.hid (by
              have := take_getD (l := ts.drop q) (k := i - q) (d := nd0) (by rw [List.length_drop, ← HN.out]; omega)
              rw [show i + 1 - q = i - q + 1 by omega, this, List.map_append]
              congr 1
              simp [List.getD_eq_getElem?_getD, show q + (i - q) = i by omega])
            have hdl : (((ts.drop q).take (i - q)).map (shN (-(q : Int)))).length = i - q := by
              have := HN.out; simp; omega
            unfold kids at hxl
            generalize ts.getD i nd0 = x at hnd0 hxo hxl hdn htk
            obtain ⟨done, hdone⟩ : ∃ done, done = ((ts.drop q).take (i - q)).map (shN (-(q : Int))) := ⟨_, rfl⟩
            rw [← hdone] at HK htk hdl
            clear hdone
            rw [← HN.out] at hxl hdn
            have hnd := hnd0.kbF kw4.out
            have c0 := hnd.k
            have c1 := hnd.at_
            have c2 := hnd.n
            have c3 := hnd.s
            obtain ⟨la, lc, hl40, hints, hlc, hlm⟩ := hnd0.l
            have hl4 := kw4.out.cell (p := ⟨b, off + i * 5 + 4, none⟩) (fun x => x) hl40
            obtain ⟨M, hM⟩ : ∃ M, M = x.l.length := ⟨_, rfl⟩
            rw [← hM] at hl4 hl40 hlc hxl
            have HM := Lib.hid hM
            have HX := Lib.hid (And.intro hints (And.intro hdn (And.intro hxo hl40)))
            unfold maxLen at hlm
            clear hnd hnd0 hints hdn hxo hM hl40
            go_wp2_with fail
            obtain ⟨V, hV⟩ : ∃ V, V = W4.alloc (.cells #[.int .u8 (x.k : Nat), .int .i64 x.at_, .int .i64 x.n, .string x.s, .slice none 0 0] 25) := ⟨_, rfl⟩
            rw [← hV]
            have kV : KB F0 W4 V := by rw [hV]; exact (KB.refl _ _).alloc _
            have hX : V.heap[W4.heap.size]? = some (.cells #[.int .u8 (x.k : Nat), .int .i64 x.at_, .int .i64 x.n, .string x.s, .slice none 0 0] 25 (0, 0)) := by rw [hV]; exact alloc_new _ _
            have hVs : V.heap.size = W4.heap.size + 1 := by rw [hV]; simp
            obtain ⟨X, hXe⟩ : ∃ X, X = W4.heap.size := ⟨_, rfl⟩
            rw [← hXe] at hX hVs ⊢
            have hOX : O < X := by rw [hXe]; exact heap_lt (K4.out.heap (fun x => x) HK.out.2.1)
            have HV := Lib.hid (And.intro kV (And.intro hX (And.intro hVs hXe)))
            clear hV kV hX hVs hXe b0 hl4 c0 c1 c2 c3
            go_loopw [9] (fun jv wr2 => ∃ (j : Nat) (lv : Value), j ≤ M ∧ jv = .int .i64 j ∧ wr2.heap[X]? = some (.cells #[.int .u8 (x.k : Nat), .int .i64 x.at_, .int .i64 x.n, .string x.s, lv] 25 (0, 0)) ∧ wr2.ownsRow (X + 1) 3 1 lv j (ints ((x.l.take j).map (· + -(q : Int)))) ∧ KB (fun k => X ≤ k) V wr2) (fun jv _ => M - (intOf jv).toNat)
            case atStart => exact ⟨0, _, by omega, rfl, HV.out.2.1, World.ownsRow_nil _ _ _ _, KB.refl _ _⟩
            case round =>
              obtain ⟨j, lv, hj, rfl, hXw, hlv, hkb⟩ := hrel
              have kW : KB (fun k => X ≤ k) W4 wr := (HV.out.1.mono (fun _ _ x => x.elim)).trans hkb
              have kO : KB F0 w0 wr := kw4.out.up kW (by rw [HV.out.2.2.2]; exact kw4.out.size)
              have hA := kW.heap (b := w0.heap.size) (fun (h : X ≤ w0.heap.size) => by omega) (K4.out.heap (fun x => x) HK.out.2.2.1)
              have b0 : wr.cell? ⟨w0.heap.size, 0, none⟩ = some (.slice (some ⟨b, off, none⟩) N cap) := blk_cell hA 0
              have hl4 := kO.cell (p := ⟨b, off + i * 5 + 4, none⟩) (fun x => x) HX.out.2.2.2
              by_cases hjt : j < M
              · have hj1 : j < x.l.length := by rw [← HM.out]; exact hjt
                obtain ⟨lb, lo, rfl, hcl⟩ := HX.out.1 j hj1
                have hcl := kO.cell (p := ⟨lb, lo + j, none⟩) (fun x => x) hcl
                have hrg := HX.out.2.1 _ (getD_memI hj1)
                have htk2 : Hid ((x.l.take (j + 1)).map (· + -(q : Int)) = (x.l.take j).map (· + -(q : Int)) ++ [x.l.getD j 0 + -(q : Int)]) := Lib.hid (by
                  rw [take_getD (d := (0 : Int)) hj1, List.map_append]; rfl)
                obtain ⟨ys, hys⟩ : ∃ ys, ys = (x.l.take j).map (· + -(q : Int)) := ⟨_, rfl⟩
                rw [← hys] at hlv htk2
                generalize x.l.getD j 0 = cc at hcl hrg htk2
                have x4 : wr.cell? ⟨X, 4, none⟩ = some lv := blk_cell hXw 4
                have hwrap : IntKind.i64.wrap (cc - (q : Int)) = cc - (q : Int) := w64 (by omega) (by omega)
                have HR3 := Lib.hid (And.intro hXw (And.intro hlv (And.intro hkb (And.intro kO hys))))
                have hwz := (HV.out.2.2.1 ▸ hkb.size : X + 1 ≤ wr.heap.size)
                clear hXw hlv hkb kW kO hA hys
                go_wp2_with fail
                refine wp_region_rv 14 GK (kindW [(13, OneRow wr.heap.size #[.int .i64 (cc - (q : Int))] 3, OneRowAt wr.heap.size #[.int .i64 (cc - (q : Int))] 3)]) (by kernel_rfl) (by kernel_rfl) (kb_trans _) (kb_refl _) (kb_start _ _) (kindW_mono _ (by intro p hp; simp only [List.mem_cons, List.not_mem_nil, or_false] at hp; subst hp; exact lasts_row _ _ _)) ?_
                simp only [List.take_succ_cons, List.take_zero, List.drop_succ_cons, List.drop_zero]
                iterate 13 (refine rv_det (by kernel_rfl) rfl (by intro w hG hH; have hc0 := KB.cell hG (fun x => x) (x4); have hc1 := KB.cell hG (fun x => x) (b0); have hc2 := KB.cell hG (fun x => x) (hl4); have hc3 := KB.cell hG (fun x => x) (hcl); go_simp; first | done | with_reducible rfl) ?_; simp only [Act.put, List.setIfInBounds_toArray, List.set_cons_zero, List.set_cons_succ])
                refine rv_rel (by kernel_rfl) rfl ⟨.slice (some ⟨_, 0, none⟩) 1 1, _, rfl, Nat.le_refl _⟩ (fun w hG hH => opVal_row hG (by go_simp; first | done | rfl)) ?_
                rintro v ⟨nb, rfl, hnb⟩
                simp only [Act.put, List.setIfInBounds_toArray, List.set_cons_zero, List.set_cons_succ]
                refine rv_nil (fun w hG hH => ?_)
                have hrow : OneRowAt wr.heap.size #[.int .i64 (cc - (q : Int))] 3 (.slice (some ⟨nb, 0, none⟩) 1 1) w := hH (13, fun w => OneRowAt wr.heap.size #[.int .i64 (cc - (q : Int))] 3 (.slice (some ⟨nb, 0, none⟩) 1 1) w) List.mem_cons_self
                obtain ⟨nb', e, -, hrow⟩ := hrow
                simp only [Value.slice.injEq, Option.some.injEq, Addr.mk.injEq, and_true] at e
                subst e
                have HG2 := Lib.hid (And.intro hG (And.intro (own_kb HR3.out.2.1 hG (fun _ _ x => x)) (hG.heap (fun x => x) HR3.out.1)))
                have hsw := hG.size
                clear hG hH x4 b0 hl4 hcl
                go_wp2_with (at_builtin; refine Stopped.out ?_)
                refine ⟨?_⟩
                refine app1 23 3 (X + 1) (.int .i64 (cc - (q : Int))) Tryd.infoInt Tryd.underlying23 rfl HG2.out.2.1 rfl rfl rfl rfl (blk_cell hrow 0) rfl (by unfold maxLen; omega) (by omega) (by omega) ?_
                intro v' w' hown' hgr
                have hXw' : w'.heap[X]? = some (.cells #[.int .u8 (x.k : Nat), .int .i64 x.at_, .int .i64 x.n, .string x.s, lv] 25 (0, 0)) := by
                  rw [hgr.block X (heap_lt HG2.out.2.2) (fun e => by
                    obtain ⟨cu, h1, h2⟩ := own_block HG2.out.2.1 e.symm
                    omega)]
                  exact HG2.out.2.2
                obtain ⟨va, vc2, rfl, -⟩ := own_shape hown'
                have y4 : w'.cell? ⟨X, 4, none⟩ = some lv := blk_cell hXw' 4
                have y4f := blk_frozen hXw' 4
                have ks := kb_set w' X 4 (.slice va (j + 1) vc2)
                have hX2 := setCell_blk (i := 4) hXw' (.slice va (j + 1) vc2)
                have hlv2 := own_kb hown' ks (fun g e1 e2 => by
                  obtain ⟨cu, h1, h2⟩ := own_block hown' e1
                  omega)
                have hkb2 : KB (fun k => X ≤ k) V (w'.setCell ⟨X, 4, none⟩ (.slice va (j + 1) vc2)) := ((HR3.out.2.2.1.trans (HG2.out.1.mono (fun _ _ x => x.elim))).grown hgr (fun k e h => by
                  obtain ⟨cu, h1, h2⟩ := own_block HG2.out.2.1 e
                  show X ≤ k
                  omega)).trans (ks.mono (fun k _ e => by rw [e]; exact Nat.le_refl _))
                have hys2 : ints ((x.l.take (j + 1)).map (· + -(q : Int))) = ints ys ++ [.int .i64 (cc - (q : Int))] := by
                  rw [htk2.out]; simp [ints, Int.sub_eq_add_neg]
                rw [← hys2] at hlv2
                have HZ := Lib.hid (And.intro hX2 (And.intro hlv2 hkb2))
                clear hown' hgr hXw' ks hX2 hlv2 hkb2 hys2 hrow
                go_wp2
                go_roundw
                case rel => exact ⟨j + 1, _, by omega, by go_num, HZ.out.1, HZ.out.2.1, HZ.out.2.2⟩
                case measure => simp [intOf]; omega
              · obtain rfl : j = M := by omega
                have hown4 := (HK.out.1.kbF K4.out).keep kW (by rw [HV.out.2.2.2]; exact Nat.le_refl _)
                have hOh := kW.heap (b := O) (fun (h : X ≤ O) => by omega) (K4.out.heap (fun x => x) HK.out.2.1)
                have hBh := kW.heap (b := w0.heap.size + 1) (fun (h : X ≤ w0.heap.size + 1) => by omega) (K4.out.heap (fun x => x) HK.out.2.2.2.1)
                have hlvx : wr.ownsRow w0.heap.size 3 1 lv (shN (-(q : Int)) x).l.length (ints (shN (-(q : Int)) x).l) := by
                  have e : (shN (-(q : Int)) x).l.length = j := by rw [HM.out]; simp [shN]
                  have e2 : (shN (-(q : Int)) x).l = (x.l.take j).map (· + -(q : Int)) := by rw [List.take_of_length_le (by rw [HM.out]; exact Nat.le_refl _)]; rfl
                  rw [e, e2]
                  exact own_base hlv (by omega)
                have x0 : wr.cell? ⟨X, 0, none⟩ = some (.int .u8 (x.k : Nat)) := blk_cell hXw 0
                have x1 : wr.cell? ⟨X, 1, none⟩ = some (.int .i64 x.at_) := blk_cell hXw 1
                have x2 : wr.cell? ⟨X, 2, none⟩ = some (.int .i64 x.n) := blk_cell hXw 2
                have x3 : wr.cell? ⟨X, 3, none⟩ = some (.string x.s) := blk_cell hXw 3
                have x4 : wr.cell? ⟨X, 4, none⟩ = some lv := blk_cell hXw 4
                obtain ⟨lva, lvc, rfl, -⟩ := own_shape hlv
                have c0O : wr.cell? ⟨O, 0, none⟩ = some v := blk_cell hOh 0
                have HQ := Lib.hid (And.intro hown4 (And.intro hOh (And.intro hA (And.intro hBh (And.intro kO hlvx)))))
                have hws := kO.size
                clear hown4 hOh hBh hlvx hlv hXw hkb kW kO hA
                go_wp2_with (at_builtin; refine Stopped.out ?_)
                refine ⟨?_⟩
                have ka : KB F0 wr (wr.alloc (.cells #[.int .u8 (x.k : Nat), .int .i64 x.at_, .int .i64 x.n, .string x.s, .slice lva j lvc] 25)) := (KB.refl _ _).alloc _
                have HO := Lib.hid (And.intro (HQ.out.1.kbF ka) (own_kb HQ.out.2.2.2.2.2 ka (fun _ _ x => x)))
                refine appRow 29 25 w0.heap.size (ndCells (shN (-(q : Int)) x) (.slice lva j lvc)) Tryd.infoNode Tryd.underlying29 rfl (by decide) HO.out.1.row rfl rfl rfl rfl (alloc_new _ _) rfl
                  (by intro u hu; simp [ndCells] at hu; rcases hu with rfl | rfl | rfl | rfl | rfl <;> rfl) (by unfold maxLen; omega) (by omega) (by simp; omega) ?_
                intro v' w' hown' hgr
                have hpush := HO.out.1.push HO.out.2 hown' hgr
                have hk' := (HQ.out.2.2.2.2.1.trans ka).grown hgr (fun g e h => by
                  obtain ⟨-, -, hb⟩ := own_block HO.out.1.row e
                  omega)
                have hgo : ∀ {g : Nat} {cs : Array Value}, wr.heap[g]? = some (.cells cs 31 (0, 0)) → w'.heap[g]? = some (.cells cs 31 (0, 0)) := fun {g cs} hg => by
                  have hg2 := ka.heap (fun x => x) hg
                  rw [hgr.block g (heap_lt hg2) (fun e => by
                    obtain ⟨cu, h1, -⟩ := own_block HO.out.1.row e.symm
                    rw [hg2] at h1; cases h1)]
                  exact hg2
                have hO7 := hgo HQ.out.2.1
                have hA7 := hgo HQ.out.2.2.1
                have hB7 := hgo HQ.out.2.2.2.1
                rw [← htk.out] at hpush
                obtain ⟨a7, c7, rfl, -⟩ := own_shape hown'
                have k8 := kb_set w' O 0 (.slice a7 (done.length + 1) c7)
                have hown9 := hpush.other k8 hO7 (by decide) (by decide)
                have hO8 := setCell_blk (i := 0) hO7 (.slice a7 (done.length + 1) c7)
                have hA8 := k8.heap (b := w0.heap.size) (fun e => by omega) hA7
                have hB8 := k8.heap (b := w0.heap.size + 1) (fun e => by omega) hB7
                have hkb8 := hk'.setCell (p := ⟨O, 0, none⟩) (fun h => by
                  have h1 : O < w0.heap.size := h; omega) (.slice a7 (done.length + 1) c7)
                have c7O : w'.cell? ⟨O, 0, none⟩ = some v := blk_cell hO7 0
                have f7O := blk_frozen hO7 0
                have HP := Lib.hid (And.intro hown9 (And.intro hO8 (And.intro hA8 (And.intro hB8 hkb8))))
                clear hpush hk' hown' hgr HO ka x0 x1 x2 x3 x4 c0O hO7 hA7 hB7 k8 hown9 hO8 hA8 hB8 hkb8 hgo
                go_wp2
                go_roundw
                case rel =>
                  have H9 := HP.out
                  rw [hdl] at H9
                  exact ⟨i + 1, _, _, by omega, by omega, by go_num, H9.1, H9.2.1, H9.2.2.1, H9.2.2.2.1, H9.2.2.2.2⟩
                case measure => simp [intOf]; omega
          · obtain rfl : i = F := by omega
            have hOh := K4.out.heap (fun x => x) HK.out.2.1
            have hBh := K4.out.heap (fun x => x) HK.out.2.2.2.1
            have hown4 := HK.out.1.kbF K4.out
            rw [show ((ts.drop q).take (i - q)).map (shN (-(q : Int))) = R by rw [HG.out.2.2.1, subN, ← HG.out.2.1]] at hown4
            obtain ⟨va, vc, rfl, -⟩ := hown4.nodes
            have c0O : W4.cell? ⟨O, 0, none⟩ = some (.slice va R.length vc) := blk_cell hOh 0
            have b1 : W4.cell? ⟨w0.heap.size + 1, 0, none⟩ = some (.slice none 0 0) := blk_cell hBh 0
            have hfz := blk_frozen hBh 0
            have Hc1 := Lib.hid (World.cell?_setCell_same W4 ⟨w0.heap.size + 1, 0, none⟩ (.slice va R.length vc) b1)
            have HF := Lib.hid (And.intro (hown4.other (kb_set W4 (w0.heap.size + 1) 0 (.slice va R.length vc)) hBh (by decide) (by decide)) (kw4.out.setCell (p := ⟨w0.heap.size + 1, 0, none⟩) (fun h => by
              have h1 : w0.heap.size + 1 < w0.heap.size := h; omega) (.slice va R.length vc)))
            clear hOh hBh hown4
            go_wp2
            (try simp only [Exit.inBlock, Exit.then])
            refine ret_cell_tmp rfl rfl Hc1.out rfl ?_
            exact ⟨_, ls, by rw [HG.out.2.2.2]; rfl, HF.out.1, HF.out.2⟩
end Go.Proofs.YtjefoojkgocinaaDoor

/- The order of a tree's numbers; the walk of loanwordref03.walk. -/
import Derived.Test.YtjefoojkgocinaaDoorTreeQ
import Derived.Test.YtjefoojkgocinaaDoorTreeU
namespace Go.Proofs.YtjefoojkgocinaaDoor
open Go.RowKit

/-- What walk answers. -/
def WRes (N : Nat) : Option Nat → Ending → Prop
  | some k, e => e = .returned (.tuple #[.int .i64 (k : Nat), .int .i64 0])
  | none, e => ∃ at_ : Nat, at_ < N ∧ e = .returned (.tuple #[.int .i64 (-1), .int .i64 (at_ : Nat)])

set_option maxRecDepth 100000 in
set_option maxHeartbeats 8000000 in
theorem cwalk_any (ts : List Nd) (hlen : ts.length ≤ 20000) (hok : ∀ x ∈ ts, NdOk x) (a : Option Addr) (cap : Nat) (f : Nat) : ∀ (n : Nat) (nx : Int) (w : World), n < ts.length → ts.length ≤ n + f → nx = (n : Int) + 1 → NodesAt w a ts →
    Calls Tryd.prog 54 #[.agg #[.slice a ts.length cap], .int .i64 n, .int .i64 nx] w fun e w' => WRes ts.length (walkF ts f n) e ∧ KB F0 w w' := by
  induction f with
  | zero => intro n nx w h1 h2; omega
  | succ f ih =>
    intro n nx w hi hf hnx hts
    subst hnx
    obtain ⟨w0, rfl⟩ : ∃ w0, w0 = w := ⟨_, rfl⟩
    obtain ⟨r, hr⟩ : ∃ r, r = walkF ts (f + 1) n := ⟨_, rfl⟩
    rw [← hr]
    obtain ⟨b, off, rfl, hx⟩ := hts n hi
    have hxo := hok _ (getD_memN hi)
    obtain ⟨x, hxd⟩ : ∃ x, x = ts.getD n nd0 := ⟨_, rfl⟩
    rw [← hxd] at hx hxo
    have Hr : Hid (r = walkC (walkF ts f) ts.length x.l (n + 1)) := Lib.hid (by rw [hr, hxd]; rfl)
    obtain ⟨N, hN⟩ : ∃ N, N = ts.length := ⟨_, rfl⟩
    obtain ⟨la, lc, hl4, hints, hlc, hlm⟩ := hx.l
    have Ih := Lib.hid ih
    have HTS := Lib.hid (And.intro hts hxo)
    obtain ⟨M, hM⟩ : ∃ M, M = x.l.length := ⟨_, rfl⟩
    rw [← hN] at hlen hi hf ⊢
    rw [← hM] at hl4 hlc
    have HN := Lib.hid hN
    have HM := Lib.hid hM
    have hiN : (n : Int) < (N : Int) := by omega
    unfold maxLen at hlm
    have H4 := Lib.hid (And.intro hl4 hints)
    clear hr hx hts hok hxo hxd hN hM ih hl4 hints
    go_enter Tryd.func54, Tryd.ntmps54
    go_wp2_with fail
    obtain ⟨B1, hB1⟩ : ∃ B1, B1 = (w0.alloc (.cells #[.slice (some ⟨b, off, none⟩) N cap] 31)) := ⟨_, rfl⟩
    rw [← hB1]
    have k1 : KB F0 w0 B1 := by rw [hB1]; exact (KB.refl _ _).alloc _
    have bt : B1.cell? ⟨w0.heap.size, 0, none⟩ = some (.slice (some ⟨b, off, none⟩) N cap) := by rw [hB1]; exact new_cell _ _ _ 0
    have H1 := Lib.hid (And.intro k1 (And.intro bt (And.intro (k1.cell (p := ⟨b, off + n * 5 + 4, none⟩) (fun x => x) H4.out.1) (And.intro (H4.out.2.kbF k1) (HTS.out.1.kbF k1)))))
    clear hB1 k1 bt H4
    go_loopw [8, 2] (fun iv mv wr => ∃ j m : Nat, j ≤ M ∧ n < m ∧ m ≤ N ∧ iv = .int .i64 j ∧ mv = .int .i64 m ∧ Hid (r = walkC (walkF ts f) ts.length (x.l.drop j) m) ∧ KB F0 B1 wr) (fun iv _ _ => M - (intOf iv).toNat)
    case atStart => exact ⟨0, n + 1, by omega, by omega, by omega, rfl, rfl, (by rw [List.drop_zero]; exact Hr), KB.refl _ _⟩
    case round =>
      obtain ⟨j, m, hj, hnm, hmN, rfl, rfl, hw, hkb⟩ := hrel
      have f4 := hkb.cell (p := ⟨b, off + n * 5 + 4, none⟩) (fun x => x) H1.out.2.2.1
      have hbt := hkb.cell (p := ⟨w0.heap.size, 0, none⟩) (fun x => x) H1.out.2.1
      have HK := Lib.hid hkb
      by_cases hlt : j < M
      · obtain ⟨lb, lo, rfl, hcl⟩ := (H1.out.2.2.2.1) j (by rw [← HM.out]; exact hlt)
        have hcl := hkb.cell (p := ⟨lb, lo + j, none⟩) (fun x => x) hcl
        have hrg := HTS.out.2.l _ (getD_memI (l := x.l) (k := j) (by rw [← HM.out]; exact hlt))
        have hdrop : Hid (x.l.drop j = x.l.getD j 0 :: x.l.drop (j + 1)) := Lib.hid (by
          rw [List.drop_eq_getElem_cons (by rw [← HM.out]; exact hlt), List.getD_eq_getElem?_getD, List.getElem?_eq_getElem (by rw [← HM.out]; exact hlt)]; rfl)
        generalize x.l.getD j 0 = c at hcl hrg hdrop
        have hw' : Hid (r = if c = (m : Int) ∧ m < N then (walkF ts f m).bind (walkC (walkF ts f) ts.length (x.l.drop (j + 1))) else none) := Lib.hid (by
          rw [hw.out, hdrop.out, walkC, ← HN.out])
        clear hkb hw hdrop
        by_cases hcm : c = (m : Int)
        · by_cases hmN2 : m < N
          · subst hcm
            have hr2 : Hid (r = (walkF ts f m).bind (walkC (walkF ts f) ts.length (x.l.drop (j + 1)))) := Lib.hid (by rw [hw'.out, if_pos ⟨rfl, hmN2⟩])
            have HC := Lib.hid (Ih.out m ((m : Int) + 1) wr (by rw [← HN.out]; exact hmN2) (by have := HN.out; omega) rfl (H1.out.2.2.2.2.kbF HK.out))
            have hle : Hid (∀ k, walkF ts f m = some k → m < k ∧ k ≤ N) := Lib.hid (by
              intro k hk
              have := walkF_le ts f m k (by rw [← HN.out]; exact hmN2) hk
              rw [← HN.out] at this; exact this)
            rw [← HN.out] at HC
            clear hw' Hr
            generalize walkF ts f m = o at HC hr2 hle
            cases o with
            | none =>
              go_wp2_with fail
              refine HC.out.mono ?_
              rintro e w' ⟨⟨q, hq, rfl⟩, hk'⟩
              go_wp2
              go_ret2
              refine ⟨?_, (H1.out.1.trans HK.out).trans hk'⟩
              rw [hr2.out]
              exact ⟨q, hq, rfl⟩
            | some k =>
              have hk1 := (hle.out k rfl).1
              have hk2 := (hle.out k rfl).2
              have hr3 : Hid (r = walkC (walkF ts f) ts.length (x.l.drop (j + 1)) k) := hr2
              clear hr2 hle
              go_wp2_with fail
              refine HC.out.mono ?_
              rintro e w' ⟨rfl, hk'⟩
              go_wp2
              go_roundw
              case rel => exact ⟨j + 1, k, by omega, by omega, by omega, by go_num, rfl, hr3, HK.out.trans hk'⟩
              case measure => simp [intOf]; omega
          · have hr2 : Hid (r = none) := Lib.hid (by rw [hw'.out, if_neg (fun h => hmN2 h.2)])
            subst hcm
            have hNm : N ≤ m := by omega
            clear hw'
            go_wp2
            go_ret2
            refine ⟨?_, H1.out.1.trans HK.out⟩
            rw [hr2.out]
            exact ⟨n, hi, rfl⟩
        · have hr2 : Hid (r = none) := Lib.hid (by rw [hw'.out, if_neg (fun h => hcm h.1)])
          have d1 : (c != (m : Int)) = true := by simpa using hcm
          have d2 : (c == (m : Int)) = false := by simpa using hcm
          clear hw' hcm
          go_wp2
          go_ret2
          refine ⟨?_, H1.out.1.trans HK.out⟩
          rw [hr2.out]
          exact ⟨n, hi, rfl⟩
      · obtain rfl : M = j := by omega
        have hr2 : Hid (r = some m) := Lib.hid (by
          rw [hw.out, List.drop_of_length_le (by rw [← HM.out]; exact Nat.le_refl _), walkC])
        clear hw hkb
        go_wp2
        go_ret2
        refine ⟨?_, H1.out.1.trans HK.out⟩
        rw [hr2.out]
        rfl
end Go.Proofs.YtjefoojkgocinaaDoor

namespace Go.Proofs.YtjefoojkgocinaaDoor
open Go.RowKit

set_option maxRecDepth 100000 in
set_option maxHeartbeats 8000000 in
theorem cdeep_any (ts : List Nd) (_hlen : ts.length ≤ 20000) (hdn : Down ts) (hok : ∀ x ∈ ts, NdOk x) (a : Option Addr) (cap : Nat) (f : Nat) (_hf0 : f ≤ 20000) : ∀ (n : Nat) (w : World), n < ts.length → ts.length ≤ n + f → NodesAt w a ts →
    Calls Tryd.prog 56 #[.agg #[.slice a ts.length cap], .int .i64 n] w fun e w' => e = .returned (.int .i64 (deepF ts f n : Nat)) ∧ KB F0 w w' := by
  induction f with
  | zero => intro n w h1 h2; omega
  | succ f ih =>
    intro n w hi hf hts
    obtain ⟨w0, rfl⟩ : ∃ w0, w0 = w := ⟨_, rfl⟩
    obtain ⟨r, hr⟩ : ∃ r, r = deepF ts (f + 1) n := ⟨_, rfl⟩
    rw [← hr]
    obtain ⟨b, off, rfl, hx⟩ := hts n hi
    have hxo := hok _ (getD_memN hi)
    have hxd' := hdn n hi
    obtain ⟨x, hxd⟩ : ∃ x, x = ts.getD n nd0 := ⟨_, rfl⟩
    rw [← hxd] at hx hxo hxd'
    have Hr : Hid (r = deepC (deepF ts f) x.l 0 + 1) := Lib.hid (by rw [hr, hxd]; rfl)
    obtain ⟨N, hN⟩ : ∃ N, N = ts.length := ⟨_, rfl⟩
    obtain ⟨la, lc, hl4, hints, hlc, hlm⟩ := hx.l
    have Ih := Lib.hid (ih (by omega))
    have HTS := Lib.hid (And.intro hts (And.intro hxo hxd'))
    have Hle := Lib.hid (deepF_le ts f)
    obtain ⟨M, hM⟩ : ∃ M, M = x.l.length := ⟨_, rfl⟩
    rw [← hN] at _hlen hi hf ⊢
    rw [← hM] at hl4 hlc
    have HN := Lib.hid hN
    have HM := Lib.hid hM
    have hiN : (n : Int) < (N : Int) := by omega
    unfold maxLen at hlm
    have H4 := Lib.hid (And.intro hl4 hints)
    clear hr hx hts hok hxo hxd hxd' hN hM ih hl4 hints hdn
    go_enter Tryd.func56, Tryd.ntmps56
    go_wp2_with fail
    obtain ⟨B1, hB1⟩ : ∃ B1, B1 = (w0.alloc (.cells #[.slice (some ⟨b, off, none⟩) N cap] 31)) := ⟨_, rfl⟩
    rw [← hB1]
    have k1 : KB F0 w0 B1 := by rw [hB1]; exact (KB.refl _ _).alloc _
    have bt : B1.cell? ⟨w0.heap.size, 0, none⟩ = some (.slice (some ⟨b, off, none⟩) N cap) := by rw [hB1]; exact new_cell _ _ _ 0
    have H1 := Lib.hid (And.intro k1 (And.intro bt (And.intro (k1.cell (p := ⟨b, off + n * 5 + 4, none⟩) (fun x => x) H4.out.1) (And.intro (H4.out.2.kbF k1) (HTS.out.1.kbF k1)))))
    clear hB1 k1 bt H4
    go_loopw [6, 5] (fun iv mv wr => ∃ j m : Nat, j ≤ M ∧ m ≤ f ∧ iv = .int .i64 j ∧ mv = .int .i64 m ∧ Hid (r = deepC (deepF ts f) (x.l.drop j) m + 1) ∧ KB F0 B1 wr) (fun iv _ _ => M - (intOf iv).toNat)
    case atStart => exact ⟨0, 0, by omega, by omega, rfl, rfl, (by rw [List.drop_zero]; exact Hr), KB.refl _ _⟩
    case round =>
      obtain ⟨j, m, hj, hmf, rfl, rfl, hw, hkb⟩ := hrel
      have f4 := hkb.cell (p := ⟨b, off + n * 5 + 4, none⟩) (fun x => x) H1.out.2.2.1
      have hbt := hkb.cell (p := ⟨w0.heap.size, 0, none⟩) (fun x => x) H1.out.2.1
      have HK := Lib.hid hkb
      by_cases hlt : j < M
      · obtain ⟨lb, lo, rfl, hcl⟩ := (H1.out.2.2.2.1) j (by rw [← HM.out]; exact hlt)
        have hcl := hkb.cell (p := ⟨lb, lo + j, none⟩) (fun x => x) hcl
        have hrg := HTS.out.2.2 _ (getD_memI (l := x.l) (k := j) (by rw [← HM.out]; exact hlt))
        have hdrop : Hid (x.l.drop j = x.l.getD j 0 :: x.l.drop (j + 1)) := Lib.hid (by
          rw [List.drop_eq_getElem_cons (by rw [← HM.out]; exact hlt), List.getD_eq_getElem?_getD, List.getElem?_eq_getElem (by rw [← HM.out]; exact hlt)]; rfl)
        generalize x.l.getD j 0 = c at hcl hrg hdrop
        obtain ⟨q, rfl⟩ := Int.eq_ofNat_of_zero_le (show 0 ≤ c by omega)
        have hqn : n < q := by omega
        have hqN : q < N := by have := HN.out; omega
        have hw' : Hid (r = deepC (deepF ts f) (x.l.drop (j + 1)) (if m < deepF ts f q then deepF ts f q else m) + 1) := Lib.hid (by
          rw [hw.out, hdrop.out, deepC, Int.toNat_natCast])
        have HC := Lib.hid (fun w => Ih.out q w (by rw [← HN.out]; exact hqN) (by have := HN.out; omega))
        have hDf := Hle.out q
        rw [← HN.out] at HC
        clear hkb hw hdrop hrg
        generalize deepF ts f q = D at HC hw' hDf
        have hjM : (j : Int) < (M : Int) := by omega
        go_wp2_with fail
        refine wp_region_rv 12 GK (kindW [(10, fun v => v = .int .i64 (D : Nat), fun _ _ => True)]) (by kernel_rfl) (by kernel_rfl) (kb_trans _) (kb_refl _) (kb_start _ _) (kindW_mono _ (by intro p hp; simp only [List.mem_cons, List.not_mem_nil, or_false] at hp; subst hp; exact lasts_true)) ?_
        simp only [List.take_succ_cons, List.take_zero, List.drop_succ_cons, List.drop_zero]
        iterate 10 (refine rv_det (by kernel_rfl) rfl (by intro w hG hH; have hc0 := KB.cell hG (fun x => x) (hbt); have hc1 := KB.cell hG (fun x => x) (f4); have hc2 := KB.cell hG (fun x => x) (hcl); go_simp; first | done | with_reducible rfl) ?_; simp only [Act.put, List.setIfInBounds_toArray, List.set_cons_zero, List.set_cons_succ])
        refine rv_rel (by kernel_rfl) rfl ⟨_, rfl⟩ (by
          intro w hG hH
          refine opVal_call (by go_simp; first | done | exact ⟨⟨rfl, rfl⟩, rfl⟩) ?_
          refine (HC.out _ (H1.out.2.2.2.2.kbF (HK.out.trans hG))).mono ?_
          rintro e w' ⟨rfl, hq⟩
          exact ⟨_, rfl, rfl, by first | (obtain ⟨nq, rfl⟩ := hq; exact (KB.refl _ _).drewN _) | (subst hq; exact KB.refl _ _) | exact hq, trivial⟩) ?_
        rintro v rfl
        simp only [Act.put, List.setIfInBounds_toArray, List.set_cons_zero, List.set_cons_succ]
        refine rv_det (by kernel_rfl) rfl (by intro w hG hH; go_simp; first | done | with_reducible rfl) ?_
        simp only [Act.put, List.setIfInBounds_toArray, List.set_cons_zero, List.set_cons_succ]
        refine rv_nil (fun w hG hH => ?_)
        have hG' := Lib.hid (HK.out.trans hG)
        clear hG hH hbt f4 hcl
        by_cases hmD : m < D
        · have hr3 : Hid (r = deepC (deepF ts f) (x.l.drop (j + 1)) D + 1) := Lib.hid (by rw [hw'.out, if_pos hmD])
          clear hw'
          go_wp2
          go_roundw
          case rel => exact ⟨j + 1, D, by omega, by omega, by go_num, rfl, hr3, hG'.out⟩
          case measure => simp [intOf]; omega
        · have hr3 : Hid (r = deepC (deepF ts f) (x.l.drop (j + 1)) m + 1) := Lib.hid (by rw [hw'.out, if_neg hmD])
          have hDm : D ≤ m := by omega
          clear hw'
          go_wp2
          go_roundw
          case rel => exact ⟨j + 1, m, by omega, by omega, by go_num, rfl, hr3, hG'.out⟩
          case measure => simp [intOf]; omega
      · obtain rfl : M = j := by omega
        have hr2 : Hid (r = m + 1) := Lib.hid (by
          rw [hw.out, List.drop_of_length_le (by rw [← HM.out]; exact Nat.le_refl _), deepC])
        clear hw hkb
        go_wp2
        go_ret
        exact ⟨by rw [hr2.out]; exact ret_int (by omega), H1.out.1.trans HK.out⟩
end Go.Proofs.YtjefoojkgocinaaDoor

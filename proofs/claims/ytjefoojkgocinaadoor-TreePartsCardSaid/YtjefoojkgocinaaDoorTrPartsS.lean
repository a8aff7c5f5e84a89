/- loanwordlaw03.same, at two copies of one tree. -/
import Derived.Test.YtjefoojkgocinaaDoorTrSame
namespace Go.Proofs.YtjefoojkgocinaaDoor
open Go.RowKit

set_option maxRecDepth 100000 in
set_option maxHeartbeats 8000000 in
theorem lsame_any (ts : List Nd) (hl : ts.length < 100000000) (hok : ∀ x ∈ ts, NdOk x) (a b : Option Addr) (c d : Nat) (hc : ts.length ≤ c) (_hcm : c ≤ 9223372036854775807) (hd : ts.length ≤ d) (_hdm : d ≤ 9223372036854775807) (w : World) (h1 : NodesAt w a ts) (h2 : NodesAt w b ts) (hT : Tab w) :
    Calls Tryd.prog 24 #[.agg #[.slice a ts.length c], .agg #[.slice b ts.length d]] w fun e w' => e = .returned (.bool (sameN ts ts)) ∧ KB F0 w w' := by
  obtain ⟨w0, rfl⟩ : ∃ w0, w0 = w := ⟨_, rfl⟩
  have SM := Lib.hid (fun (W : World) (h : KB F0 w0 W) => same_any ts ts hl hl hok hok a b c d W (h1.kbF h) (h2.kbF h) (hT.kb h))
  obtain ⟨r, hr⟩ : ∃ r, r = sameN ts ts := ⟨_, rfl⟩
  rw [← hr] at SM ⊢
  clear hr
  have HTS := Lib.hid (And.intro h1 h2)
  obtain ⟨N, hN⟩ : ∃ N, N = ts.length := ⟨_, rfl⟩
  rw [← hN] at SM hl hc hd ⊢
  have HN := Lib.hid hN
  obtain ⟨W1, hW1⟩ : ∃ W1, W1 = ((w0.alloc (.cells #[.slice a N c] 31)).alloc (.cells #[.slice b N d] 31)) := ⟨_, rfl⟩
  have k1 : KB F0 w0 W1 := by rw [hW1]; exact ((KB.refl _ _).alloc _).alloc _
  have hs0 : (w0.alloc (.cells #[.slice a N c] 31)).heap.size = w0.heap.size + 1 := by simp
  have b0 : W1.cell? ⟨w0.heap.size, 0, none⟩ = some (.slice a N c) := by
    rw [hW1]; exact ((KB.refl F0 _).alloc _).cell (p := ⟨w0.heap.size, 0, none⟩) (fun x => x) (new_cell _ _ _ 0)
  have b1 : W1.cell? ⟨w0.heap.size + 1, 0, none⟩ = some (.slice b N d) := by
    rw [hW1, ← hs0]; exact new_cell _ _ _ 0
  have HW1 := Lib.hid hW1
  have H1 := Lib.hid (And.intro k1 (And.intro b0 b1))
  clear hN h1 h2 hT hok hs0 k1 hW1
  go_enter Tryd.func24, Tryd.ntmps24
  rw [HW1.out] at b0 b1
  go_wp2_with fail
  rw [← HW1.out]
  clear b0 b1
  go_loopw [5] (fun kv wr => ∃ k : Nat, k ≤ N ∧ kv = .int .i64 k ∧ KB F0 W1 wr) (fun kv _ => N - (intOf kv).toNat)
  case atStart => exact ⟨0, by omega, rfl, KB.refl _ _⟩
  case round =>
    obtain ⟨k, hk, rfl, hkb⟩ := hrel
    have b0 := hkb.cell (p := ⟨w0.heap.size, 0, none⟩) (fun x => x) H1.out.2.1
    have b1 := hkb.cell (p := ⟨w0.heap.size + 1, 0, none⟩) (fun x => x) H1.out.2.2
    have HK := Lib.hid (And.intro hkb (H1.out.1.trans hkb))
    clear hkb
    by_cases hlt : k < N
    · obtain ⟨b1', o1, rfl, hx0⟩ := HTS.out.1 k (by rw [← HN.out]; exact hlt)
      obtain ⟨b2', o2, rfl, hy0⟩ := HTS.out.2 k (by rw [← HN.out]; exact hlt)
      generalize ts.getD k nd0 = x at hx0 hy0
      have c1 := (hx0.kbF HK.out.2).at_
      have e1 := (hy0.kbF HK.out.2).at_
      have d1 : (x.at_ != x.at_) = false := by simp
      clear hx0 hy0
      go_wp2_with fail
      refine wp_region_rv 13 GQ (kindV []) (by kernel_rfl) (by kernel_rfl) GQ.trans GQ.refl (GQ.start _) (kindV_mono _) ?_
      simp only [List.take_succ_cons, List.take_zero, List.drop_succ_cons, List.drop_zero]
      iterate 13 (refine rv_det (by kernel_rfl) rfl (by intro w hG hH; obtain ⟨n, rfl⟩ := hG; go_simp; first | done | with_reducible rfl) ?_; simp only [Act.put, List.setIfInBounds_toArray, List.set_cons_zero, List.set_cons_succ])
      refine rv_nil (fun w hG hH => ?_)
      obtain ⟨n, rfl⟩ := hG
      clear hH
      have K5 := Lib.hid (HK.out.1.drewN n)
      clear b0 b1 c1 e1
      go_wp2
      go_roundw
      case rel => exact ⟨k + 1, by omega, by go_num, K5.out⟩
      case measure => simp [intOf]; omega
    · obtain rfl : k = N := by omega
      go_wp2_with fail
      refine (SM.out wr HK.out.2).mono ?_
      rintro e W2 ⟨rfl, k2⟩
      have K2 := Lib.hid (HK.out.2.trans k2)
      clear k2
      go_wp2
      go_ret
      exact ⟨rfl, K2.out⟩
end Go.Proofs.YtjefoojkgocinaaDoor

/- SameTokens, where it answers yes. -/
import Derived.Test.YtcbifoimfhfccaaGreatDoorLexZc
namespace Go.Proofs.YtcbifoimfhfccaaGreatDoor
open Go.RowKit

set_option maxRecDepth 100000 in
set_option maxHeartbeats 8000000 in
theorem same_true (ts : List Tk) (hl : ts.length < 100000000000) (a b : Option Addr) (c d : Nat) (w : World) (h1 : ToksAt w a ts) (h2 : ToksAt w b ts) :
    Calls Tryz.prog 14 #[.slice a ts.length c, .slice b ts.length d, .bool true] w fun e w' => e = .returned (.bool true) ∧ KB F0 w w' := by
  obtain ⟨w0, rfl⟩ : ∃ w0, w0 = w := ⟨_, rfl⟩
  obtain ⟨N, hN⟩ : ∃ N, N = ts.length := ⟨_, rfl⟩
  have HTS := Lib.hid (And.intro hN (And.intro h1 h2))
  rw [← hN] at hl ⊢
  clear hN h1 h2
  go_enter Tryz.func14, Tryz.ntmps14
  go_wp2_with fail
  go_loopw [7] (fun kv wr => ∃ k : Nat, k ≤ N ∧ kv = .int .i64 k ∧ KB F0 w0 wr) (fun kv _ => N - (intOf kv).toNat)
  case atStart => exact ⟨0, by omega, rfl, KB.refl _ _⟩
  case round =>
    obtain ⟨k, hk, rfl, hkb⟩ := hrel
    by_cases hlt : k < N
    · have d1 : decide ((k : Int) < (N : Int)) = true := decide_eq_true (by omega)
      obtain ⟨b1, o1, rfl, hx0⟩ := HTS.out.2.1 k (by rw [← HTS.out.1]; exact hlt)
      obtain ⟨b2, o2, rfl, hy0⟩ := HTS.out.2.2 k (by rw [← HTS.out.1]; exact hlt)
      have hx := hx0.kbF hkb
      have hy := hy0.kbF hkb
      generalize ts.getD k tk0 = x at hx hy
      have c0 := hx.k
      have c1 := hx.at_
      have c2 := hx.n
      have c3 := hx.s
      obtain ⟨W3, hW3⟩ : ∃ W3, W3 = wr.alloc (.cells #[.int .u8 (x.k : Nat), .int .i64 x.at_, .int .i64 x.n, .string x.s] 27) := ⟨_, rfl⟩
      have hk3 : KB F0 wr W3 := by rw [hW3]; exact (KB.refl F0 wr).alloc _
      have hy3 := hy.kbF hk3
      have e0 := hy3.k
      have e1 := hy3.at_
      have e2 := hy3.n
      have e3 := hy3.s
      have hbox : W3.heap[wr.heap.size]? = some (.cells (tkC x) 27 (0, 0)) := by rw [hW3]; exact alloc_new _ _
      have x0 : W3.cell? ⟨wr.heap.size, 0, none⟩ = some (.int .u8 (x.k : Nat)) := blk_cell hbox 0
      have x1 : W3.cell? ⟨wr.heap.size, 1, none⟩ = some (.int .i64 x.at_) := blk_cell hbox 1
      have x2 : W3.cell? ⟨wr.heap.size, 2, none⟩ = some (.int .i64 x.n) := blk_cell hbox 2
      have x3 : W3.cell? ⟨wr.heap.size, 3, none⟩ = some (.string x.s) := blk_cell hbox 3
      have HK := Lib.hid (hkb.trans hk3)
      clear hx0 hy0 hx hy hkb hy3 hk3 hbox
      go_wp2_with fail
      rw [← hW3]
      clear hW3 c0 c1 c2 c3
      go_wp2_with fail
      refine wp_region_rv 6 GQ (kindV []) (by kernel_rfl) (by kernel_rfl) GQ.trans GQ.refl (GQ.start _) (kindV_mono _) ?_
      simp only [List.take_succ_cons, List.take_zero, List.drop_succ_cons, List.drop_zero]
      iterate 6 (refine rv_det (by kernel_rfl) rfl (by intro w hG hH; obtain ⟨n, rfl⟩ := hG; go_simp; first | done | with_reducible rfl) ?_; simp only [Act.put, List.setIfInBounds_toArray, List.set_cons_zero, List.set_cons_succ])
      refine rv_nil (fun w hG hH => ?_)
      obtain ⟨n, rfl⟩ := hG
      clear hH
      go_wp2_with fail
      refine ⟨⟨k + 1, by omega, by go_num, HK.out.drewN _⟩, by simp [intOf]; omega⟩
    · obtain rfl : k = N := by omega
      have d1 : decide ((k : Int) < (k : Int)) = false := decide_eq_false (by omega)
      go_wp2_with fail
      go_ret
      exact ⟨rfl, hkb⟩
end Go.Proofs.YtcbifoimfhfccaaGreatDoor

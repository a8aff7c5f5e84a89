/- The law's fits and like; SameTokens; lex.Text: where they answer yes. -/
import Derived.Test.YtcbifoimfhfccaaGreatDoorLexZb
namespace Go.Proofs.YtcbifoimfhfccaaGreatDoor
open Go.RowKit

set_option maxRecDepth 100000 in
set_option maxHeartbeats 8000000 in
theorem fits_any (ts : List Tk) (a : Option Addr) (c : Nat) (w : World) (h1 : ToksAt w a ts) (hl : ts.length ≤ 4611686018427387904) :
    Calls Tryz.prog 4 #[.slice a ts.length c] w fun e w' => ∃ r : Bool, e = .returned (.bool r) ∧ (r = true → ts.length ≤ 16384 ∧ ∀ k, k < ts.length → (ts.getD k tk0).s.size ≤ 16384) ∧ KB F0 w w' := by
  obtain ⟨w0, rfl⟩ : ∃ w0, w0 = w := ⟨_, rfl⟩
  obtain ⟨N, hN⟩ : ∃ N, N = ts.length := ⟨_, rfl⟩
  rw [← hN] at hl ⊢
  have HTS := Lib.hid (And.intro hN h1)
  clear hN h1
  by_cases hbig : N ≤ 16384
  · have db : decide ((N : Int) ≤ 16384) = true := decide_eq_true (by omega)
    go_enter Tryz.func4, Tryz.ntmps4
    go_wp2_with fail
    go_loopw [3, 4] (fun nv kv wr => ∃ n k : Nat, k ≤ N ∧ n ≤ 16384 ∧ nv = .int .i64 (n : Nat) ∧ kv = .int .i64 (k : Nat) ∧ KB F0 w0 wr ∧ Hid (∀ i, i < k → (ts.getD i tk0).s.size ≤ 16384)) (fun _ kv _ => N - (intOf kv).toNat)
    case atStart => exact ⟨0, 0, by omega, by omega, rfl, rfl, KB.refl _ _, Lib.hid (fun i hi => by omega)⟩
    case round =>
      obtain ⟨n, k, hk, hn, rfl, rfl, hkb, hall⟩ := hrel
      by_cases hlt : k < N
      · have d1 : decide ((k : Int) < (N : Int)) = true := decide_eq_true (by omega)
        obtain ⟨b1, o1, rfl, hx0⟩ := HTS.out.2 k (by rw [← HTS.out.1]; exact hlt)
        have c3 := (hx0.kbF hkb).s
        have HA := Lib.hid (And.intro hall.out hkb)
        obtain ⟨z, hz⟩ : ∃ z, z = (ts.getD k tk0).s.size := ⟨_, rfl⟩
        have HZ := Lib.hid hz
        generalize (ts.getD k tk0).s = s at c3 hz
        have w1 : IntKind.i64.wrap (16384 - (n : Int)) = ((16384 - n : Nat) : Int) := by rw [w64 (by omega) (by omega)]; omega
        by_cases hs : s.size ≤ 16384 - n
        · have d2 : decide (((16384 - n : Nat) : Int) < (s.size : Int)) = false := decide_eq_false (by omega)
          have d3 : ¬ (16384 - n < s.size) := by omega
          have w2 : IntKind.i64.wrap ((n : Int) + (s.size : Int)) = ((n + s.size : Nat) : Int) := by rw [w64 (by omega) (by omega)]; omega
          have HS2 : Hid (n + s.size ≤ 16384 ∧ z = s.size) := Lib.hid ⟨by omega, hz⟩
          generalize 16384 - n = q at w1 d2 d3
          generalize hzz : s.size = zz at w2 d2 d3 HS2
          clear hs hz hx0 hkb hall
          go_wp2_with fail
          refine ⟨⟨n + zz, k + 1, by omega, by have := HS2.out.1; omega, by go_num, by go_num, HA.out.2, Lib.hid (fun i hi => ?_)⟩, by simp [intOf]; omega⟩
          rcases Nat.lt_or_eq_of_le (Nat.lt_succ_iff.1 hi) with h' | rfl
          · exact HA.out.1 i h'
          · have := HS2.out; have := HZ.out; omega
        · have d2 : decide (((16384 - n : Nat) : Int) < (s.size : Int)) = true := decide_eq_true (by omega)
          have d3 : 16384 - n < s.size := by omega
          generalize 16384 - n = q at w1 d2 d3
          generalize hzz : s.size = zz at d2 d3
          clear hs hz hx0 hkb hall
          go_wp2_with fail
          go_ret
          exact ⟨false, rfl, fun h => (by cases h), HA.out.2⟩
      · obtain rfl : k = N := by omega
        have d1 : decide ((k : Int) < (k : Int)) = false := decide_eq_false (by omega)
        have HA := Lib.hid (And.intro hall.out hkb)
        clear hall hkb
        go_wp2_with fail
        go_ret
        exact ⟨true, rfl, fun _ => ⟨hbig, HA.out.1⟩, HA.out.2⟩
  · have db : decide ((N : Int) ≤ 16384) = false := decide_eq_false (by omega)
    have d1 : decide ((0 : Int) < (N : Int)) = true := decide_eq_true (by omega)
    go_enter Tryz.func4, Tryz.ntmps4
    go_wp2_with fail
    go_loopw [3, 4] (fun nv kv wr => nv = .int .i64 0 ∧ kv = .int .i64 0 ∧ wr = w0) (fun _ _ _ => 0)
    case atStart => exact ⟨rfl, rfl, rfl⟩
    case round =>
      obtain ⟨rfl, rfl, rfl⟩ := hrel
      go_wp2_with fail
      go_ret
      exact ⟨false, rfl, fun h => (by cases h), KB.refl _ _⟩
set_option maxRecDepth 100000 in
set_option maxHeartbeats 8000000 in
theorem textP_any (t : Tk) (hn : Num64 t) (hm : mayS t = true) (w : World) (hT : Tab w) : Calls Tryz.prog 6 #[.agg (tkC t)] w fun e w' => e = .returned (.tuple #[.string (textS t), .int .i64 0]) ∧ KB F0 w w' := by
  obtain ⟨w0, rfl⟩ : ∃ w0, w0 = w := ⟨_, rfl⟩
  have MY := Lib.hid (fun (W : World) (hk : KB F0 w0 W) => may_any t hn W (hT.kb hk))
  have TX := Lib.hid (fun (W : World) (hk : KB F0 w0 W) => text_any t hn W (hT.kb hk))
  rw [hm] at MY
  generalize textS t = u at TX ⊢
  unfold tkC at MY TX ⊢
  clear hn hT hm
  go_enter Tryz.func6, Tryz.ntmps6
  go_wp2_with fail
  refine (MY.out _ ((KB.refl F0 w0).alloc _)).mono ?_
  rintro e w1 ⟨rfl, k1⟩
  have tk1 := k1.heap (fun x => x) (alloc_new w0 (.cells #[.int .u8 (t.k : Nat), .int .i64 t.at_, .int .i64 t.n, .string t.s] 27))
  have c0 : w1.cell? ⟨w0.heap.size, 0, none⟩ = some (.int .u8 (t.k : Nat)) := blk_cell tk1 0
  have c1 : w1.cell? ⟨w0.heap.size, 1, none⟩ = some (.int .i64 t.at_) := blk_cell tk1 1
  have c2 : w1.cell? ⟨w0.heap.size, 2, none⟩ = some (.int .i64 t.n) := blk_cell tk1 2
  have c3 : w1.cell? ⟨w0.heap.size, 3, none⟩ = some (.string t.s) := blk_cell tk1 3
  have K1 := Lib.hid (((KB.refl F0 w0).alloc _).trans k1)
  clear k1 tk1 MY
  go_wp2_with fail
  refine (TX.out _ K1.out).mono ?_
  rintro e w2 ⟨rfl, k2⟩
  have K2 := Lib.hid (K1.out.trans k2)
  clear k2 TX c0 c1 c2 c3
  go_wp2_with fail
  go_ret2
  exact ⟨rfl, K2.out⟩
end Go.Proofs.YtcbifoimfhfccaaGreatDoor

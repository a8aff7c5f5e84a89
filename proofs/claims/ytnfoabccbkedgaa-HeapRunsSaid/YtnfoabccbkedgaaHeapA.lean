/- The walks of heap.base, arena.free, arena.count, heap.is, heap.New, heap.Size. -/
import Derived.Test.YtnfoabccbkedgaaRows
import Derived.Test.YtnfoabccbkedgaaLib
import Derived.Test.YtnfoabccbkedgaaHeapSpec
namespace Go.Proofs.Ytnfoabccbkedgaa
open Go.RowKit

set_option maxHeartbeats 400000 in
theorem base_any (c : Nat) (hc : c ≤ 5) (w : World) :
    Calls Try.prog 28 #[.int .i64 c] w fun e w' => e = .returned (.int .i64 (hb c : Nat)) ∧ w = w' := by
  obtain rfl | rfl | rfl | rfl | rfl | rfl : c = 0 ∨ c = 1 ∨ c = 2 ∨ c = 3 ∨ c = 4 ∨ c = 5 := by omega
  all_goals
    go_enter Try.func28, Try.ntmps28
    go_wp2
    go_ret
    exact ⟨rfl, rfl⟩

set_option maxHeartbeats 400000 in
theorem size_any (w : World) :
    Calls Try.prog 18 #[] w fun e w' => e = .returned (.int .i64 372) ∧ w = w' := by
  go_enter Try.func18, Try.ntmps18
  go_wp2
  go_ret
  exact ⟨rfl, rfl⟩

set_option maxHeartbeats 400000 in
theorem is_any (b : Nat) (t : Bool) (w : World) (hb : w.cell? ⟨b, 0, none⟩ = some (.bool t)) :
    Calls Try.prog 25 #[.pointer (some ⟨b,0,none⟩)] w fun e w' => e = .returned (.bool t) ∧ w = w' := by
  go_enter Try.func25, Try.ntmps25
  go_wp2
  go_ret
  exact ⟨rfl, rfl⟩

def freeRes (f : Nat → Bool) : Value := match ffree f with
  | some i => .tuple #[.int .i64 (i : Nat), .bool true]
  | none => .tuple #[.int .i64 0, .bool false]
theorem freeRes_some {f : Nat → Bool} {k : Nat} (hk : k < 12) (hf : f k = false) (hj : ∀ j, j < k → f j = true) : freeRes f = .tuple #[.int .i64 (k : Nat), .bool true] := by
  unfold freeRes; rw [ffree_of hk hf hj]
theorem freeRes_none {f : Nat → Bool} (hj : ∀ j, j < 12 → f j = true) : freeRes f = .tuple #[.int .i64 0, .bool false] := by
  unfold freeRes; rw [ffree_no hj]

set_option maxHeartbeats 400000 in
theorem free_any (b o : Nat) (f : Nat → Bool) (w : World) (hb : w.cell? ⟨b, o, none⟩ = some (.int .u16 (mk f))) :
    Calls Try.prog 26 #[.pointer (some ⟨b,o,none⟩)] w fun e w' => e = .returned (freeRes f) ∧ w = w' := by
  have hlt := mk_lt f
  go_enter Try.func26, Try.ntmps26
  go_wp2
  go_loop [4, 5, 6,7,8,9,10,11,12,13,14,15,16,17,18] (fun _ i _ _ _ _ _ _ _ _ _ _ _ _ _ => ∃ k : Nat, k ≤ 12 ∧ i = .int .i64 k ∧ ∀ j, j < k → f j = true) (fun _ i _ _ _ _ _ _ _ _ _ _ _ _ _ => 12 - (intOf i).toNat)
  case atStart => exact ⟨0, by omega, rfl, fun _ h => by omega⟩
  case round =>
    obtain ⟨k, hk, rfl, hj⟩ := hrel
    have hj' := Lib.hid hj
    clear hj
    by_cases hlt : k < 12
    · have hbit := mk_bit f k hlt
      by_cases hf : f k = true
      · have ht : (bits BinOp.and IntKind.u16 (mk f / 2 ^ k) 1 == 0) = false := by rw [hbit, if_pos hf]; rfl
        clear hbit
        go_wp2
        go_round
        case rel => exact ⟨k + 1, by omega, by go_num, fun j h => by
          rcases Nat.lt_or_ge j k with h' | h'
          · exact hj'.out j h'
          · obtain rfl : j = k := by omega
            exact hf⟩
        case measure => simp [intOf]; omega
      · have hf' : f k = false := by simpa using hf
        have ht : (bits BinOp.and IntKind.u16 (mk f / 2 ^ k) 1 == 0) = true := by rw [hbit, if_neg hf]; rfl
        have hr := Lib.hid (freeRes_some hlt hf' hj'.out)
        clear hbit hf hf'
        go_wp2
        go_ret2
        exact ⟨ret_eq hr.out, rfl⟩
    · obtain rfl : k = 12 := by omega
      have hr := Lib.hid (freeRes_none hj'.out)
      go_wp2
      go_ret2
      exact ⟨ret_eq hr.out, rfl⟩

end Go.Proofs.Ytnfoabccbkedgaa

/- graph.head$1: a region that a head does not have. -/
import Derived.Test.YtaeppaaolkcbbaaGreatDoorMg24
namespace Go.Proofs.YtaeppaaolkcbbaaGreatDoor
open Go.RowKit

set_option maxRecDepth 100000 in
set_option maxHeartbeats 16000000 in
theorem grHead1_any (x lo lv : Int) (b g : Nat) (w : World) (h1 : w.cell? ⟨b, 0, none⟩ = some (.int .i64 lo)) (h2 : w.cell? ⟨g, 1, none⟩ = some (.int .i64 lv)) :
  Calls Tryz.prog 132 #[.int .i64 x, .pointer (some ⟨b, 0, none⟩), .pointer (some ⟨g, 0, none⟩)] w fun e w' => e = .returned (.bool (decide (x < lo) || decide (lv ≤ x))) ∧ w' = w := by
 obtain ⟨w0, rfl⟩ : ∃ w0, w0 = w := ⟨_, rfl⟩
 by_cases hx : x < lo
 ·have d1 : decide (x < lo) = true := decide_eq_true hx
  go_enter Tryz.func132, Tryz.ntmps132
  go_wp2_with fail
  go_ret
  exact ⟨ret_eq (by simp [hx]), rfl⟩
 ·have d1 : decide (x < lo) = false := decide_eq_false hx
  go_enter Tryz.func132, Tryz.ntmps132
  go_wp2_with fail
  go_ret
  exact ⟨ret_eq (by simp [hx]), rfl⟩
end Go.Proofs.YtaeppaaolkcbbaaGreatDoor

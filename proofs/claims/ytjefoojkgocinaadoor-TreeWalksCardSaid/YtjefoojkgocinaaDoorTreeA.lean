/- The walks of tree's small functions on names. -/
import Derived.Test.YtjefoojkgocinaaDoorRows
import Derived.Test.YtjefoojkgocinaaDoorLib
import Derived.Test.YtjefoojkgocinaaDoorShelfTree
import Derived.Outline
namespace Go.Proofs.YtjefoojkgocinaaDoor
open Go.RowKit

def smallB (c : Nat) : Bool := decide (97 ≤ c) && decide (c ≤ 122)
def greatB (c : Nat) : Bool := decide (65 ≤ c) && decide (c ≤ 90)
def otherB (c : Nat) : Bool := decide (48 ≤ c) && decide (c ≤ 57) || decide (c = 95)
def plainB (c : Nat) : Bool := smallB c || otherB c
def wideB (c : Nat) : Bool := plainB c || greatB c
theorem dle1 {k : Int} {c : Nat} {m : Nat} (hk : k = m) : decide (k ≤ (c : Int)) = decide (m ≤ c) := by rw [decide_eq_decide]; omega
theorem dle2 {k : Int} {c : Nat} {m : Nat} (hk : k = m) : decide ((c : Int) ≤ k) = decide (c ≤ m) := by rw [decide_eq_decide]; omega
theorem deq1 {k : Int} {c : Nat} {m : Nat} (hk : k = m) : ((c : Int) == k) = decide (c = m) := by rw [Bool.eq_iff_iff]; simp; omega

theorem small_any (c : Nat) (w : World) : Calls Tryd.prog 39 #[.int .u8 c] w fun e w' => e = .returned (.bool (smallB c)) ∧ w = w' := by
  have t1 := dle1 (k := 97) (c := c) (m := 97) rfl
  have t2 := dle2 (k := 122) (c := c) (m := 122) rfl
  have Hr : Hid (smallB c = (decide (97 ≤ c) && decide (c ≤ 122))) := Lib.hid rfl
  generalize decide (97 ≤ c) = b1 at t1 Hr
  generalize decide (c ≤ 122) = b2 at t2 Hr
  cases b1 <;> cases b2
  all_goals
    go_enter Tryd.func39, Tryd.ntmps39
    go_wp2
    go_ret
    exact ⟨ret_eq (by rw [Hr.out]; rfl), rfl⟩
theorem great_any (c : Nat) (w : World) : Calls Tryd.prog 46 #[.int .u8 c] w fun e w' => e = .returned (.bool (greatB c)) ∧ w = w' := by
  have t1 := dle1 (k := 65) (c := c) (m := 65) rfl
  have t2 := dle2 (k := 90) (c := c) (m := 90) rfl
  have Hr : Hid (greatB c = (decide (65 ≤ c) && decide (c ≤ 90))) := Lib.hid rfl
  generalize decide (65 ≤ c) = b1 at t1 Hr
  generalize decide (c ≤ 90) = b2 at t2 Hr
  cases b1 <;> cases b2
  all_goals
    go_enter Tryd.func46, Tryd.ntmps46
    go_wp2
    go_ret
    exact ⟨ret_eq (by rw [Hr.out]; rfl), rfl⟩
theorem plain_any (c : Nat) (w : World) : Calls Tryd.prog 40 #[.int .u8 c] w fun e w' => e = .returned (.bool (plainB c)) ∧ w = w' := by
  have Hs := Lib.hid (small_any c)
  have t1 := dle1 (k := 48) (c := c) (m := 48) rfl
  have t2 := dle2 (k := 57) (c := c) (m := 57) rfl
  have t3 := deq1 (k := 95) (c := c) (m := 95) rfl
  have Hr : Hid (plainB c = (smallB c || (decide (48 ≤ c) && decide (c ≤ 57) || decide (c = 95)))) := Lib.hid rfl
  generalize smallB c = b0 at Hs Hr
  generalize decide (48 ≤ c) = b1 at t1 Hr
  generalize decide (c ≤ 57) = b2 at t2 Hr
  generalize decide (c = 95) = b3 at t3 Hr
  cases b0 <;> cases b1 <;> cases b2 <;> cases b3
  all_goals
    go_enter Tryd.func40, Tryd.ntmps40
    go_wp2_with fail
    refine (Hs.out _).mono ?_
    rintro e w' ⟨rfl, rfl⟩
    go_wp2
    go_ret
    exact ⟨ret_eq (by rw [Hr.out]; rfl), rfl⟩
theorem wide_any (c : Nat) (w : World) : Calls Tryd.prog 47 #[.int .u8 c] w fun e w' => e = .returned (.bool (wideB c)) ∧ w = w' := by
  have Hs := Lib.hid (plain_any c)
  have Hg := Lib.hid (great_any c)
  have Hr : Hid (wideB c = (plainB c || greatB c)) := Lib.hid rfl
  generalize plainB c = b0 at Hs Hr
  generalize greatB c = b1 at Hg Hr
  cases b0
  · go_enter Tryd.func47, Tryd.ntmps47
    go_wp2_with fail
    refine (Hs.out _).mono ?_
    rintro e w' ⟨rfl, rfl⟩
    go_wp2_with fail
    refine (Hg.out _).mono ?_
    rintro e w' ⟨rfl, rfl⟩
    go_wp2
    go_ret
    exact ⟨ret_eq (by rw [Hr.out]; rfl), rfl⟩
  · go_enter Tryd.func47, Tryd.ntmps47
    go_wp2_with fail
    refine (Hs.out _).mono ?_
    rintro e w' ⟨rfl, rfl⟩
    go_wp2
    go_ret
    exact ⟨ret_eq (by rw [Hr.out]; rfl), rfl⟩
theorem csmall_any (c : Nat) (w : World) : Calls Tryd.prog 43 #[.int .u8 c] w fun e w' => e = .returned (.bool (smallB c)) ∧ w = w' := by
  have t1 := dle1 (k := 97) (c := c) (m := 97) rfl
  have t2 := dle2 (k := 122) (c := c) (m := 122) rfl
  have Hr : Hid (smallB c = (decide (97 ≤ c) && decide (c ≤ 122))) := Lib.hid rfl
  generalize decide (97 ≤ c) = b1 at t1 Hr
  generalize decide (c ≤ 122) = b2 at t2 Hr
  cases b1 <;> cases b2
  all_goals
    go_enter Tryd.func43, Tryd.ntmps43
    go_wp2
    go_ret
    exact ⟨ret_eq (by rw [Hr.out]; rfl), rfl⟩
theorem cgreat_any (c : Nat) (w : World) : Calls Tryd.prog 48 #[.int .u8 c] w fun e w' => e = .returned (.bool (greatB c)) ∧ w = w' := by
  have t1 := dle1 (k := 65) (c := c) (m := 65) rfl
  have t2 := dle2 (k := 90) (c := c) (m := 90) rfl
  have Hr : Hid (greatB c = (decide (65 ≤ c) && decide (c ≤ 90))) := Lib.hid rfl
  generalize decide (65 ≤ c) = b1 at t1 Hr
  generalize decide (c ≤ 90) = b2 at t2 Hr
  cases b1 <;> cases b2
  all_goals
    go_enter Tryd.func48, Tryd.ntmps48
    go_wp2
    go_ret
    exact ⟨ret_eq (by rw [Hr.out]; rfl), rfl⟩
theorem cother_any (c : Nat) (w : World) : Calls Tryd.prog 44 #[.int .u8 c] w fun e w' => e = .returned (.bool (otherB c)) ∧ w = w' := by
  have t1 := dle1 (k := 48) (c := c) (m := 48) rfl
  have t2 := dle2 (k := 57) (c := c) (m := 57) rfl
  have t3 := deq1 (k := 95) (c := c) (m := 95) rfl
  have Hr : Hid (otherB c = (decide (48 ≤ c) && decide (c ≤ 57) || decide (c = 95))) := Lib.hid rfl
  generalize decide (48 ≤ c) = b1 at t1 Hr
  generalize decide (c ≤ 57) = b2 at t2 Hr
  generalize decide (c = 95) = b3 at t3 Hr
  cases b1 <;> cases b2 <;> cases b3
  all_goals
    go_enter Tryd.func44, Tryd.ntmps44
    go_wp2
    go_ret
    exact ⟨ret_eq (by rw [Hr.out]; rfl), rfl⟩
end Go.Proofs.YtjefoojkgocinaaDoor

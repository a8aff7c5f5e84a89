/- The classes of bytes. -/
import Derived.Test.YtcbifoimfhfccaaGreatDoorLexA
import Derived.Test.YtcbifoimfhfccaaGreatDoorRegionK
import Derived.Outline
namespace Go.Proofs.YtcbifoimfhfccaaGreatDoor
open Go.RowKit

theorem dle1 {k : Int} {c : Nat} {m : Nat} (hk : k = m) : decide (k ≤ (c : Int)) = decide (m ≤ c) := by rw [decide_eq_decide]; omega
theorem dle2 {k : Int} {c : Nat} {m : Nat} (hk : k = m) : decide ((c : Int) ≤ k) = decide (c ≤ m) := by rw [decide_eq_decide]; omega
theorem deq1 {k : Int} {c : Nat} {m : Nat} (hk : k = m) : ((c : Int) == k) = decide (c = m) := by rw [Bool.eq_iff_iff]; simp; omega
theorem lxSmall_any (c : Nat) (w : World) : Calls Tryz.prog 49 #[.int .u8 c] w fun e w' => e = .returned (.bool (smallB c)) ∧ w = w' := by
  have t1 := dle1 (k := 97) (c := c) (m := 97) rfl
  have t2 := dle2 (k := 122) (c := c) (m := 122) rfl
  have Hr : Hid (smallB c = (decide (97 ≤ c) && decide (c ≤ 122))) := Lib.hid rfl
  generalize decide (97 ≤ c) = b1 at t1 Hr
  generalize decide (c ≤ 122) = b2 at t2 Hr
  cases b1 <;> cases b2
  all_goals
    go_enter Tryz.func49, Tryz.ntmps49
    go_wp2
    go_ret
    exact ⟨ret_eq (by rw [Hr.out]; rfl), rfl⟩
theorem lxGreat_any (c : Nat) (w : World) : Calls Tryz.prog 53 #[.int .u8 c] w fun e w' => e = .returned (.bool (greatB c)) ∧ w = w' := by
  have t1 := dle1 (k := 65) (c := c) (m := 65) rfl
  have t2 := dle2 (k := 90) (c := c) (m := 90) rfl
  have Hr : Hid (greatB c = (decide (65 ≤ c) && decide (c ≤ 90))) := Lib.hid rfl
  generalize decide (65 ≤ c) = b1 at t1 Hr
  generalize decide (c ≤ 90) = b2 at t2 Hr
  cases b1 <;> cases b2
  all_goals
    go_enter Tryz.func53, Tryz.ntmps53
    go_wp2
    go_ret
    exact ⟨ret_eq (by rw [Hr.out]; rfl), rfl⟩
theorem lxDigit_any (c : Nat) (w : World) : Calls Tryz.prog 54 #[.int .u8 c] w fun e w' => e = .returned (.bool (digitB c)) ∧ w = w' := by
  have t1 := dle1 (k := 48) (c := c) (m := 48) rfl
  have t2 := dle2 (k := 57) (c := c) (m := 57) rfl
  have Hr : Hid (digitB c = (decide (48 ≤ c) && decide (c ≤ 57))) := Lib.hid rfl
  generalize decide (48 ≤ c) = b1 at t1 Hr
  generalize decide (c ≤ 57) = b2 at t2 Hr
  cases b1 <;> cases b2
  all_goals
    go_enter Tryz.func54, Tryz.ntmps54
    go_wp2
    go_ret
    exact ⟨ret_eq (by rw [Hr.out]; rfl), rfl⟩
theorem rfSmall_any (c : Nat) (w : World) : Calls Tryz.prog 65 #[.int .u8 c] w fun e w' => e = .returned (.bool (smallB c)) ∧ w = w' := by
  have t1 := dle1 (k := 97) (c := c) (m := 97) rfl
  have t2 := dle2 (k := 122) (c := c) (m := 122) rfl
  have Hr : Hid (smallB c = (decide (97 ≤ c) && decide (c ≤ 122))) := Lib.hid rfl
  generalize decide (97 ≤ c) = b1 at t1 Hr
  generalize decide (c ≤ 122) = b2 at t2 Hr
  cases b1 <;> cases b2
  all_goals
    go_enter Tryz.func65, Tryz.ntmps65
    go_wp2
    go_ret
    exact ⟨ret_eq (by rw [Hr.out]; rfl), rfl⟩
theorem rfGreat_any (c : Nat) (w : World) : Calls Tryz.prog 66 #[.int .u8 c] w fun e w' => e = .returned (.bool (greatB c)) ∧ w = w' := by
  have t1 := dle1 (k := 65) (c := c) (m := 65) rfl
  have t2 := dle2 (k := 90) (c := c) (m := 90) rfl
  have Hr : Hid (greatB c = (decide (65 ≤ c) && decide (c ≤ 90))) := Lib.hid rfl
  generalize decide (65 ≤ c) = b1 at t1 Hr
  generalize decide (c ≤ 90) = b2 at t2 Hr
  cases b1 <;> cases b2
  all_goals
    go_enter Tryz.func66, Tryz.ntmps66
    go_wp2
    go_ret
    exact ⟨ret_eq (by rw [Hr.out]; rfl), rfl⟩
theorem rfDigit_any (c : Nat) (w : World) : Calls Tryz.prog 69 #[.int .u8 c] w fun e w' => e = .returned (.bool (digitB c)) ∧ w = w' := by
  have t1 := dle1 (k := 48) (c := c) (m := 48) rfl
  have t2 := dle2 (k := 57) (c := c) (m := 57) rfl
  have Hr : Hid (digitB c = (decide (48 ≤ c) && decide (c ≤ 57))) := Lib.hid rfl
  generalize decide (48 ≤ c) = b1 at t1 Hr
  generalize decide (c ≤ 57) = b2 at t2 Hr
  cases b1 <;> cases b2
  all_goals
    go_enter Tryz.func69, Tryz.ntmps69
    go_wp2
    go_ret
    exact ⟨ret_eq (by rw [Hr.out]; rfl), rfl⟩
theorem lxBlank_any (c : Nat) (w : World) : Calls Tryz.prog 23 #[.int .u8 c] w fun e w' => e = .returned (.bool (blankB c)) ∧ w = w' := by
  have t32 := deq1 (k := 32) (c := c) (m := 32) rfl
  have t10 := deq1 (k := 10) (c := c) (m := 10) rfl
  have t9 := deq1 (k := 9) (c := c) (m := 9) rfl
  have t13 := deq1 (k := 13) (c := c) (m := 13) rfl
  have Hr : Hid (blankB c = (decide (c = 32) || decide (c = 10) || decide (c = 9) || decide (c = 13))) := Lib.hid rfl
  generalize decide (c = 32) = b32 at t32 Hr
  generalize decide (c = 10) = b10 at t10 Hr
  generalize decide (c = 9) = b9 at t9 Hr
  generalize decide (c = 13) = b13 at t13 Hr
  cases b32 <;> cases b10 <;> cases b9 <;> cases b13
  all_goals
    go_enter Tryz.func23, Tryz.ntmps23
    go_wp2
    go_ret
    exact ⟨ret_eq (by rw [Hr.out]; rfl), rfl⟩
theorem rfBlank_any (c : Nat) (w : World) : Calls Tryz.prog 35 #[.int .u8 c] w fun e w' => e = .returned (.bool (blankB c)) ∧ w = w' := by
  have t9 := deq1 (k := 9) (c := c) (m := 9) rfl
  have t10 := deq1 (k := 10) (c := c) (m := 10) rfl
  have t13 := deq1 (k := 13) (c := c) (m := 13) rfl
  have t32 := deq1 (k := 32) (c := c) (m := 32) rfl
  have Hr : Hid (blankB c = (decide (c = 32) || decide (c = 10) || decide (c = 9) || decide (c = 13))) := Lib.hid rfl
  generalize decide (c = 9) = b9 at t9 Hr
  generalize decide (c = 10) = b10 at t10 Hr
  generalize decide (c = 13) = b13 at t13 Hr
  generalize decide (c = 32) = b32 at t32 Hr
  cases b9 <;> cases b10 <;> cases b13 <;> cases b32
  all_goals
    go_enter Tryz.func35, Tryz.ntmps35
    go_wp2
    go_ret
    exact ⟨ret_eq (by rw [Hr.out]; rfl), rfl⟩
theorem lxRow_any (c : Nat) (w : World) : Calls Tryz.prog 77 #[.int .u8 c] w fun e w' => e = .returned (.bool (rowB c)) ∧ w = w' := by
  have H1 := Lib.hid (lxSmall_any c)
  have H2 := Lib.hid (lxGreat_any c)
  have H3 := Lib.hid (lxDigit_any c)
  have t4 := deq1 (k := 95) (c := c) (m := 95) rfl
  have Hr : Hid (rowB c = (smallB c || greatB c || digitB c || decide (c = 95))) := Lib.hid rfl
  generalize smallB c = b1 at H1 Hr
  generalize greatB c = b2 at H2 Hr
  generalize digitB c = b3 at H3 Hr
  generalize decide (c = 95) = b4 at t4 Hr
  cases b1
  case true =>
    go_enter Tryz.func77, Tryz.ntmps77
    go_wp2_with fail
    refine (H1.out _).mono ?_
    rintro e w' ⟨rfl, rfl⟩
    go_wp2
    go_ret
    exact ⟨ret_eq (by rw [Hr.out]; rfl), rfl⟩
  cases b2
  case true =>
    go_enter Tryz.func77, Tryz.ntmps77
    go_wp2_with fail
    refine (H1.out _).mono ?_
    rintro e w' ⟨rfl, rfl⟩
    go_wp2_with fail
    refine (H2.out _).mono ?_
    rintro e w' ⟨rfl, rfl⟩
    go_wp2
    go_ret
    exact ⟨ret_eq (by rw [Hr.out]; rfl), rfl⟩
  cases b3
  case true =>
    go_enter Tryz.func77, Tryz.ntmps77
    go_wp2_with fail
    refine (H1.out _).mono ?_
    rintro e w' ⟨rfl, rfl⟩
    go_wp2_with fail
    refine (H2.out _).mono ?_
    rintro e w' ⟨rfl, rfl⟩
    go_wp2_with fail
    refine (H3.out _).mono ?_
    rintro e w' ⟨rfl, rfl⟩
    go_wp2
    go_ret
    exact ⟨ret_eq (by rw [Hr.out]; rfl), rfl⟩
  cases b4
  all_goals
    go_enter Tryz.func77, Tryz.ntmps77
    go_wp2_with fail
    refine (H1.out _).mono ?_
    rintro e w' ⟨rfl, rfl⟩
    go_wp2_with fail
    refine (H2.out _).mono ?_
    rintro e w' ⟨rfl, rfl⟩
    go_wp2_with fail
    refine (H3.out _).mono ?_
    rintro e w' ⟨rfl, rfl⟩
    go_wp2
    go_ret
    exact ⟨ret_eq (by rw [Hr.out]; rfl), rfl⟩
theorem rfRow_any (c : Nat) (w : World) : Calls Tryz.prog 86 #[.int .u8 c] w fun e w' => e = .returned (.bool (rowB c)) ∧ w = w' := by
  have H1 := Lib.hid (rfSmall_any c)
  have H2 := Lib.hid (rfGreat_any c)
  have H3 := Lib.hid (rfDigit_any c)
  have t4 := deq1 (k := 95) (c := c) (m := 95) rfl
  have Hr : Hid (rowB c = (smallB c || greatB c || digitB c || decide (c = 95))) := Lib.hid rfl
  generalize smallB c = b1 at H1 Hr
  generalize greatB c = b2 at H2 Hr
  generalize digitB c = b3 at H3 Hr
  generalize decide (c = 95) = b4 at t4 Hr
  cases b1
  case true =>
    go_enter Tryz.func86, Tryz.ntmps86
    go_wp2_with fail
    refine (H1.out _).mono ?_
    rintro e w' ⟨rfl, rfl⟩
    go_wp2
    go_ret
    exact ⟨ret_eq (by rw [Hr.out]; rfl), rfl⟩
  cases b2
  case true =>
    go_enter Tryz.func86, Tryz.ntmps86
    go_wp2_with fail
    refine (H1.out _).mono ?_
    rintro e w' ⟨rfl, rfl⟩
    go_wp2_with fail
    refine (H2.out _).mono ?_
    rintro e w' ⟨rfl, rfl⟩
    go_wp2
    go_ret
    exact ⟨ret_eq (by rw [Hr.out]; rfl), rfl⟩
  cases b3
  case true =>
    go_enter Tryz.func86, Tryz.ntmps86
    go_wp2_with fail
    refine (H1.out _).mono ?_
    rintro e w' ⟨rfl, rfl⟩
    go_wp2_with fail
    refine (H2.out _).mono ?_
    rintro e w' ⟨rfl, rfl⟩
    go_wp2_with fail
    refine (H3.out _).mono ?_
    rintro e w' ⟨rfl, rfl⟩
    go_wp2
    go_ret
    exact ⟨ret_eq (by rw [Hr.out]; rfl), rfl⟩
  cases b4
  all_goals
    go_enter Tryz.func86, Tryz.ntmps86
    go_wp2_with fail
    refine (H1.out _).mono ?_
    rintro e w' ⟨rfl, rfl⟩
    go_wp2_with fail
    refine (H2.out _).mono ?_
    rintro e w' ⟨rfl, rfl⟩
    go_wp2_with fail
    refine (H3.out _).mono ?_
    rintro e w' ⟨rfl, rfl⟩
    go_wp2
    go_ret
    exact ⟨ret_eq (by rw [Hr.out]; rfl), rfl⟩
end Go.Proofs.YtcbifoimfhfccaaGreatDoor

/- The walks of tree's small functions on names. The walks of tree.letters, Name, TypeName. -/
import Derived.Test.YtoophdcagpfmpaaGreatDoorRows
import Derived.Test.YtoophdcagpfmpaaGreatDoorLib
import Derived.Test.YtoophdcagpfmpaaGreatDoorMg03
import Derived.Outline
namespace Go.Proofs.YtoophdcagpfmpaaGreatDoor
open Go.RowKit

def smallB (c : Nat) : Bool := decide (97 ≤ c) && decide (c ≤ 122)
def greatB (c : Nat) : Bool := decide (65 ≤ c) && decide (c ≤ 90)
def otherB (c : Nat) : Bool := decide (48 ≤ c) && decide (c ≤ 57) || decide (c = 95)
def plainB (c : Nat) : Bool := smallB c || otherB c
def wideB (c : Nat) : Bool := plainB c || greatB c
theorem dle1 {k : Int} {c : Nat} {m : Nat} (hk : k = m) : decide (k ≤ (c : Int)) = decide (m ≤ c) := by rw [decide_eq_decide]; omega
theorem dle2 {k : Int} {c : Nat} {m : Nat} (hk : k = m) : decide ((c : Int) ≤ k) = decide (c ≤ m) := by rw [decide_eq_decide]; omega
theorem deq1 {k : Int} {c : Nat} {m : Nat} (hk : k = m) : ((c : Int) == k) = decide (c = m) := by rw [Bool.eq_iff_iff]; simp; omega

theorem small_any (c : Nat) (w : World) : Calls Tryz.prog 185 #[.int .u8 c] w fun e w' => e = .returned (.bool (smallB c)) ∧ w = w' := by
  have t1 := dle1 (k := 97) (c := c) (m := 97) rfl
  have t2 := dle2 (k := 122) (c := c) (m := 122) rfl
  have Hr : Hid (smallB c = (decide (97 ≤ c) && decide (c ≤ 122))) := Lib.hid rfl
  generalize decide (97 ≤ c) = b1 at t1 Hr
  generalize decide (c ≤ 122) = b2 at t2 Hr
  cases b1 <;> cases b2
  all_goals
    go_enter Tryz.func185, Tryz.ntmps185
    go_wp2
    go_ret
    exact ⟨ret_eq (by rw [Hr.out]; rfl), rfl⟩
theorem great_any (c : Nat) (w : World) : Calls Tryz.prog 190 #[.int .u8 c] w fun e w' => e = .returned (.bool (greatB c)) ∧ w = w' := by
  have t1 := dle1 (k := 65) (c := c) (m := 65) rfl
  have t2 := dle2 (k := 90) (c := c) (m := 90) rfl
  have Hr : Hid (greatB c = (decide (65 ≤ c) && decide (c ≤ 90))) := Lib.hid rfl
  generalize decide (65 ≤ c) = b1 at t1 Hr
  generalize decide (c ≤ 90) = b2 at t2 Hr
  cases b1 <;> cases b2
  all_goals
    go_enter Tryz.func190, Tryz.ntmps190
    go_wp2
    go_ret
    exact ⟨ret_eq (by rw [Hr.out]; rfl), rfl⟩
theorem plain_any (c : Nat) (w : World) : Calls Tryz.prog 186 #[.int .u8 c] w fun e w' => e = .returned (.bool (plainB c)) ∧ w = w' := by
  have Hs := Lib.hid (small_any c)
  have t1 := dle1 (k := 48) (c := c) (m := 48) rfl
  have t2 := dle2 (k := 57) (c := c) (m := 57) rfl
  have t3 := deq1 (k := 95) (c := c) (m := 95) rfl
  have Hr : Hid (plainB c = (smallB c || (decide (48 ≤ c) && decide (c ≤ 57) || decide (c = 95)))) := Lib.hid rfl
  generalize smallB c = b0 at Hs Hr
  generalize decide (48 ≤ c) = b1 at t1 Hr
  generalize decide (c ≤ 57) = b2 at t2 Hr
  generalize decide (c = 95) = b3 at t3 Hr
  cases b0 <;> cases b1 <;> cases b2 <;> cases b3
  all_goals
    go_enter Tryz.func186, Tryz.ntmps186
    go_wp2_with fail
    refine (Hs.out _).mono ?_
    rintro e w' ⟨rfl, rfl⟩
    go_wp2
    go_ret
    exact ⟨ret_eq (by rw [Hr.out]; rfl), rfl⟩
theorem wide_any (c : Nat) (w : World) : Calls Tryz.prog 191 #[.int .u8 c] w fun e w' => e = .returned (.bool (wideB c)) ∧ w = w' := by
  have Hs := Lib.hid (plain_any c)
  have Hg := Lib.hid (great_any c)
  have Hr : Hid (wideB c = (plainB c || greatB c)) := Lib.hid rfl
  generalize plainB c = b0 at Hs Hr
  generalize greatB c = b1 at Hg Hr
  cases b0
  · go_enter Tryz.func191, Tryz.ntmps191
    go_wp2_with fail
    refine (Hs.out _).mono ?_
    rintro e w' ⟨rfl, rfl⟩
    go_wp2_with fail
    refine (Hg.out _).mono ?_
    rintro e w' ⟨rfl, rfl⟩
    go_wp2
    go_ret
    exact ⟨ret_eq (by rw [Hr.out]; rfl), rfl⟩
  · go_enter Tryz.func191, Tryz.ntmps191
    go_wp2_with fail
    refine (Hs.out _).mono ?_
    rintro e w' ⟨rfl, rfl⟩
    go_wp2
    go_ret
    exact ⟨ret_eq (by rw [Hr.out]; rfl), rfl⟩
theorem csmall_any (c : Nat) (w : World) : Calls Tryz.prog 179 #[.int .u8 c] w fun e w' => e = .returned (.bool (smallB c)) ∧ w = w' := by
  have t1 := dle1 (k := 97) (c := c) (m := 97) rfl
  have t2 := dle2 (k := 122) (c := c) (m := 122) rfl
  have Hr : Hid (smallB c = (decide (97 ≤ c) && decide (c ≤ 122))) := Lib.hid rfl
  generalize decide (97 ≤ c) = b1 at t1 Hr
  generalize decide (c ≤ 122) = b2 at t2 Hr
  cases b1 <;> cases b2
  all_goals
    go_enter Tryz.func179, Tryz.ntmps179
    go_wp2
    go_ret
    exact ⟨ret_eq (by rw [Hr.out]; rfl), rfl⟩
theorem cgreat_any (c : Nat) (w : World) : Calls Tryz.prog 178 #[.int .u8 c] w fun e w' => e = .returned (.bool (greatB c)) ∧ w = w' := by
  have t1 := dle1 (k := 65) (c := c) (m := 65) rfl
  have t2 := dle2 (k := 90) (c := c) (m := 90) rfl
  have Hr : Hid (greatB c = (decide (65 ≤ c) && decide (c ≤ 90))) := Lib.hid rfl
  generalize decide (65 ≤ c) = b1 at t1 Hr
  generalize decide (c ≤ 90) = b2 at t2 Hr
  cases b1 <;> cases b2
  all_goals
    go_enter Tryz.func178, Tryz.ntmps178
    go_wp2
    go_ret
    exact ⟨ret_eq (by rw [Hr.out]; rfl), rfl⟩
theorem cother_any (c : Nat) (w : World) : Calls Tryz.prog 180 #[.int .u8 c] w fun e w' => e = .returned (.bool (otherB c)) ∧ w = w' := by
  have t1 := dle1 (k := 48) (c := c) (m := 48) rfl
  have t2 := dle2 (k := 57) (c := c) (m := 57) rfl
  have t3 := deq1 (k := 95) (c := c) (m := 95) rfl
  have Hr : Hid (otherB c = (decide (48 ≤ c) && decide (c ≤ 57) || decide (c = 95))) := Lib.hid rfl
  generalize decide (48 ≤ c) = b1 at t1 Hr
  generalize decide (c ≤ 57) = b2 at t2 Hr
  generalize decide (c = 95) = b3 at t3 Hr
  cases b1 <;> cases b2 <;> cases b3
  all_goals
    go_enter Tryz.func180, Tryz.ntmps180
    go_wp2
    go_ret
    exact ⟨ret_eq (by rw [Hr.out]; rfl), rfl⟩
end Go.Proofs.YtoophdcagpfmpaaGreatDoor

namespace Go.Proofs.YtoophdcagpfmpaaGreatDoor
open Go.RowKit

/-- The byte at a place, as a number. -/
def byteAt (s : ByteArray) (k : Nat) : Nat := (s.data.toList.getD k 0).toNat
theorem byteAt_eq (s : ByteArray) (k : Nat) (h : k < s.size) : (s[k]'h).toNat = byteAt s k := by
  unfold byteAt
  rw [List.getD_eq_getElem?_getD, List.getElem?_eq_getElem (by simpa using h)]; rfl
/-- Is a text from 1 to 32 bytes long, its first byte of one class, all of another one? -/
def lettersB (first all : Nat → Bool) (s : ByteArray) : Bool :=
  decide (1 ≤ s.size) && decide (s.size ≤ 32) && first (byteAt s 0) && (List.range s.size).all fun k => all (byteAt s k)
theorem isEmpty_size (s : ByteArray) : s.toList.isEmpty = decide (s.size = 0) := by
  rw [ByteArray.toList_eq, Bool.eq_iff_iff, List.isEmpty_iff, decide_eq_true_iff]
  exact ⟨fun h => by show s.data.size = 0; rw [← Array.length_toList, h]; rfl, fun h => List.eq_nil_of_length_eq_zero (by rw [Array.length_toList]; exact h)⟩

set_option maxRecDepth 100000 in
set_option maxHeartbeats 1000000 in
theorem letters_small (s : ByteArray) (w : World) (hs : s.size ≤ 9223372036854775807) :
    Calls Tryz.prog 184 #[.string s, .func (.func 185) #[] #[], .func (.func 186) #[] #[]] w fun e w' => e = .returned (.bool (lettersB smallB plainB s)) ∧ w = w' := by
  obtain ⟨r, hr⟩ : ∃ r, r = lettersB smallB plainB s := ⟨_, rfl⟩
  rw [← hr]
  have HR := Lib.hid hr
  clear hr
  have t0 := isEmpty_size s
  by_cases h0 : s.size = 0
  · have hr : Hid (r = false) := Lib.hid (by rw [HR.out]; simp [lettersB, h0])
    rw [decide_eq_true h0] at t0
    clear h0
    go_enter Tryz.func184, Tryz.ntmps184
    go_wp2_with fail
    go_ret
    exact ⟨ret_eq (by rw [hr.out]; rfl), rfl⟩
  · rw [decide_eq_false h0] at t0
    by_cases h1 : 32 < s.size
    · have hr : Hid (r = false) := Lib.hid (by rw [HR.out]; simp [lettersB, show ¬ s.size ≤ 32 by omega])
      have t1 : decide ((32 : Int) < (s.size : Int)) = true := by simp; omega
      clear h0 h1
      go_enter Tryz.func184, Tryz.ntmps184
      go_wp2_with fail
      go_ret
      exact ⟨ret_eq (by rw [hr.out]; rfl), rfl⟩
    · have t1 : decide ((32 : Int) < (s.size : Int)) = false := by simp; omega
      have hpos : 0 < s.size := by omega
      have hc0 := Lib.hid (small_any (byteAt s 0))
      have hb0 := byteAt_eq s 0 hpos
      cases hf : smallB (byteAt s 0)
      · have hr : Hid (r = false) := Lib.hid (by rw [HR.out]; simp [lettersB, hf])
        rw [hf] at hc0
        clear h0 h1 hf
        go_enter Tryz.func184, Tryz.ntmps184
        go_wp2_with fail
        refine (hc0.out _).mono ?_
        rintro e w' ⟨rfl, rfl⟩
        go_wp2_with fail
        go_ret
        exact ⟨ret_eq (by rw [hr.out]; rfl), rfl⟩
      · rw [hf] at hc0
        have hr : Hid (r = (List.range s.size).all fun k => plainB (byteAt s k)) := Lib.hid (by rw [HR.out]; simp [lettersB, hf, show 1 ≤ s.size by omega, show s.size ≤ 32 by omega])
        clear hf h0
        go_enter Tryz.func184, Tryz.ntmps184
        go_wp2_with fail
        refine (hc0.out _).mono ?_
        rintro e w' ⟨rfl, rfl⟩
        clear hb0
        go_wp2_with fail
        go_loop [24] (fun i => ∃ k : Nat, k ≤ s.size ∧ i = .int .i64 k ∧ Hid (∀ j, j < k → plainB (byteAt s j) = true)) (fun i => s.size - (intOf i).toNat)
        case atStart => exact ⟨0, by omega, rfl, fun j hj => by omega⟩
        case round =>
          obtain ⟨k, hk, rfl, hj⟩ := hrel
          by_cases hlt : k < s.size
          · have hck := Lib.hid (plain_any (byteAt s k))
            have hbk := byteAt_eq s k hlt
            cases hf : plainB (byteAt s k)
            · have hr2 : Hid (r = false) := Lib.hid (by
                rw [hr.out, List.all_eq_false]
                exact ⟨k, by simpa using hlt, by simp [hf]⟩)
              rw [hf] at hck
              clear hf
              go_wp2_with fail
              refine (hck.out _).mono ?_
              rintro e w' ⟨rfl, rfl⟩
              go_wp2
              go_ret
              exact ⟨ret_eq (by rw [hr2.out]; rfl), rfl⟩
            · rw [hf] at hck
              have hj' : Hid (∀ j, j < k + 1 → plainB (byteAt s j) = true) := Lib.hid fun j h => by
                by_cases e : j = k
                · subst e; exact hf
                · exact hj.out j (by omega)
              clear hf hj
              go_wp2_with fail
              refine (hck.out _).mono ?_
              rintro e w' ⟨rfl, rfl⟩
              go_wp2
              go_round
              case rel => exact ⟨k + 1, by omega, by go_num, hj'⟩
              case measure => simp [intOf]; omega
          · obtain rfl : k = s.size := by omega
            have hr2 : Hid (r = true) := Lib.hid (by
              rw [hr.out, List.all_eq_true]
              intro j hj2
              exact hj.out j (by simpa using hj2))
            go_wp2
            go_ret
            exact ⟨ret_eq (by rw [hr2.out]; rfl), rfl⟩

set_option maxRecDepth 100000 in
set_option maxHeartbeats 1000000 in
theorem letters_great (s : ByteArray) (w : World) (hs : s.size ≤ 9223372036854775807) :
    Calls Tryz.prog 184 #[.string s, .func (.func 190) #[] #[], .func (.func 191) #[] #[]] w fun e w' => e = .returned (.bool (lettersB greatB wideB s)) ∧ w = w' := by
  obtain ⟨r, hr⟩ : ∃ r, r = lettersB greatB wideB s := ⟨_, rfl⟩
  rw [← hr]
  have HR := Lib.hid hr
  clear hr
  have t0 := isEmpty_size s
  by_cases h0 : s.size = 0
  · have hr : Hid (r = false) := Lib.hid (by rw [HR.out]; simp [lettersB, h0])
    rw [decide_eq_true h0] at t0
    clear h0
    go_enter Tryz.func184, Tryz.ntmps184
    go_wp2_with fail
    go_ret
    exact ⟨ret_eq (by rw [hr.out]; rfl), rfl⟩
  · rw [decide_eq_false h0] at t0
    by_cases h1 : 32 < s.size
    · have hr : Hid (r = false) := Lib.hid (by rw [HR.out]; simp [lettersB, show ¬ s.size ≤ 32 by omega])
      have t1 : decide ((32 : Int) < (s.size : Int)) = true := by simp; omega
      clear h0 h1
      go_enter Tryz.func184, Tryz.ntmps184
      go_wp2_with fail
      go_ret
      exact ⟨ret_eq (by rw [hr.out]; rfl), rfl⟩
    · have t1 : decide ((32 : Int) < (s.size : Int)) = false := by simp; omega
      have hpos : 0 < s.size := by omega
      have hc0 := Lib.hid (great_any (byteAt s 0))
      have hb0 := byteAt_eq s 0 hpos
      cases hf : greatB (byteAt s 0)
      · have hr : Hid (r = false) := Lib.hid (by rw [HR.out]; simp [lettersB, hf])
        rw [hf] at hc0
        clear h0 h1 hf
        go_enter Tryz.func184, Tryz.ntmps184
        go_wp2_with fail
        refine (hc0.out _).mono ?_
        rintro e w' ⟨rfl, rfl⟩
        go_wp2_with fail
        go_ret
        exact ⟨ret_eq (by rw [hr.out]; rfl), rfl⟩
      · rw [hf] at hc0
        have hr : Hid (r = (List.range s.size).all fun k => wideB (byteAt s k)) := Lib.hid (by rw [HR.out]; simp [lettersB, hf, show 1 ≤ s.size by omega, show s.size ≤ 32 by omega])
        clear hf h0
        go_enter Tryz.func184, Tryz.ntmps184
        go_wp2_with fail
        refine (hc0.out _).mono ?_
        rintro e w' ⟨rfl, rfl⟩
        clear hb0
        go_wp2_with fail
        go_loop [24] (fun i => ∃ k : Nat, k ≤ s.size ∧ i = .int .i64 k ∧ Hid (∀ j, j < k → wideB (byteAt s j) = true)) (fun i => s.size - (intOf i).toNat)
        case atStart => exact ⟨0, by omega, rfl, fun j hj => by omega⟩
        case round =>
          obtain ⟨k, hk, rfl, hj⟩ := hrel
          by_cases hlt : k < s.size
          · have hck := Lib.hid (wide_any (byteAt s k))
            have hbk := byteAt_eq s k hlt
            cases hf : wideB (byteAt s k)
            · have hr2 : Hid (r = false) := Lib.hid (by
                rw [hr.out, List.all_eq_false]
                exact ⟨k, by simpa using hlt, by simp [hf]⟩)
              rw [hf] at hck
              clear hf
              go_wp2_with fail
              refine (hck.out _).mono ?_
              rintro e w' ⟨rfl, rfl⟩
              go_wp2
              go_ret
              exact ⟨ret_eq (by rw [hr2.out]; rfl), rfl⟩
            · rw [hf] at hck
              have hj' : Hid (∀ j, j < k + 1 → wideB (byteAt s j) = true) := Lib.hid fun j h => by
                by_cases e : j = k
                · subst e; exact hf
                · exact hj.out j (by omega)
              clear hf hj
              go_wp2_with fail
              refine (hck.out _).mono ?_
              rintro e w' ⟨rfl, rfl⟩
              go_wp2
              go_round
              case rel => exact ⟨k + 1, by omega, by go_num, hj'⟩
              case measure => simp [intOf]; omega
          · obtain rfl : k = s.size := by omega
            have hr2 : Hid (r = true) := Lib.hid (by
              rw [hr.out, List.all_eq_true]
              intro j hj2
              exact hj.out j (by simpa using hj2))
            go_wp2
            go_ret
            exact ⟨ret_eq (by rw [hr2.out]; rfl), rfl⟩

end Go.Proofs.YtoophdcagpfmpaaGreatDoor

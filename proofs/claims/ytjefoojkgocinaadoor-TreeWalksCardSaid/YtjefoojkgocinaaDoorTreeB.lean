/- The walks of tree.letters, Name, TypeName. -/
import Derived.Test.YtjefoojkgocinaaDoorTreeA
namespace Go.Proofs.YtjefoojkgocinaaDoor
open Go.RowKit

/-- The byte at a place, as a number. -/
def byteAt (s : ByteArray) (k : Nat) : Nat := (s.data.toList.getD k 0).toNat
theorem byteAt_eq (s : ByteArray) (k : Nat) (h : k < s.size) : (s[k]'h).toNat = byteAt s k := by
  unfold byteAt
  rw [List.getD_eq_getElem?_getD, List.getElem?_eq_getElem (by simpa using h)]; rfl
/-- Is a text from 1 to 32 bytes long, its first byte of one class, all of another one? -/
def lettersB (first all : Nat → Bool) (s : ByteArray) : Bool :=
  decide (1 ≤ s.size) && decide (s.size ≤ 32) && first (byteAt s 0) && (List.range s.size).all fun k => all (byteAt s k)
theorem isEmpty_size (s : ByteArray) : s.toList.isEmpty = decide (s.size = 0) := by
  rw [ByteArray.toList_eq, Bool.eq_iff_iff, List.isEmpty_iff, decide_eq_true_iff]
  exact ⟨fun h => by show s.data.size = 0; rw [← Array.length_toList, h]; rfl, fun h => List.eq_nil_of_length_eq_zero (by rw [Array.length_toList]; exact h)⟩

set_option maxRecDepth 100000 in
set_option maxHeartbeats 1000000 in
theorem letters_small (s : ByteArray) (w : World) (hs : s.size ≤ 9223372036854775807) :
    Calls Tryd.prog 38 #[.string s, .func (.func 39) #[] #[], .func (.func 40) #[] #[]] w fun e w' => e = .returned (.bool (lettersB smallB plainB s)) ∧ w = w' := by
  obtain ⟨r, hr⟩ : ∃ r, r = lettersB smallB plainB s := ⟨_, rfl⟩
  rw [← hr]
  have HR := Lib.hid hr
  clear hr
  have t0 := isEmpty_size s
  by_cases h0 : s.size = 0
  · have hr : Hid (r = false) := Lib.hid (by rw [HR.out]; simp [lettersB, h0])
    rw [decide_eq_true h0] at t0
    clear h0
    go_enter Tryd.func38, Tryd.ntmps38
    go_wp2_with fail
    go_ret
    exact ⟨ret_eq (by rw [hr.out]; rfl), rfl⟩
  · rw [decide_eq_false h0] at t0
    by_cases h1 : 32 < s.size
    · have hr : Hid (r = false) := Lib.hid (by rw [HR.out]; simp [lettersB, show ¬ s.size ≤ 32 by omega])
      have t1 : decide ((32 : Int) < (s.size : Int)) = true := by simp; omega
      clear h0 h1
      go_enter Tryd.func38, Tryd.ntmps38
      go_wp2_with fail
      go_ret
      exact ⟨ret_eq (by rw [hr.out]; rfl), rfl⟩
    · have t1 : decide ((32 : Int) < (s.size : Int)) = false := by simp; omega
      have hpos : 0 < s.size := by omega
      have hc0 := Lib.hid (small_any (byteAt s 0))
      have hb0 := byteAt_eq s 0 hpos
      cases hf : smallB (byteAt s 0)
      · have hr : Hid (r = false) := Lib.hid (by rw [HR.out]; simp [lettersB, hf])
        rw [hf] at hc0
        clear h0 h1 hf
        go_enter Tryd.func38, Tryd.ntmps38
        go_wp2_with fail
        refine (hc0.out _).mono ?_
        rintro e w' ⟨rfl, rfl⟩
        go_wp2_with fail
        go_ret
        exact ⟨ret_eq (by rw [hr.out]; rfl), rfl⟩
      · rw [hf] at hc0
        have hr : Hid (r = (List.range s.size).all fun k => plainB (byteAt s k)) := Lib.hid (by rw [HR.out]; simp [lettersB, hf, show 1 ≤ s.size by omega, show s.size ≤ 32 by omega])
        clear hf h0
        go_enter Tryd.func38, Tryd.ntmps38
        go_wp2_with fail
        refine (hc0.out _).mono ?_
        rintro e w' ⟨rfl, rfl⟩
        clear hb0
        go_wp2_with fail
        go_loop [24] (fun i => ∃ k : Nat, k ≤ s.size ∧ i = .int .i64 k ∧ Hid (∀ j, j < k → plainB (byteAt s j) = true)) (fun i => s.size - (intOf i).toNat)
        case atStart => exact ⟨0, by omega, rfl, fun j hj => by omega⟩
        case round =>
          obtain ⟨k, hk, rfl, hj⟩ := hrel
          by_cases hlt : k < s.size
          · have hck := Lib.hid (plain_any (byteAt s k))
            have hbk := byteAt_eq s k hlt
            cases hf : plainB (byteAt s k)
            · have hr2 : Hid (r = false) := Lib.hid (by
                rw [hr.out, List.all_eq_false]
                exact ⟨k, by simpa using hlt, by simp [hf]⟩)
              rw [hf] at hck
              clear hf
              go_wp2_with fail
              refine (hck.out _).mono ?_
              rintro e w' ⟨rfl, rfl⟩
              go_wp2
              go_ret
              exact ⟨ret_eq (by rw [hr2.out]; rfl), rfl⟩
            · rw [hf] at hck
              have hj' : Hid (∀ j, j < k + 1 → plainB (byteAt s j) = true) := Lib.hid fun j h => by
                by_cases e : j = k
                · subst e; exact hf
                · exact hj.out j (by omega)
              clear hf hj
              go_wp2_with fail
              refine (hck.out _).mono ?_
              rintro e w' ⟨rfl, rfl⟩
              go_wp2
              go_round
              case rel => exact ⟨k + 1, by omega, by go_num, hj'⟩
              case measure => simp [intOf]; omega
          · obtain rfl : k = s.size := by omega
            have hr2 : Hid (r = true) := Lib.hid (by
              rw [hr.out, List.all_eq_true]
              intro j hj2
              exact hj.out j (by simpa using hj2))
            go_wp2
            go_ret
            exact ⟨ret_eq (by rw [hr2.out]; rfl), rfl⟩

set_option maxRecDepth 100000 in
set_option maxHeartbeats 1000000 in
theorem letters_great (s : ByteArray) (w : World) (hs : s.size ≤ 9223372036854775807) :
    Calls Tryd.prog 38 #[.string s, .func (.func 46) #[] #[], .func (.func 47) #[] #[]] w fun e w' => e = .returned (.bool (lettersB greatB wideB s)) ∧ w = w' := by
  obtain ⟨r, hr⟩ : ∃ r, r = lettersB greatB wideB s := ⟨_, rfl⟩
  rw [← hr]
  have HR := Lib.hid hr
  clear hr
  have t0 := isEmpty_size s
  by_cases h0 : s.size = 0
  · have hr : Hid (r = false) := Lib.hid (by rw [HR.out]; simp [lettersB, h0])
    rw [decide_eq_true h0] at t0
    clear h0
    go_enter Tryd.func38, Tryd.ntmps38
    go_wp2_with fail
    go_ret
    exact ⟨ret_eq (by rw [hr.out]; rfl), rfl⟩
  · rw [decide_eq_false h0] at t0
    by_cases h1 : 32 < s.size
    · have hr : Hid (r = false) := Lib.hid (by rw [HR.out]; simp [lettersB, show ¬ s.size ≤ 32 by omega])
      have t1 : decide ((32 : Int) < (s.size : Int)) = true := by simp; omega
      clear h0 h1
      go_enter Tryd.func38, Tryd.ntmps38
      go_wp2_with fail
      go_ret
      exact ⟨ret_eq (by rw [hr.out]; rfl), rfl⟩
    · have t1 : decide ((32 : Int) < (s.size : Int)) = false := by simp; omega
      have hpos : 0 < s.size := by omega
      have hc0 := Lib.hid (great_any (byteAt s 0))
      have hb0 := byteAt_eq s 0 hpos
      cases hf : greatB (byteAt s 0)
      · have hr : Hid (r = false) := Lib.hid (by rw [HR.out]; simp [lettersB, hf])
        rw [hf] at hc0
        clear h0 h1 hf
        go_enter Tryd.func38, Tryd.ntmps38
        go_wp2_with fail
        refine (hc0.out _).mono ?_
        rintro e w' ⟨rfl, rfl⟩
        go_wp2_with fail
        go_ret
        exact ⟨ret_eq (by rw [hr.out]; rfl), rfl⟩
      · rw [hf] at hc0
        have hr : Hid (r = (List.range s.size).all fun k => wideB (byteAt s k)) := Lib.hid (by rw [HR.out]; simp [lettersB, hf, show 1 ≤ s.size by omega, show s.size ≤ 32 by omega])
        clear hf h0
        go_enter Tryd.func38, Tryd.ntmps38
        go_wp2_with fail
        refine (hc0.out _).mono ?_
        rintro e w' ⟨rfl, rfl⟩
        clear hb0
        go_wp2_with fail
        go_loop [24] (fun i => ∃ k : Nat, k ≤ s.size ∧ i = .int .i64 k ∧ Hid (∀ j, j < k → wideB (byteAt s j) = true)) (fun i => s.size - (intOf i).toNat)
        case atStart => exact ⟨0, by omega, rfl, fun j hj => by omega⟩
        case round =>
          obtain ⟨k, hk, rfl, hj⟩ := hrel
          by_cases hlt : k < s.size
          · have hck := Lib.hid (wide_any (byteAt s k))
            have hbk := byteAt_eq s k hlt
            cases hf : wideB (byteAt s k)
            · have hr2 : Hid (r = false) := Lib.hid (by
                rw [hr.out, List.all_eq_false]
                exact ⟨k, by simpa using hlt, by simp [hf]⟩)
              rw [hf] at hck
              clear hf
              go_wp2_with fail
              refine (hck.out _).mono ?_
              rintro e w' ⟨rfl, rfl⟩
              go_wp2
              go_ret
              exact ⟨ret_eq (by rw [hr2.out]; rfl), rfl⟩
            · rw [hf] at hck
              have hj' : Hid (∀ j, j < k + 1 → wideB (byteAt s j) = true) := Lib.hid fun j h => by
                by_cases e : j = k
                · subst e; exact hf
                · exact hj.out j (by omega)
              clear hf hj
              go_wp2_with fail
              refine (hck.out _).mono ?_
              rintro e w' ⟨rfl, rfl⟩
              go_wp2
              go_round
              case rel => exact ⟨k + 1, by omega, by go_num, hj'⟩
              case measure => simp [intOf]; omega
          · obtain rfl : k = s.size := by omega
            have hr2 : Hid (r = true) := Lib.hid (by
              rw [hr.out, List.all_eq_true]
              intro j hj2
              exact hj.out j (by simpa using hj2))
            go_wp2
            go_ret
            exact ⟨ret_eq (by rw [hr2.out]; rfl), rfl⟩

end Go.Proofs.YtjefoojkgocinaaDoor

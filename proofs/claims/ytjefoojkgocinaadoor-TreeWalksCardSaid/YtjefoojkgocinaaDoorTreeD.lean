/- The walks of loanwordref03.Name and TypeName. -/
import Derived.Test.YtjefoojkgocinaaDoorTreeC
namespace Go.Proofs.YtjefoojkgocinaaDoor
open Go.RowKit

theorem letters_no {first all : Nat → Bool} {s : ByteArray} {k : Nat} (hk : k < s.size) (h : (k = 0 ∧ first (byteAt s 0) = false) ∨ all (byteAt s k) = false) : lettersB first all s = false := by
  unfold lettersB
  rcases h with ⟨rfl, h⟩ | h
  · simp [h]
  · have : ((List.range s.size).all fun k => all (byteAt s k)) = false := by
      rw [List.all_eq_false]; exact ⟨k, by simpa using hk, by simp [h]⟩
    rw [this, Bool.and_false]
theorem letters_yes {first all : Nat → Bool} {s : ByteArray} (h0 : 0 < s.size → first (byteAt s 0) = true) (h : ∀ j, j < s.size → all (byteAt s j) = true) :
    lettersB first all s = (decide (1 ≤ s.size) && decide (s.size ≤ 32)) := by
  unfold lettersB
  have : ((List.range s.size).all fun k => all (byteAt s k)) = true := by
    rw [List.all_eq_true]; intro j hj; exact h j (by simpa using hj)
  rw [this, Bool.and_true]
  by_cases h1 : 0 < s.size
  · rw [h0 h1, Bool.and_true]
  · simp [show ¬ 1 ≤ s.size by omega]

set_option maxRecDepth 100000 in
set_option maxHeartbeats 2000000 in
theorem cname_any (s : ByteArray) (w : World) (hs : s.size ≤ 9223372036854775807) :
    Calls Tryd.prog 20 #[.string s] w fun e w' => e = .returned (.bool (nameB s)) ∧ w = w' := by
  obtain ⟨r, hr⟩ : ∃ r, r = nameB s := ⟨_, rfl⟩
  have Hr : Hid (r = (lettersB smallB plainB s && !kwB s)) := Lib.hid hr
  rw [← hr]
  clear hr
  go_enter Tryd.func20, Tryd.ntmps20
  go_wp2_with fail
  go_loop [3] (fun i => ∃ k : Nat, k ≤ s.size ∧ i = .int .i64 k ∧ Hid (∀ j, j < k → (smallB (byteAt s j) || (decide (j ≠ 0) && otherB (byteAt s j))) = true)) (fun i => s.size - (intOf i).toNat)
  case atStart => exact ⟨0, by omega, rfl, fun j hj => by omega⟩
  case round =>
    obtain ⟨k, hk, rfl, hj⟩ := hrel
    by_cases hlt : k < s.size
    · have hbk := byteAt_eq s k hlt
      have Hs := Lib.hid (csmall_any (byteAt s k))
      have Ho := Lib.hid (cother_any (byteAt s k))
      have hno : Hid ((k = 0 ∧ smallB (byteAt s k) = false) ∨ (smallB (byteAt s k) = false ∧ otherB (byteAt s k) = false) → r = false) := Lib.hid fun h => by
        rw [Hr.out, letters_no hlt, Bool.false_and]
        rcases h with ⟨rfl, h⟩ | ⟨h, h'⟩
        · exact .inl ⟨rfl, h⟩
        · right; unfold plainB; rw [h, h']; rfl
      have hyes : Hid ((smallB (byteAt s k) || (decide (k ≠ 0) && otherB (byteAt s k))) = true → ∀ j, j < k + 1 → (smallB (byteAt s j) || (decide (j ≠ 0) && otherB (byteAt s j))) = true) := Lib.hid fun h j hj2 => by
        by_cases e : j = k
        · subst e; exact h
        · exact hj.out j (by omega)
      clear hj
      generalize smallB (byteAt s k) = b0 at Hs hno hyes
      generalize otherB (byteAt s k) = b1 at Ho hno hyes
      cases b0
      · by_cases hk0 : k = 0
        · subst hk0
          have hr := Lib.hid (hno.out (.inl ⟨rfl, rfl⟩))
          push_cast
          go_wp2_with fail
          refine (Hs.out _).mono ?_
          rintro e w' ⟨rfl, rfl⟩
          go_wp2
          go_ret
          exact ⟨ret_eq (by rw [hr.out]; rfl), rfl⟩
        · have t0 : ((k : Int) == 0) = false := by simp; omega
          cases b1
          · have hr := Lib.hid (hno.out (.inr ⟨rfl, rfl⟩))
            clear hk0
            go_wp2_with fail
            refine (Hs.out _).mono ?_
            rintro e w' ⟨rfl, rfl⟩
            go_wp2_with fail
            refine (Ho.out _).mono ?_
            rintro e w' ⟨rfl, rfl⟩
            go_wp2
            go_ret
            exact ⟨ret_eq (by rw [hr.out]; rfl), rfl⟩
          · have hr := Lib.hid (hyes.out (by simp [hk0]))
            clear hk0
            go_wp2_with fail
            refine (Hs.out _).mono ?_
            rintro e w' ⟨rfl, rfl⟩
            go_wp2_with fail
            refine (Ho.out _).mono ?_
            rintro e w' ⟨rfl, rfl⟩
            go_wp2
            go_round
            case rel => exact ⟨k + 1, by omega, by go_num, hr⟩
            case measure => simp [intOf]; omega
      · have hr := Lib.hid (hyes.out rfl)
        go_wp2_with fail
        refine (Hs.out _).mono ?_
        rintro e w' ⟨rfl, rfl⟩
        go_wp2
        go_round
        case rel => exact ⟨k + 1, by omega, by go_num, hr⟩
        case measure => simp [intOf]; omega
    · obtain rfl : k = s.size := by omega
      have hl : Hid (lettersB smallB plainB s = (decide (1 ≤ s.size) && decide (s.size ≤ 32))) := Lib.hid (letters_yes
        (fun h => by have := hj.out 0 h; simpa using this) (fun j hj2 => by
          have := hj.out j hj2
          unfold plainB
          cases h1 : smallB (byteAt s j)
          · rw [h1] at this; simp at this; simp [this.2]
          · rfl))
      have t1 := dle1 (k := 1) (c := s.size) (m := 1) rfl
      have t2 := dle2 (k := 32) (c := s.size) (m := 32) rfl
      have Hk := Lib.hid (ckeyword_any s)
      clear hj
      generalize kwB s = b3 at Hk Hr
      generalize decide (1 ≤ s.size) = b1 at t1 hl
      generalize decide (s.size ≤ 32) = b2 at t2 hl
      cases b1
      · go_wp2
        go_ret
        exact ⟨ret_eq (by rw [Hr.out, hl.out]; rfl), rfl⟩
      · cases b2
        · go_wp2
          go_ret
          exact ⟨ret_eq (by rw [Hr.out, hl.out]; rfl), rfl⟩
        · go_wp2_with fail
          refine (Hk.out _).mono ?_
          rintro e w' ⟨rfl, rfl⟩
          go_wp2
          go_ret
          exact ⟨ret_eq (by rw [Hr.out, hl.out]; rfl), rfl⟩

set_option maxRecDepth 100000 in
set_option maxHeartbeats 2000000 in
theorem ctypeName_any (s : ByteArray) (w : World) (hs : s.size ≤ 9223372036854775807) :
    Calls Tryd.prog 22 #[.string s] w fun e w' => e = .returned (.bool (typeNameB s)) ∧ w = w' := by
  obtain ⟨r, hr⟩ : ∃ r, r = typeNameB s := ⟨_, rfl⟩
  have Hr : Hid (r = (lettersB greatB wideB s && !(s.toList == [66, 111, 120]))) := Lib.hid hr
  rw [← hr]
  clear hr
  go_enter Tryd.func22, Tryd.ntmps22
  go_wp2_with fail
  go_loop [3] (fun i => ∃ k : Nat, k ≤ s.size ∧ i = .int .i64 k ∧ Hid (∀ j, j < k → (greatB (byteAt s j) || (decide (j ≠ 0) && (smallB (byteAt s j) || otherB (byteAt s j)))) = true)) (fun i => s.size - (intOf i).toNat)
  case atStart => exact ⟨0, by omega, rfl, fun j hj => by omega⟩
  case round =>
    obtain ⟨k, hk, rfl, hj⟩ := hrel
    by_cases hlt : k < s.size
    · have hbk := byteAt_eq s k hlt
      have Hg := Lib.hid (cgreat_any (byteAt s k))
      have Hs := Lib.hid (csmall_any (byteAt s k))
      have Ho := Lib.hid (cother_any (byteAt s k))
      have hno : Hid ((k = 0 ∧ greatB (byteAt s k) = false) ∨ (greatB (byteAt s k) = false ∧ smallB (byteAt s k) = false ∧ otherB (byteAt s k) = false) → r = false) := Lib.hid fun h => by
        rw [Hr.out, letters_no hlt, Bool.false_and]
        rcases h with ⟨rfl, h⟩ | ⟨h, h', h''⟩
        · exact .inl ⟨rfl, h⟩
        · right; unfold wideB plainB; rw [h, h', h'']; rfl
      have hyes : Hid ((greatB (byteAt s k) || (decide (k ≠ 0) && (smallB (byteAt s k) || otherB (byteAt s k)))) = true → ∀ j, j < k + 1 → (greatB (byteAt s j) || (decide (j ≠ 0) && (smallB (byteAt s j) || otherB (byteAt s j)))) = true) := Lib.hid fun h j hj2 => by
        by_cases e : j = k
        · subst e; exact h
        · exact hj.out j (by omega)
      clear hj
      generalize greatB (byteAt s k) = b0 at Hg hno hyes
      generalize smallB (byteAt s k) = b1 at Hs hno hyes
      generalize otherB (byteAt s k) = b2 at Ho hno hyes
      cases b0
      · by_cases hk0 : k = 0
        · subst hk0
          have hr := Lib.hid (hno.out (.inl ⟨rfl, rfl⟩))
          push_cast
          go_wp2_with fail
          refine (Hg.out _).mono ?_
          rintro e w' ⟨rfl, rfl⟩
          go_wp2
          go_ret
          exact ⟨ret_eq (by rw [hr.out]; rfl), rfl⟩
        · have t0 : ((k : Int) == 0) = false := by simp; omega
          cases b1
          · cases b2
            · have hr := Lib.hid (hno.out (.inr ⟨rfl, rfl, rfl⟩))
              clear hk0
              go_wp2_with fail
              refine (Hg.out _).mono ?_
              rintro e w' ⟨rfl, rfl⟩
              go_wp2_with fail
              refine (Hs.out _).mono ?_
              rintro e w' ⟨rfl, rfl⟩
              go_wp2_with fail
              refine (Ho.out _).mono ?_
              rintro e w' ⟨rfl, rfl⟩
              go_wp2
              go_ret
              exact ⟨ret_eq (by rw [hr.out]; rfl), rfl⟩
            · have hr := Lib.hid (hyes.out (by simp [hk0]))
              clear hk0
              go_wp2_with fail
              refine (Hg.out _).mono ?_
              rintro e w' ⟨rfl, rfl⟩
              go_wp2_with fail
              refine (Hs.out _).mono ?_
              rintro e w' ⟨rfl, rfl⟩
              go_wp2_with fail
              refine (Ho.out _).mono ?_
              rintro e w' ⟨rfl, rfl⟩
              go_wp2
              go_round
              case rel => exact ⟨k + 1, by omega, by go_num, hr⟩
              case measure => simp [intOf]; omega
          · have hr := Lib.hid (hyes.out (by simp [hk0]))
            clear hk0
            go_wp2_with fail
            refine (Hg.out _).mono ?_
            rintro e w' ⟨rfl, rfl⟩
            go_wp2_with fail
            refine (Hs.out _).mono ?_
            rintro e w' ⟨rfl, rfl⟩
            go_wp2
            go_round
            case rel => exact ⟨k + 1, by omega, by go_num, hr⟩
            case measure => simp [intOf]; omega
      · have hr := Lib.hid (hyes.out rfl)
        go_wp2_with fail
        refine (Hg.out _).mono ?_
        rintro e w' ⟨rfl, rfl⟩
        go_wp2
        go_round
        case rel => exact ⟨k + 1, by omega, by go_num, hr⟩
        case measure => simp [intOf]; omega
    · obtain rfl : k = s.size := by omega
      have hl : Hid (lettersB greatB wideB s = (decide (1 ≤ s.size) && decide (s.size ≤ 32))) := Lib.hid (letters_yes
        (fun h => by have := hj.out 0 h; simpa using this) (fun j hj2 => by
          have := hj.out j hj2
          unfold wideB plainB
          cases h1 : greatB (byteAt s j)
          · rw [h1] at this; simp at this; simp [this.2]
          · simp))
      have t1 := dle1 (k := 1) (c := s.size) (m := 1) rfl
      have t2 := dle2 (k := 32) (c := s.size) (m := 32) rfl
      clear hj
      obtain ⟨b3, hb3⟩ : ∃ b3, (s.toList == [66, 111, 120]) = b3 := ⟨_, rfl⟩
      rw [hb3] at Hr
      generalize decide (1 ≤ s.size) = b1 at t1 hl
      generalize decide (s.size ≤ 32) = b2 at t2 hl
      cases b1 <;> cases b2 <;> cases b3
      all_goals
        go_wp2
        go_ret
        exact ⟨ret_eq (by rw [Hr.out, hl.out]; rfl), rfl⟩
end Go.Proofs.YtjefoojkgocinaaDoor

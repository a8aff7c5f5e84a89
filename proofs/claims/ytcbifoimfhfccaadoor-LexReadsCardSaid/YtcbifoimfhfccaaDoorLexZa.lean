/- lex.Line, lex.Lines; loanwordref02.Line. -/
import Derived.Test.YtcbifoimfhfccaaDoorLexY
import Derived.Test.YtcbifoimfhfccaaDoorLexO
namespace Go.Proofs.YtcbifoimfhfccaaDoor
open Go.RowKit

set_option maxRecDepth 100000 in
set_option maxHeartbeats 8000000 in
theorem line_any (s : ByteArray) (at_ : Int) (hs : s.size ≤ 9223372036854775807) (w : World) :
    Calls Tryd.prog 17 #[.string s, .int .i64 at_] w fun e w' => e = .returned (.tuple #[.int .i64 ((lineS s at_).1 : Nat), .int .i64 ((lineS s at_).2.1 : Nat), .int .i64 ((lineS s at_).2.2 : Nat)]) ∧ w = w' := by
  obtain ⟨O, hO⟩ : ∃ O, O = lineS s at_ := ⟨_, rfl⟩
  rw [← hO]
  unfold lineS at hO
  by_cases h1 : 65536 < s.size
  · have d1 : decide ((65536 : Int) < (s.size : Int)) = true := decide_eq_true (by omega)
    have HE : Hid (O = (0, 0, 3)) := Lib.hid (by rw [hO, if_pos h1])
    clear hO h1
    go_enter Tryd.func17, Tryd.ntmps17
    go_wp2_with fail
    (try simp only [Exit.inBlock, Exit.then])
    refine bodyPost_ret (results_tmp3 rfl _ _ _) rfl ?_
    exact ⟨ret_eq (by rw [HE.out]; rfl), rfl⟩
  rw [if_neg h1] at hO
  have d1 : decide ((65536 : Int) < (s.size : Int)) = false := decide_eq_false (by omega)
  by_cases h2 : at_ < 0
  · have d2 : decide (at_ < 0) = true := decide_eq_true h2
    have HE : Hid (O = (0, 0, 2)) := Lib.hid (by rw [hO, if_pos (Or.inl h2)])
    clear hO h1 h2
    go_enter Tryd.func17, Tryd.ntmps17
    go_wp2_with fail
    (try simp only [Exit.inBlock, Exit.then])
    refine bodyPost_ret (results_tmp3 rfl _ _ _) rfl ?_
    exact ⟨ret_eq (by rw [HE.out]; rfl), rfl⟩
  have d2 : decide (at_ < 0) = false := decide_eq_false h2
  by_cases h3 : (s.size : Int) < at_
  · have d3 : decide ((s.size : Int) < at_) = true := decide_eq_true h3
    have HE : Hid (O = (0, 0, 2)) := Lib.hid (by rw [hO, if_pos (Or.inr h3)])
    clear hO h1 h2 h3
    go_enter Tryd.func17, Tryd.ntmps17
    go_wp2_with fail
    (try simp only [Exit.inBlock, Exit.then])
    refine bodyPost_ret (results_tmp3 rfl _ _ _) rfl ?_
    exact ⟨ret_eq (by rw [HE.out]; rfl), rfl⟩
  rw [if_neg (by omega)] at hO
  obtain ⟨k, rfl⟩ : ∃ k : Nat, at_ = (k : Int) := ⟨at_.toNat, by omega⟩
  rw [Int.toNat_natCast] at hO
  have hk : k ≤ s.size := by omega
  have d3 : decide ((s.size : Int) < (k : Int)) = false := decide_eq_false h3
  have e1 := lnF_count s k hk
  have e2 := (colF_last s k hk _ rfl).1
  have l1 := lnF_le s k
  have l2 := colF_le s k
  have z1 := size_ext s (a := 0) (n := k) (by omega)
  rw [Nat.zero_add] at z1
  have CT := Lib.hid (fun (W : World) => Tryd.strings_Count_one (s.extract 0 k) 10 W)
  have LI := Lib.hid (fun (W : World) => Tryd.strings_LastIndexByte (s.extract 0 k) 10 (by omega) W)
  have w1 : IntKind.i64.wrap (1 + (Lib.countByte (s.extract 0 k).data.toList 10 : Int)) = (lnF s k : Int) := by rw [w64 (by omega) (by omega)]; omega
  have w2 : IntKind.i64.wrap ((k : Int) - Lib.lastIndexByte (s.extract 0 k) 10) = (colF s k : Int) := by rw [w64 (by omega) (by omega)]; omega
  have ik : (k : Int) ≤ (s.size : Int) := by omega
  have HE := Lib.hid hO
  clear hO h1 h2 h3 e1 e2 l1 l2 z1 hk
  generalize Lib.countByte (s.extract 0 k).data.toList 10 = cb at CT w1
  generalize Lib.lastIndexByte (s.extract 0 k) 10 = lb at LI w2
  go_enter Tryd.func17, Tryd.ntmps17
  go_wp2_with fail
  refine (CT.out _).mono ?_
  rintro e w2 ⟨rfl, hw⟩
  have hw := hw.symm
  subst hw
  go_wp2_with fail
  refine (LI.out _).mono ?_
  rintro e w2 ⟨rfl, hw⟩
  have hw := hw.symm
  subst hw
  go_wp2_with fail
  (try simp only [Exit.inBlock, Exit.then])
  refine bodyPost_ret (results_tmp3 rfl _ _ _) rfl ?_
  exact ⟨ret_eq (by rw [HE.out]; rfl), rfl⟩
set_option maxRecDepth 100000 in
set_option maxHeartbeats 8000000 in
theorem lines_any (s : ByteArray) (hs : s.size ≤ 65536) (w : World) (m : Int) (hm : w.cell? ⟨0, 0, none⟩ = some (.int .i64 m)) :
    Calls Tryd.prog 19 #[.string s] w fun e w' => ∃ g, e = .returned (.tuple #[.slice (some ⟨g, 0, none⟩) (linesS s).length (linesS s).length, .int .i64 0]) ∧ SL w' g (linesS s) ∧ KB F0 w w' := by
  have SP := Lib.hid (Tryd.strings_Split s nlB m w (by omega) hm (by decide))
  rw [← lines_len, split_lines] at SP
  obtain ⟨L, hL⟩ : ∃ L, L = linesS s := ⟨_, rfl⟩
  rw [← hL] at SP ⊢
  have d1 : decide ((65536 : Int) < (s.size : Int)) = false := decide_eq_false (by omega)
  clear hL hm
  go_enter Tryd.func19, Tryd.ntmps19
  go_wp2_with fail
  refine SP.out.mono ?_
  rintro e w2 ⟨rfl, hw⟩
  have HS : Hid (SL w2 w.heap.size L ∧ KB F0 w w2) := Lib.hid (by rw [hw]; exact ⟨alloc_new _ _, (KB.refl F0 w).alloc _⟩)
  clear hw
  go_wp2_with fail
  go_ret2
  exact ⟨_, rfl, HS.out⟩
theorem lines_long (s : ByteArray) (hs : 65536 < s.size) (w : World) :
    Calls Tryd.prog 19 #[.string s] w fun e w' => e = .returned (.tuple #[.slice none 0 0, .int .i64 3]) ∧ w = w' := by
  have d1 : decide ((65536 : Int) < (s.size : Int)) = true := decide_eq_true (by omega)
  clear hs
  go_enter Tryd.func19, Tryd.ntmps19
  go_wp2_with fail
  go_ret2
  exact ⟨rfl, rfl⟩
set_option maxRecDepth 100000 in
set_option maxHeartbeats 8000000 in
theorem rline_any (s : ByteArray) (at_ : Int) (hs : s.size ≤ 9223372036854775807) (w : World) :
    Calls Tryd.prog 18 #[.string s, .int .i64 at_] w fun e w' => e = .returned (.tuple #[.int .i64 ((lineS s at_).1 : Nat), .int .i64 ((lineS s at_).2.1 : Nat), .int .i64 ((lineS s at_).2.2 : Nat)]) ∧ KB F0 w w' := by
  obtain ⟨w0, rfl⟩ : ∃ w0, w0 = w := ⟨_, rfl⟩
  obtain ⟨O, hO⟩ : ∃ O, O = lineS s at_ := ⟨_, rfl⟩
  rw [← hO]
  unfold lineS at hO
  by_cases h1 : 65536 < s.size
  · have d1 : decide ((65536 : Int) < (s.size : Int)) = true := decide_eq_true (by omega)
    have HE : Hid (O = (0, 0, 3)) := Lib.hid (by rw [hO, if_pos h1])
    clear hO h1
    go_enter Tryd.func18, Tryd.ntmps18
    go_wp2_with fail
    (try simp only [Exit.inBlock, Exit.then])
    refine bodyPost_ret (results_tmp3 rfl _ _ _) rfl ?_
    exact ⟨ret_eq (by rw [HE.out]; rfl), KB.refl _ _⟩
  rw [if_neg h1] at hO
  have d1 : decide ((65536 : Int) < (s.size : Int)) = false := decide_eq_false (by omega)
  by_cases h2 : at_ < 0
  · have d2 : decide (at_ < 0) = true := decide_eq_true h2
    have HE : Hid (O = (0, 0, 2)) := Lib.hid (by rw [hO, if_pos (Or.inl h2)])
    clear hO h1 h2
    go_enter Tryd.func18, Tryd.ntmps18
    go_wp2_with fail
    (try simp only [Exit.inBlock, Exit.then])
    refine bodyPost_ret (results_tmp3 rfl _ _ _) rfl ?_
    exact ⟨ret_eq (by rw [HE.out]; rfl), KB.refl _ _⟩
  have d2 : decide (at_ < 0) = false := decide_eq_false h2
  by_cases h3 : (s.size : Int) < at_
  · have d3 : decide ((s.size : Int) < at_) = true := decide_eq_true h3
    have HE : Hid (O = (0, 0, 2)) := Lib.hid (by rw [hO, if_pos (Or.inr h3)])
    clear hO h1 h2 h3
    go_enter Tryd.func18, Tryd.ntmps18
    go_wp2_with fail
    (try simp only [Exit.inBlock, Exit.then])
    refine bodyPost_ret (results_tmp3 rfl _ _ _) rfl ?_
    exact ⟨ret_eq (by rw [HE.out]; rfl), KB.refl _ _⟩
  rw [if_neg (by omega)] at hO
  obtain ⟨k, rfl⟩ : ∃ k : Nat, at_ = (k : Int) := ⟨at_.toNat, by omega⟩
  rw [Int.toNat_natCast] at hO
  have hk : k ≤ s.size := by omega
  have hsz : s.size ≤ 65536 := by omega
  have d3 : decide ((s.size : Int) < (k : Int)) = false := decide_eq_false h3
  have HE := Lib.hid hO
  clear hO h1 h2 h3
  go_enter Tryd.func18, Tryd.ntmps18
  go_wp2_with fail
  go_loopw [7, 8, 9] (fun lv cv jv wr => ∃ j : Nat, j ≤ k ∧ lv = .int .i64 (lnF s j : Nat) ∧ cv = .int .i64 (colF s j : Nat) ∧ jv = .int .i64 (j : Nat) ∧ KB F0 w0 wr) (fun _ _ jv _ => k - (intOf jv).toNat)
  case atStart => exact ⟨0, by omega, rfl, rfl, rfl, KB.refl _ _⟩
  case round =>
    obtain ⟨j, hj, rfl, rfl, rfl, hkb⟩ := hrel
    by_cases hlt : j < k
    · have d4 : decide ((j : Int) < (k : Int)) = true := decide_eq_true (by omega)
      have hjs : j < s.size := by omega
      have hb := byteAt_eq s j hjs
      have ij : (j : Int) < (s.size : Int) := by omega
      have l1 := lnF_le s j
      have l2 := colF_le s j
      have w1 : IntKind.i64.wrap ((colF s j : Int) + 1) = ((colF s j + 1 : Nat) : Int) := by rw [w64 (by omega) (by omega)]; omega
      have w2 : IntKind.i64.wrap ((lnF s j : Int) + 1) = ((lnF s j + 1 : Nat) : Int) := by rw [w64 (by omega) (by omega)]; omega
      by_cases h10 : byteAt s j = 10
      · have e1 : Hid (lnF s (j + 1) = lnF s j + 1 ∧ colF s (j + 1) = 1) := Lib.hid (by rw [lnF, colF, if_pos h10, if_pos h10]; exact ⟨rfl, rfl⟩)
        have d5 : ((byteAt s j : Int) == 10) = true := by simp; omega
        generalize lnF s j = a at l1 w2 e1 ⊢
        generalize colF s j = b at l2 w1 e1 ⊢
        generalize byteAt s j = c at hb d5
        clear h10 l1 l2
        go_wp2_with fail
        go_roundw
        case rel => exact ⟨j + 1, by omega, by rw [e1.out.1]; go_num, by rw [e1.out.2]; rfl, by go_num, hkb⟩
        case measure => simp [intOf]; omega
      · have e1 : Hid (lnF s (j + 1) = lnF s j ∧ colF s (j + 1) = colF s j + 1) := Lib.hid (by rw [lnF, colF, if_neg h10, if_neg h10]; exact ⟨rfl, rfl⟩)
        have d5 : ((byteAt s j : Int) == 10) = false := by simp; omega
        generalize lnF s j = a at l1 w2 e1 ⊢
        generalize colF s j = b at l2 w1 e1 ⊢
        generalize byteAt s j = c at hb d5
        clear h10 l1 l2
        go_wp2_with fail
        go_roundw
        case rel => exact ⟨j + 1, by omega, by rw [e1.out.1], by rw [e1.out.2]; go_num, by go_num, hkb⟩
        case measure => simp [intOf]; omega
    · obtain rfl : j = k := by omega
      have d4 : decide ((j : Int) < (j : Int)) = false := decide_eq_false (by omega)
      go_wp2_with fail
      (try simp only [Exit.inBlock, Exit.then])
      refine bodyPost_ret (results_tmp3 rfl _ _ _) rfl ?_
      exact ⟨ret_eq (by rw [HE.out]; rfl), hkb⟩
end Go.Proofs.YtcbifoimfhfccaaDoor

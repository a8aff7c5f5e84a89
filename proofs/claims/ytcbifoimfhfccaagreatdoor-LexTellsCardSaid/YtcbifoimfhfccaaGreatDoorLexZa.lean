/- lex.Line. -/
import Derived.Test.YtcbifoimfhfccaaGreatDoorLexY
import Derived.Test.YtcbifoimfhfccaaGreatDoorLexO
namespace Go.Proofs.YtcbifoimfhfccaaGreatDoor
open Go.RowKit

set_option maxRecDepth 100000 in
set_option maxHeartbeats 8000000 in
theorem line_any (s : ByteArray) (at_ : Int) (hs : s.size ≤ 9223372036854775807) (w : World) :
    Calls Tryz.prog 16 #[.string s, .int .i64 at_] w fun e w' => e = .returned (.tuple #[.int .i64 ((lineS s at_).1 : Nat), .int .i64 ((lineS s at_).2.1 : Nat), .int .i64 ((lineS s at_).2.2 : Nat)]) ∧ w = w' := by
  obtain ⟨O, hO⟩ : ∃ O, O = lineS s at_ := ⟨_, rfl⟩
  rw [← hO]
  unfold lineS at hO
  by_cases h1 : 65536 < s.size
  · have d1 : decide ((65536 : Int) < (s.size : Int)) = true := decide_eq_true (by omega)
    have HE : Hid (O = (0, 0, 3)) := Lib.hid (by rw [hO, if_pos h1])
    clear hO h1
    go_enter Tryz.func16, Tryz.ntmps16
    go_wp2_with fail
    (try simp only [Exit.inBlock, Exit.then])
    refine bodyPost_ret (results_tmp3 rfl _ _ _) rfl ?_
    exact ⟨ret_eq (by rw [HE.out]; rfl), rfl⟩
  rw [if_neg h1] at hO
  have d1 : decide ((65536 : Int) < (s.size : Int)) = false := decide_eq_false (by omega)
  by_cases h2 : at_ < 0
  · have d2 : decide (at_ < 0) = true := decide_eq_true h2
    have HE : Hid (O = (0, 0, 2)) := Lib.hid (by rw [hO, if_pos (Or.inl h2)])
    clear hO h1 h2
    go_enter Tryz.func16, Tryz.ntmps16
    go_wp2_with fail
    (try simp only [Exit.inBlock, Exit.then])
    refine bodyPost_ret (results_tmp3 rfl _ _ _) rfl ?_
    exact ⟨ret_eq (by rw [HE.out]; rfl), rfl⟩
  have d2 : decide (at_ < 0) = false := decide_eq_false h2
  by_cases h3 : (s.size : Int) < at_
  · have d3 : decide ((s.size : Int) < at_) = true := decide_eq_true h3
    have HE : Hid (O = (0, 0, 2)) := Lib.hid (by rw [hO, if_pos (Or.inr h3)])
    clear hO h1 h2 h3
    go_enter Tryz.func16, Tryz.ntmps16
    go_wp2_with fail
    (try simp only [Exit.inBlock, Exit.then])
    refine bodyPost_ret (results_tmp3 rfl _ _ _) rfl ?_
    exact ⟨ret_eq (by rw [HE.out]; rfl), rfl⟩
  rw [if_neg (by omega)] at hO
  obtain ⟨k, rfl⟩ : ∃ k : Nat, at_ = (k : Int) := ⟨at_.toNat, by omega⟩
  rw [Int.toNat_natCast] at hO
  have hk : k ≤ s.size := by omega
  have d3 : decide ((s.size : Int) < (k : Int)) = false := decide_eq_false h3
  have e1 := lnF_count s k hk
  have e2 := (colF_last s k hk _ rfl).1
  have l1 := lnF_le s k
  have l2 := colF_le s k
  have z1 := size_ext s (a := 0) (n := k) (by omega)
  rw [Nat.zero_add] at z1
  have CT := Lib.hid (fun (W : World) => Tryz.strings_Count_one (s.extract 0 k) 10 W)
  have LI := Lib.hid (fun (W : World) => Tryz.strings_LastIndexByte (s.extract 0 k) 10 (by omega) W)
  have w1 : IntKind.i64.wrap (1 + (Lib.countByte (s.extract 0 k).data.toList 10 : Int)) = (lnF s k : Int) := by rw [w64 (by omega) (by omega)]; omega
  have w2 : IntKind.i64.wrap ((k : Int) - Lib.lastIndexByte (s.extract 0 k) 10) = (colF s k : Int) := by rw [w64 (by omega) (by omega)]; omega
  have ik : (k : Int) ≤ (s.size : Int) := by omega
  have HE := Lib.hid hO
  clear hO h1 h2 h3 e1 e2 l1 l2 z1 hk
  generalize Lib.countByte (s.extract 0 k).data.toList 10 = cb at CT w1
  generalize Lib.lastIndexByte (s.extract 0 k) 10 = lb at LI w2
  go_enter Tryz.func16, Tryz.ntmps16
  go_wp2_with fail
  refine (CT.out _).mono ?_
  rintro e w2 ⟨rfl, hw⟩
  have hw := hw.symm
  subst hw
  go_wp2_with fail
  refine (LI.out _).mono ?_
  rintro e w2 ⟨rfl, hw⟩
  have hw := hw.symm
  subst hw
  go_wp2_with fail
  (try simp only [Exit.inBlock, Exit.then])
  refine bodyPost_ret (results_tmp3 rfl _ _ _) rfl ?_
  exact ⟨ret_eq (by rw [HE.out]; rfl), rfl⟩
end Go.Proofs.YtcbifoimfhfccaaGreatDoor
